/- Reflection, part L: every operation that makes or writes objects. -/
import Derived.Test.YtollcjadobpfdaaGreatRxK
set_option linter.unusedVariables false
set_option linter.unusedSimpArgs false
set_option linter.unusedSectionVars false
namespace Go.Rx
section
variable {w0:World} {Fz av:Nat->Prop} {Lo:Nat->RL} {R:Nat->RL} {Pr:Nat->Prop} {σ:St} {a:Act} {w:World}
variable {P:Program} {T:bh} (hT:bC P T) {Y:dZ}
theorem qW (off:Nat):∀(l:List (Value×Nat)) (cells:Array Value),(l.foldl (λ cs (c,j)=>cs.setIfInBounds (off+j) c) cells).size=cells.size
 | [],_=>rfl
 |x::l,cells=>by rw [List.foldl_cons,qW off l];simp
theorem l9 {place:Nat->Option (Nat×Nat)}:∀(vals:List (Nat×Value)) (vs us:Array Value),Instr.fill place vs vals=some us->us.size=vs.size
 | [],vs,us,h=>by simp [Instr.fill] at h;rw [h]
 | (i,v)::r,vs,us,h=>by
   simp only [Instr.fill] at h
   split at h
   ·cases h
   ·split at h
    ·cases h
    ·rw [l9 r _ us h]
     rw [<-Array.foldl_toList]
     exact qW _ _ _
include hT
theorem lR {t el:TypeId} {i:TI} {ti:TypeInfo} {zv:Value} {n:Int} (hu:P.underlying t=some (.slice el)) (hi:T.get el=some i) (g1:P.info? el=some ti) (g2:ti.zero=some zv) (g4:ti.bytes=i.bytes) (hby:i.bytes<=1024) (h0:0<=n) (h1:n<=1073741824):
 (Instr.makeSlice t (.int .i64 n) (.int .i64 n)).run P w=.ok (.slice (some ⟨w.heap.size,0,none⟩) n.toNat n.toNat) (w.alloc (.cells ((Array.range (n.toNat * i.size)).map (zv.cells[· % zv.cells.size]!)) el)):=by
 have hw:IntKind.i64.wrap n=n:=by
  have h3:n % 2 ^ 64=n:=Int.emod_eq_of_lt h0 (by omega)
  have h4: ¬(n ≥ 2 ^ 63):=by omega
  simp [IntKind.wrap,IntKind.bits,IntKind.signed]
  omega
 have hbytes: ¬(ti.bytes:Int) * n >2 ^ 48:=by
  have h2:(ti.bytes:Int)<=1024:=by rw [g4];omega
  have:(ti.bytes:Int) * n<=1024 * 1073741824:=Int.mul_le_mul h2 h1 h0 (by omega)
  omega
 have hsize:=bQ hT hi w
 have AU:(typeInfo el).run P w=.ok ti w:=by simp [typeInfo,g1]
 have xe:(zeroValue el).run P w=.ok zv w:=by simp [zeroValue,typeInfo,g1,g2]
 have mu:n.toNat * i.size=0->((Array.range (n.toNat * i.size)).map (λ x=> (#[] :Array Value)[x % (#[] :Array Value).size]!))=((Array.range (n.toNat * i.size)).map (zv.cells[· % zv.cells.size]!)):=λ h0=>by
  rw [h0];apply Array.ext';simp
 unfold Instr.makeSlice
 simp only [Sem.run_bind,run_underlying hu,Result.andThen_ok,asInt,asIntOf,Sem.run_pure,AU,hw]
 rw [if_neg (by
  simp only [Bool.or_eq_true,decide_eq_true_eq,not_or]
  omega)]
 simp only [Sem.run_bind,run_askRoom,Sem.run_pure,Result.andThen_ok,hsize]
 by_cases hz0:n.toNat * i.size=0
 ·rw [if_pos hz0]
  simp only [Sem.run_bind,Sem.run_pure,Result.andThen_ok,mu hz0]
  simp [newRow]
 ·rw [if_neg hz0]
  simp only [Sem.run_bind,Sem.run_pure,Result.andThen_ok,xe]
  simp [newRow]
theorem vo (h:Inv w0 Fz av Lo R Pr σ a w) {o:Oper} {e:bK} (he:bD T Y σ.ρ σ.ob σ.objs.length o.dst o.op=some e) (hh:cz e.conds):
 ∃n u w' R',(execOp a.eval o).run P w=.ok n w'/\(n=.value u\/(n=.skip/\u=undef))/\Inv w0 Fz av Lo R' Pr (σ.ef o.dst e) (a.put o.dst u) w':=by
 obtain ⟨dst,op,ty,pos,after,guard⟩:=o
 simp only at he ⊢
 cases op with
 |box el x=>
  simp only [bD] at he
  split at he
  ·rename_i d x1 hx
   split at he
   ·rename_i cs hcs
    have hr:=h.cu x
    rw [hx] at hr
    obtain ⟨R',cr⟩:=qQ hT h (dst:=some d) (el:=el) (vs:=(a.eval x).cells) he (dI hr hcs).1 (λ c hc κ aa=>h.y6 x (by rw [hx];exact ux hT hcs hc aa))
    exact ⟨_,_,_,R',by simp [execOp,Instr.box,newVar,newRow],.inl rfl,cr⟩
   ·cases he
  ·cases he
 |alloc el=>
  simp only [bD] at he
  split at he
  ·rename_i d i hi
   split at he
   ·rename_i b z hz
    obtain ⟨ti,zv,g1,g2,g3,g4,g5,g6⟩:=fc hT hi hz w R Pr
    obtain ⟨R',cr⟩:=qQ hT h (dst:=some d) (el:=el) (vs:=zv.cells) he g5 (λ c hc κ aa=>by rw [g6 c hc] at aa;cases aa)
    exact ⟨_,_,_,R',by simp [execOp,Instr.alloc,newVar,newRow,zeroValue,typeInfo,g1,g2],.inl rfl,cr⟩
   ·cases he
  ·cases he
 |buildSlice t n parts=>
  simp only [bD] at he
  split at he
  ·rename_i d it hit
   split at he
   ·rename_i el hd
    split at he
    ·rename_i i bp hi gL
     split at he
     ·rename_i b z hz
      split at he
      ·rename_i aY
       obtain ⟨hzl,hsz,hbig⟩:=aY
       split at he
       ·rename_i cs hcs
        split at he
        ·rename_i l hl
         have hu:=bY hT hit hd
         obtain ⟨ti,zv,g1,g2,g3,g4,g5,g6⟩:=fc hT hi hz w R Pr
         have hzs:zv.cells.size=i.size:=by have:=g5.length;simp only [Array.length_toList] at this;omega
         have hp:an (λ p v=>p.1=v.1/\aA w R Pr p.2 v.2) (parts.toList.map λ p=>(p.1,σ.ρ p.2)) (parts.map λ (i,x)=>(i,a.eval x)).toList:=by
          rw [Array.toList_map]
          exact dG _ λ p _=>⟨rfl,h.cu p.2⟩
         have ir:an (au w R Pr) (eB n z) (((Array.range (n * i.size)).map (zv.cells[· % zv.cells.size]!))).toList:=by
          rw [<-hzs,iU]
          exact oG g5 n
         obtain ⟨us,k1,k2,k3⟩:=jv (w:=w) (R:=R) (Pr:=Pr) _ _ _ cs _ hcs ir hp
         obtain ⟨l1,l2⟩:=qC hl k2
         have Ar:us.size=n * i.size:=by rw [l9 _ _ _ k1];simp
         obtain ⟨R',cr⟩:=ng hT h (dst:=some d) (el:=el) (w1:=w) (cells:=us) (us:=us.toList) (cap:=n) rfl (Grow.refl _) he (λ c u hu=>by simpa using hu) l1 (by omega) (by rw [hsz,Ar];exact Nat.le_refl _)
         rw [l2] at cr
         refine ⟨_,_,_,R', ?_,.inl rfl,cr⟩
         have vu: ¬16777216 <n * i.size:=by omega
         have xe:(zeroValue el).run P w=.ok zv w:=by simp [zeroValue,typeInfo,g1,g2]
         have mu:n * i.size=0->((Array.range (n * i.size)).map (λ x=> (#[] :Array Value)[x % (#[] :Array Value).size]!))=((Array.range (n * i.size)).map (zv.cells[· % zv.cells.size]!)):=λ h0=>by
          rw [h0];apply Array.ext';simp
         have hsize:=bQ hT hi w
         have hrun:(Instr.buildSlice t n (parts.map λ (i,x)=>(i,a.eval x))).run P w=.ok (.slice (some ⟨w.heap.size,0,none⟩) n n) (w.alloc (.cells us el)):=by
          unfold Instr.buildSlice
          simp only [Sem.run_bind,run_underlying hu,Result.andThen_ok,hsize]
          rw [if_neg (by simpa using vu)]
          by_cases hz0:n * i.size=0
          ·rw [if_pos hz0]
           simp only [Sem.run_bind,Sem.run_pure,Result.andThen_ok,mu hz0,k1]
           simp [newRow]
          ·rw [if_neg hz0]
           simp only [Sem.run_bind,Sem.run_pure,Result.andThen_ok,xe,k1]
           simp [newRow]
         simp [execOp,hrun]
        ·cases he
       ·cases he
      ·cases he
     ·cases he
    ·cases he
   ·cases he
  ·cases he
 |makeSlice t l c=>
  simp only [bD] at he
  split at he
  ·rename_i d it hit
   split at he
   ·rename_i el hd
    split at he
    ·rename_i i bp hi gL
     split at he
     ·rename_i b z hz
      split at he
      ·rename_i aY
       obtain ⟨hzl,hsz,hby,hsame⟩:=aY
       split at he
       ·rename_i y n hy hn
        have hu:=bY hT hit hd
        obtain ⟨ti,zv,g1,g2,g3,g4,g5,g6⟩:=fc hT hi hz w R Pr
        have hzs:zv.cells.size=i.size:=by have:=g5.length;simp only [Array.length_toList] at this;omega
        obtain ⟨n1,n2,rfl⟩:=b9 he
        have h0:0<=n:=hh ⟨0<=n,inferInstance⟩ (by simp)
        have h1:n<=1073741824:=hh ⟨n<=1073741824,inferInstance⟩ (by simp)
        have hl:a.eval l=.int .i64 n:=by
         have:=h.cu l
         rw [hn] at this;exact this
        have hlc:a.eval c=a.eval l:=by
         cases l<;>cases c<;>simp only [qa] at hsame<;>try cases hsame
         rw [Nat.beq_eq] at hsame;rw [hsame]
        obtain ⟨u1,u2,dw,hy1,hy2⟩:=c8 hy g5
        have eP:u2=[]:=by
         cases u2 with
         |nil=>rfl
         |cons _ _=>exact hy2.elim
        subst eP
        simp only [List.append_nil] at dw
        have hcell:((Array.range (n.toNat * i.size)).map (zv.cells[· % zv.cells.size]!)).toList=eB n.toNat zv.cells.toList:=by rw [<-hzs,iU]
        have hrows:∀k,aS w Pr bp (List.replicate k y) (eB k zv.cells.toList):=λ k=>by
         induction k with
         |zero=>rfl
         |succ k ih=>exact ⟨_,_,rfl,by rw [dw];exact hy1,ih⟩
        obtain ⟨R',cr⟩:=ng hT h (dst:=some d) (el:=el) (w1:=w) (cells:=(Array.range (n.toNat * i.size)).map (zv.cells[· % zv.cells.size]!)) (us:=eB n.toNat zv.cells.toList) (cap:=n.toNat) rfl (Grow.refl _) he (λ c u hu=>by
         rw [Nat.zero_add]
         rw [<-hcell] at hu
         rw [<-Array.getElem?_toList];exact hu) (hrows _) (by simp) (by simp [hsz])
        rw [List.length_replicate] at cr
        refine ⟨_,_,_,R', ?_,.inl rfl,cr⟩
        have hrun:(Instr.makeSlice t (a.eval l) (a.eval c)).run P w=.ok (.slice (some ⟨w.heap.size,0,none⟩) n.toNat n.toNat) (w.alloc (.cells ((Array.range (n.toNat * i.size)).map (zv.cells[· % zv.cells.size]!)) el)):=by
         rw [hlc,hl];exact lR hT hu hi g1 g2 g4 hby h0 h1
        simp [execOp,hrun]
       ·cases he
      ·cases he
     ·cases he
    ·cases he
   ·cases he
  ·cases he
 |makeMap t r=>
  cases r with
  |some r=>simp only [bD] at he;cases he
  |none=>
   simp only [bD] at he
   split at he
   ·rename_i d hs
    obtain ⟨h1,h2,rfl⟩:=b9 he
    obtain ⟨R',cr⟩:=h.nE (dst:=some d) (v:=.mp d) (u:=.map (some w.heap.size)) (o:=.set []) (loc:=⟨w.heap.size,none,0,0⟩) (w':=w.alloc (.map #[] 0)) h2 h1 (λ b hb=>bH w _ b hb) ⟨by simp,rfl,rfl,rfl,(by first|exact Nat.le_refl _|exact Nat.le_succ _|exact Nat.le_add_right _ _)⟩ (λ _=>rfl)
     (λ R' dn rj=> ⟨#[], 0,by rw [dn];exact cO w _,[],λ x=>by simp,trivial⟩) (λ κ aa=>by cases aa) (λ R' dn=>by simp only [au];rw [dn]) rfl
    exact ⟨_,_,_,R',by simp [execOp,Instr.makeMap],.inl rfl,cr⟩
   ·cases he
 |mapUpdate t m k x=>
  simp only [bD] at he
  split at he
  ·rename_i κ a' b' e1 e2 e3
   split at he
   ·rename_i l hs ho
    cases he
    have hm:=h.cu m
    have hk:=h.cu k
    have hx:=h.cu x
    rw [e1] at hm
    rw [e2] at hk
    rw [e3] at hx
    have hm:a.eval m=.map (some (R κ).blk):=hm
    have hx:a.eval x=.bool true:=hx
    obtain ⟨vs,hk1,hk2⟩:=hk
    have hvs:vs= #[.int .i64 a',.int .i64 b']:=by
     apply Array.ext'
     generalize vs.toList=l at hk2
     match l,hk2 with
     | [u,v],h=>rw [show u=_ from h.1,show v=_ from h.2.1]
    have hk1:a.eval k=pk a' b':=by rw [hk1,hvs]
    obtain ⟨es,clock,hb,hr⟩:=h.ob κ _ ho
    obtain ⟨es',clock',w',r1,r2,r3,r4,r5,r6,r7,r9,r8⟩:=qK hT hs hb hr a' b'
    have h6:=h.upd κ _ (.set (l++[(a',b')])) ho (w':=w') (R':=R) (λ _ _=>rfl) (.inl rfl) (λ b hb hne=>r3 b (hne trivial)) ⟨by omega,r5,r6,r7,Nat.le_of_eq r9.symm⟩ (λ _=>.inr ⟨trivial,rfl⟩) ⟨es',clock',r2,r8⟩ (λ af aD=>by cases aD)
    exact ⟨_,_,w',R,by simp [execOp,hm,hk1,hx,r1],.inr ⟨rfl,rfl⟩,h6.put dst bA undef trivial (λ κ aa=>by cases aa)⟩
   ·cases he
  ·cases he
 |store t p x=>
  simp only [bD] at he
  split at he
  ·rename_i c cx hp hx
   have h1:=h.cu p
   have h2:=h.cu x
   rw [hp] at h1
   rw [hx] at h2
   obtain ⟨w',R',k1,k2⟩:=uh hT h (dst:=dst) he h1 (λ κ aa=>h.y6 p (by rw [hp];exact aa)) h2 (λ κ aa=>h.y6 x (by rw [hx];exact aa))
   exact ⟨_,_,_,R',by simp [execOp,k1],.inr ⟨rfl,rfl⟩,k2⟩
  ·cases he
 |call c=>
  obtain ⟨callee,args,argTypes⟩:=c
  cases callee with
  |builtin b=>
   cases b with
   |append=>
    simp only [bD] at he
    split at he
    ·rename_i s x t t' d e1 e2
     split at he
     ·rename_i sc xc it hs hx hit
      split at he
      ·rename_i el hd
       split at he
       ·rename_i uF
        subst uF
        obtain rfl:args= #[s, x]:=by apply Array.ext';simpa using e1
        obtain rfl:argTypes= #[t, t]:=by apply Array.ext';simpa using e2
        have h1:=h.cu s
        have h2:=h.cu x
        rw [hs] at h1
        rw [hx] at h2
        obtain ⟨u,w',R',k1,k2⟩:=sH hT h (ty:=ty) hit hd he hh h1 h2
        exact ⟨_,u,w',R',by simp [execOp,resolve,invoke,builtin,k1],.inl rfl,k2⟩
       ·cases he
      ·cases he
     ·cases he
    ·cases he
   |copy=>
    simp only [bD] at he
    split at he
    ·rename_i d s t t' e1 e2
     split at he
     ·rename_i dc sc it hd hs hit
      split at he
      ·rename_i el ij
       obtain rfl:args= #[d, s]:=by apply Array.ext';simpa using e1
       obtain rfl:argTypes= #[t, t']:=by apply Array.ext';simpa using e2
       have h1:=h.cu d
       have h2:=h.cu s
       rw [hd] at h1
       rw [hs] at h2
       obtain ⟨u,w',R',k1,k2⟩:=u5 hT h (t':=t') (ty:=ty) (dst:=dst) hit ij he h1 h2
       exact ⟨_,u,w',R',by simp [execOp,resolve,invoke,builtin,k1],.inl rfl,k2⟩
      ·cases he
     ·cases he
    ·cases he
   |_=>simp only [bD] at he;cases he
  |_=>simp only [bD] at he;cases he
 |_=>simp only [bD] at he;cases he
theorem wJ (h:Inv w0 Fz av Lo R Pr σ a w) {o:Oper} {e:bK} (he:jN T Y σ.ρ σ.ob σ.objs.length o.dst o.op=some e) (hh:cz e.conds):
 ∃n u w' R',(execOp a.eval o).run P w=.ok n w'/\(n=.value u\/(n=.skip/\u=undef))/\Inv w0 Fz av Lo R' Pr (σ.ef o.dst e) (a.put o.dst u) w':=by
 obtain ⟨dst,op,ty,pos,after,guard⟩:=o
 simp only at he ⊢
 cases op with
 |makeSlice t l c=>
  simp only [jN] at he
  split at he
  ·rename_i d it hit
   split at he
   ·rename_i el hd
    split at he
    ·rename_i i bp hi gL
     split at he
     ·rename_i b hz
      split at he
      ·rename_i aY
       obtain ⟨hsz,hby,hsame⟩:=aY
       split at he
       ·rename_i n hn
        have hu:=bY hT hit hd
        obtain ⟨ti,zv,g1,g2,g3,g4,g5,g6⟩:=fc hT hi hz w R Pr
        have s8:zv.cells= #[.slice none 0 0]:=by
         apply Array.ext'
         generalize zv.cells.toList=l at g5
         match l,g5 with
         | [u],h=>rw [show u=_ from h.1]
        obtain ⟨n1,n2,rfl⟩:=b9 he
        have h0:0<=n:=hh ⟨0<=n,inferInstance⟩ (by simp)
        have h1:n<=1073741824:=hh ⟨n<=1073741824,inferInstance⟩ (by simp)
        have hl:a.eval l=.int .i64 n:=by
         have:=h.cu l
         rw [hn] at this;exact this
        have hlc:a.eval c=a.eval l:=by
         cases l<;>cases c<;>simp only [qa] at hsame<;>try cases hsame
         rw [Nat.beq_eq] at hsame;rw [hsame]
        have hrun:=lR (P:=P) (w:=w) (t:=t) hT hu hi g1 g2 g4 hby h0 h1
        rw [hsz,Nat.mul_one,s8] at hrun
        generalize hcs:(Array.range n.toNat).map ((#[Value.slice none 0 0]:Array Value)[· % (#[Value.slice none 0 0]:Array Value).size]!)=cs at hrun
        have hcell:∀j (v:Value),cs[j]?=some v->v=.slice none 0 0:=λ j v hv=>by
         rw [<-hcs] at hv
         rw [Array.getElem?_map] at hv
         obtain ⟨k,_,rfl⟩:=Option.map_eq_some_iff.1 hv
         simp [Nat.mod_one]
        have C9:cs.size=n.toNat:=by rw [<-hcs];simp
        obtain ⟨R',cr⟩:=h.nE (d:=d) (o:=.rows bp (List.replicate n.toNat []) none .bool 0 []) (loc:=⟨w.heap.size,some ⟨w.heap.size,0,none⟩,n.toNat,n.toNat⟩) (w':=w.alloc (.cells cs el)) n2 n1 (bH w _) ⟨by show w.heap.size<=(w.heap.push _).size;simp,rfl,rfl,rfl,(by first|exact Nat.le_refl _|exact Nat.le_succ _|exact Nat.le_add_right _ _)⟩ (λ _=>rfl)
         (λ R1 eo _=>by
           refine ⟨by rw [eo];simp,.inr ⟨0,n.toNat,cs,el,by rw [eo];simp [RL.aF],by simp,by rw [eo];exact cO w _,by omega,λ j row hj _=> ?_,λ j j' v v' b hjj _ _ hj hj' h1 h2 h3=> ?_,.inl rfl,λ _ _ hm=>(hm rfl).elim⟩⟩
           ·have hj2:=(List.getElem?_eq_some_iff.1 hj).1
            rw [List.length_replicate] at hj2
            have hlt:0+cw 0 j <cs.size:=by rw [oH];omega
            refine ⟨_,Array.getElem?_eq_getElem hlt,.inl ⟨hcell _ _ (Array.getElem?_eq_getElem hlt), ?_⟩⟩
            rw [List.getElem?_replicate,if_pos hj2] at hj
            exact (Option.some.inj hj).symm
           ·rw [hcell _ _ h1] at h3;cases h3)
         (λ κ aa=>by cases aa) (some d) (.own d) (.slice (some ⟨w.heap.size,0,none⟩) n.toNat n.toNat) (λ R1 eo=>by
           show _=_
           rw [eo];rfl) rfl (λ R1 b eo hb=>by
           obtain ⟨off,n',cap,cells,yG,j,v,m1,m2,_,_,m5,m6⟩:=hb
           rw [eo] at m2
           rw [cO] at m2
           cases m2
           rw [hcell _ _ m5] at m6;cases m6)
        refine ⟨_,_,_,R', ?_,.inl rfl,cr⟩
        simp only [execOp]
        rw [hlc,hl]
        simp [hrun]
       ·cases he
      ·cases he
     ·cases he
    ·cases he
   ·cases he
  ·cases he
 |_=>simp only [jN] at he;cases he
theorem wL (h:Inv w0 Fz av Lo R Pr σ a w) {o:Oper} {e:bK} (he:jr T Y σ.ρ σ.ob σ.objs.length o.dst o.op=some e) (hh:cz e.conds):
 ∃n u w' R',(execOp a.eval o).run P w=.ok n w'/\(n=.value u\/(n=.skip/\u=undef))/\Inv w0 Fz av Lo R' Pr (σ.ef o.dst e) (a.put o.dst u) w':=by
 obtain ⟨dst,op,ty,pos,after,guard⟩:=o
 simp only at he ⊢
 cases op with
 |slice t x low high mx=>
  cases mx with
  |some m=>simp only [jr] at he;cases he
  |none=>
   simp only [jr] at he
   split at he
   ·rename_i d
    split at he
    ·split at he
     ·rename_i κ lo hi e1 hlo hhi
      split at he
      ·rename_i bp l aj qv
       split at he
       ·rename_i out hout
        cases he
        have hx:=h.cu x
        rw [e1] at hx
        have hx:a.eval x=(R κ).aF:=hx
        unfold eM at hout
        simp only [aj] at hout
        split at hout
        ·rename_i it hit
         split at hout
         ·rename_i el hd
          split at hout
          ·rename_i i hi'
           split at hout
           ·rename_i hsz
            rw [Nat.beq_eq] at hsz
            cases hout
            obtain ⟨q0,q1⟩:=h.ob κ _ aj
            have hcap:l.length<=(R κ).cap:=by
             rcases q1 with ⟨_,rfl⟩|⟨off,cap,cells,dm,q2,q3,_⟩
             ·simp
             ·have:(R κ).cap=cap:=by have:=q2;simp only [RL.aF] at this;injection this
              omega
            have hv:a.eval x=.slice (R κ).lJ l.length (R κ).cap:=by rw [hx,RL.aF,q0]
            obtain ⟨k1,k2,k3,k4⟩:=kO (P:=P) hT (λ y=>h.cu y) hlo hhi hcap (λ z (hz:z∈mT l.length hi)=>hh z (List.mem_append_left _ hz)) (λ z (hz:z∈mU (bP l.length hi) lo)=>hh z (List.mem_append_right _ hz))
            have hu:=bY hT hit hd
            have hlen:(dg lo (dh hi l)).length=(bP l.length hi).toNat - (br lo).toNat:=by
             rw [jY hT lo hi l k2 k3 k4,List.length_drop,List.length_take];omega
            generalize kX:(⟨(R κ).blk,if (R κ).cap=(br lo).toNat then (R κ).lJ else (R κ).lJ.map (·.add ((br lo).toNat * i.size)),(bP l.length hi).toNat - (br lo).toNat,(R κ).cap - (br lo).toNat⟩:RL)=loc
            have hrun:(Instr.sliceAt t (a.eval x) (low.map a.eval) (high.map a.eval) none).run P w=.ok loc.aF w:=by
             rw [hv, <-kX]
             simp only [Instr.sliceAt,Instr.slice,Sem.run_bind,run_underlying hu,Result.andThen_ok,RL.aF]
             rw [k1]
             simp only [Result.andThen_ok,bQ hT hi',Sem.run_pure]
            have h2:=h.kill κ
            have oA:(σ.kill κ).ob κ=some (.vec bp l):=by rw [dx,aj];rfl
            have ya:κ <(σ.kill κ).objs.length:=c6 (by rw [oA];simp)
            have sZ:(λ af=>if af=κ then loc else R af) κ=loc:=by simp
            have hlb:loc.blk=(R κ).blk:=by rw [<-kX]
            have dQ:loc.aF≠ .slice none 0 0->real R κ (.vec bp l):=λ hne=>by
             intro hz
             rcases q1 with ⟨g1,rfl⟩|⟨off,cap,cells,dm,g1,_⟩
             ·apply hne
              have e1:(R κ).lJ=none:=by have:=g1;simp only [RL.aF] at this;injection this
              have e2:(R κ).cap=0:=by have:=g1;simp only [RL.aF] at this;injection this
              have e3:(bP ([]:List bp.D).length hi).toNat=0:=by simp at k4 ⊢; omega
              rw [<-kX,RL.aF,e1,e2,e3]
              simp
             ·rw [g1] at hz;cases hz
            have kY:∀R':Nat->RL,R' κ=loc->az w R' Pr κ (.vec bp (dg lo (dh hi l))):=λ R' cr=>by
             refine ⟨by rw [cr, <-kX,hlen], ?_⟩
             rw [cr]
             rcases q1 with ⟨g1,rfl⟩|⟨off,cap,cells,dm,g1,g2,g3,g4,g5⟩
             ·left
              have e1:(R κ).lJ=none:=by have:=g1;simp only [RL.aF] at this;injection this
              have e2:(R κ).cap=0:=by have:=g1;simp only [RL.aF] at this;injection this
              have e3:(bP ([]:List bp.D).length hi).toNat=0:=by simp at k4 ⊢; omega
              refine ⟨?_, ?_⟩
              ·rw [<-kX,RL.aF,e1,e2,e3];simp
              ·exact List.length_eq_zero_iff.1 (by rw [hlen,e3];omega)
             ·right
              have e1:(R κ).lJ=some ⟨(R κ).blk,off,none⟩:=by have:=g1;simp only [RL.aF] at this;injection this
              have e2:(R κ).cap=cap:=by have:=g1;simp only [RL.aF] at this;injection this
              by_cases c:cap=(br lo).toNat
              ·have hz:(bP l.length hi).toNat - (br lo).toNat=0:=by omega
               refine ⟨off,0,cells,dm, ?_,by rw [hlen];omega,by rw [hlb];exact g3,by omega,λ j y hj=> ?_⟩
               ·rw [<-kX,RL.aF,e1,e2,if_pos c,hlen];simp only [hz,c,Nat.sub_self]
               ·have:=(List.getElem?_eq_some_iff.1 hj).1;rw [hlen] at this;omega
              ·refine ⟨off+(br lo).toNat * i.size,cap - (br lo).toNat,cells,dm, ?_,by rw [hlen];omega,by rw [hlb];exact g3, ?_,λ j y hj=> ?_⟩
               ·rw [<-kX,RL.aF,e1,e2,if_neg c,hlen]
                simp only [Option.map_some,ew]
               ·rw [<-hsz,Nat.add_assoc, <-Nat.add_mul]
                rw [show (br lo).toNat+(cap - (br lo).toNat)=cap by omega]
                exact g4
               ·rw [jY hT lo hi l k2 k3 k4,List.getElem?_drop,List.getElem?_take] at hj
                split at hj
                ·obtain ⟨us,m1,m2⟩:=g5 _ y hj
                 refine ⟨us, ?_,m2⟩
                 rw [<-hsz,Nat.add_assoc, <-Nat.add_mul];exact m1
                ·cases hj
            refine ⟨.value loc.aF,loc.aF,w,λ af=>if af=κ then loc else R af,by simp [execOp,hrun],.inl rfl, ?_⟩
            have h3:=h2.1.upd κ _ (.vec bp (dg lo (dh hi l))) oA (w':=w) (R':=λ af=>if af=κ then loc else R af) (λ af hk=>by simp [hk]) (.inr ⟨h2.2.1,h2.2.2,by simpa [St.kill] using qv⟩) (λ b _ _=>rfl) (Grow.refl _) (λ aq=>by
             simp only [real,if_true] at aq
             exact .inr ⟨dQ aq,by simp [hlb]⟩) (kY _ sZ) (λ af aD=>by cases aD)
            refine h3.put (some d) (aQ (.own κ)) loc.aF ?_ (λ af aD=> ?_)
            ·show _=_
             rw [sZ]
            ·have:af=κ:=by simpa [AV.refs,Cp.refs,C.refs] using aD
             subst this
             rw [St.aL,if_pos ⟨rfl,ya⟩];simp
           ·cases hout
          ·cases hout
         ·cases hout
        ·cases hout
       ·cases he
      ·cases he
     ·cases he
    ·cases he
   ·cases he
 |_=>simp only [jr] at he;cases he
theorem wD (h:Inv w0 Fz av Lo R Pr σ a w) {o:Oper} {e:bK} (he:h9 T σ.ρ σ.ob o.op=some e):
 ∃n u w' R',(execOp a.eval o).run P w=.ok n w'/\(n=.value u\/(n=.skip/\u=undef))/\Inv w0 Fz av Lo R' Pr (σ.ef o.dst e) (a.put o.dst u) w':=by
 obtain ⟨dst,op,ty,pos,after,guard⟩:=o
 simp only at he ⊢
 cases op with
 |call c=>
  obtain ⟨callee,args,argTypes⟩:=c
  cases callee with
  |builtin b=>
   cases b with
   |clear=>
    simp only [h9] at he
    split at he
    ·rename_i x t e1 e2
     split at he
     ·rename_i xc it hx hit
      split at he
      ·rename_i el ij
       obtain rfl:args= #[x] :=by apply Array.ext';simpa using e1
       obtain rfl:argTypes= #[t] :=by apply Array.ext';simpa using e2
       have h1:=h.cu x
       rw [hx] at h1
       obtain ⟨u,w',R',k1,k2⟩:=tW hT h (ty:=ty) (dst:=dst) hit ij he h1
       exact ⟨_,u,w',R',by simp [execOp,resolve,invoke,builtin,k1],.inl rfl,k2⟩
      ·cases he
     ·cases he
    ·cases he
   |_=>simp only [h9] at he;cases he
  |_=>simp only [h9] at he;cases he
 |_=>simp only [h9] at he;cases he
end
end Go.Rx
