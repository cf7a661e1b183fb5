/- Reflection, part S: what an operation looks at. -/
import Derived.Test.YthfjdcdbimjkjaaRxR
set_option linter.unusedVariables false
set_option linter.unusedSimpArgs false
set_option linter.unusedSectionVars false
namespace Go.Rx
section
variable {T:bh} {Y:dY} {ob aW:Nat->Option Ob}
theorem lJ {t:TypeId} {c:C} {out:Out} (h:fm T ob t c=some out) (ha:∀κ∈out.acc,aW κ=ob κ):fm T aW t c=some out:=by
 cases c with
 |ptr κ off=>
  simp only [fm] at h ⊢
  split at h
  ·rename_i i cs hi ho
   split at h
   ·rename_i x hx
    cases h
    have e:=ha κ (by simp)
    simp only [e,hi,ho,hx]
   ·cases h
  ·rename_i i e1 x1 hi ho
   split at h
   ·rename_i x hx
    cases h
    have e:=ha κ (by simp)
    simp only [e,hi,ho,hx]
   ·cases h
  ·cases h
 |dN κ sz j off=>
  simp only [fm] at h ⊢
  split at h
  ·rename_i i e1 l hi ho
   split at h
   ·rename_i hsz
    split at h
    ·rename_i x hx
     cases h
     have e:=ha κ (by simp)
     simp only [e,hi,ho,if_pos hsz,hx]
    ·cases h
   ·cases h
  ·cases h
 |fE e x off=>exact h
 |_=>simp only [fm] at h;cases h
theorem nW {f g:Nat->Option Out}:∀{n:Nat} {acc:List Nat} {xs:List Cp},iP f n=some (acc,xs)->(∀j a x,f j=some ⟨[],a,.cp x⟩->(∀κ∈a,κ∈acc)->g j=some ⟨[],a,.cp x⟩)->iP g n=some (acc,xs)
 | 0,acc,xs,h,_=>h
 |n+1,acc,xs,h,hfg=>by
  simp only [iP] at h ⊢
  split at h
  ·rename_i Bm l a x h1 h2
   cases h
   rw [nW h1 (λ j a x hj hs=>hfg j a x hj (λ κ aa=>List.mem_append_left _ (hs κ aa))),hfg n a x h2 (λ κ aa=>List.mem_append_right _ aa)]
  ·cases h
theorem sL {t:TypeId} {c:C} {out:Out} (h:h9 T ob t c=some out) (ha:∀κ∈out.acc,aW κ=ob κ):h9 T aW t c=some out:=by
 unfold h9 at h ⊢
 split at h
 ·rename_i c n sz i
  split at h
  ·rename_i acc xs hm
   obtain ⟨x,hx,rfl⟩:=Option.map_eq_some_iff.1 h
   rw [nW hm (λ j a x hj hs=>by
    obtain ⟨c',h1,h2⟩:=Option.bind_eq_some_iff.1 hj
    rw [h1]
    exact lJ h2 (λ κ aa=>ha κ (hs κ aa)))]
   simp only [hx,Option.map_some]
  ·cases h
 ·exact lJ h ha
theorem nJ {t:TypeId} {c:C} {cst:Bool} {n:Int} {out:Out} (h:dI T ob t c cst n=some out) (ha:∀κ∈out.acc,aW κ=ob κ):dI T aW t c cst n=some out:=by
 cases c with
 |own κ=>
  simp only [dI] at h ⊢
  split at h
  ·rename_i i hi
   split at h
   ·rename_i el hd
    split at h
    ·rename_i ei eC
     split at h
     ·rename_i e l ho
      split at h
      ·rename_i hsz
       cases h
       have e2:=ha κ (by simp)
       simp only [hi,hd,eC,e2,ho,if_pos hsz]
      ·cases h
     ·rename_i e ll hh ho
      split at h
      ·rename_i hsz
       cases h
       have e2:=ha κ (by simp)
       simp only [hi,hd,eC,e2,ho,if_pos hsz]
      ·cases h
     ·cases h
    ·cases h
   ·exact h
   ·cases h
  ·cases h
 |val b e y=>exact h
 |_=>
  simp only [dI] at h ⊢
  exact h
theorem nO {c:C} {out:Out} (h:jK ob c=some out) (ha:∀κ∈out.acc,aW κ=ob κ):jK aW c=some out:=by
 cases c with
 |own κ=>
  simp only [jK] at h ⊢
  split at h
  ·rename_i e l ho
   cases h
   have e2:=ha κ (by simp)
   simp only [e2,ho]
  ·rename_i e ll _ _ _ _ ho
   cases h
   have e2:=ha κ (by simp)
   simp only [e2,ho]
  ·cases h
 |_=>exact h
theorem u7 {ρ ρ':Operand->AV} {op:Op} {out:Out} (h:aQ T ρ ob op=some out) (hρ:∀x∈op.operands.toList,ρ' x=ρ x) (ha:∀κ∈out.acc,aW κ=ob κ):aQ T ρ' aW op=some out:=by
 cases op with
 |move x=>simp only [aQ] at h ⊢; rw [hρ x (by simp [Op.operands])];exact h
 |assign x=>simp only [aQ] at h ⊢; rw [hρ x (by simp [Op.operands])];exact h
 |pick c a b=>simp only [aQ] at h ⊢; rw [hρ c (by simp [Op.operands]),hρ a (by simp [Op.operands]),hρ b (by simp [Op.operands])];exact h
 |load t x=>
  simp only [aQ] at h ⊢
  rw [hρ x (by simp [Op.operands])]
  split at h
  ·rename_i c e;(try rw [e]);exact sL h ha
  ·cases h
 |fieldAddr s x f=>simp only [aQ] at h ⊢; rw [hρ x (by simp [Op.operands])];exact h
 |field s x f=>simp only [aQ] at h ⊢; rw [hρ x (by simp [Op.operands])];exact h
 |indexAddr t x i=>
  simp only [aQ] at h ⊢
  rw [hρ x (by simp [Op.operands]),hρ i (by simp [Op.operands])]
  split at h
  ·rename_i k n c e1 e2;(try rw [e1,e2]);exact nJ h ha
  ·cases h
 |index t x i=>simp only [aQ] at h ⊢; rw [hρ x (by simp [Op.operands]),hρ i (by simp [Op.operands])];exact h
 |binOp op t x y yt=>simp only [aQ] at h ⊢; rw [hρ x (by simp [Op.operands]),hρ y (by simp [Op.operands])];exact h
 |unOp op t x=>simp only [aQ] at h ⊢; rw [hρ x (by simp [Op.operands])];exact h
 |convert s d x=>simp only [aQ] at h ⊢; rw [hρ x (by simp [Op.operands])];exact h
 |extract x n=>simp only [aQ] at h ⊢; rw [hρ x (by simp [Op.operands])];exact h
 |nilCheck x=>simp only [aQ] at h ⊢; rw [hρ x (by simp [Op.operands])];exact h
 |slice t x lo hi mx=>
  cases mx with
  |some m=>simp only [aQ] at h;cases h
  |none=>
   have e:∀y:Option Operand,(∀z,y=some z->z∈(Op.slice t x lo hi none).operands.toList)->c7 ρ' y=c7 ρ y:=λ y hy=>by
    cases y with
    |none=>rfl
    |some z=>simp only [c7];rw [hρ z (hy z rfl)]
   simp only [aQ] at h ⊢
   rw [hρ x (by simp [Op.operands]),e lo (λ z hz=>by simp [Op.operands,hz]),e hi (λ z hz=>by simp [Op.operands,hz])]
   split at h
   ·rename_i c l1 h1 e1 e2 e3
    cases c with
    |own κ=>
     simp only [eL] at h ⊢
     split at h
     ·rename_i e' l ho
      have hk:κ∈out.acc:=by
       revert h
       repeat' split
       all_goals first| (intro h;cases h;done)| (intro h;cases h;simp)
      rw [ha κ hk,ho]
      exact h
     ·cases h
    |_=>exact h
   ·cases h
 |lookup t m x ok=>
  cases ok with
  |true=>simp only [aQ] at h;cases h
  |false=>
   simp only [aQ] at h ⊢
   rw [hρ m (by simp [Op.operands]),hρ x (by simp [Op.operands])]
   split at h
   ·rename_i κ a b e1 e2
    (try simp only [e1,e2])
    split at h
    ·rename_i l hs ho
     cases h
     have hk:=ha κ (by simp)
     simp only [hs,hk,ho]
    ·cases h
   ·cases h
 |build t parts=>
  simp only [aQ] at h ⊢
  have e:(parts.toList.map λ p=>(p.1,ρ' p.2))=parts.toList.map λ p=>(p.1,ρ p.2):=List.map_congr_left λ p hp=>by
   rw [hρ p.2 (by simp only [Op.operands];exact List.mem_map.2 ⟨p,hp,rfl⟩)]
  rw [e];exact h
 |makeFunc fn first captured=>
  cases fn with
  |func f=>
   simp only [aQ] at h ⊢
   have e:captured.toList.map ρ'=captured.toList.map ρ:=List.map_congr_left λ x hx=>hρ x (by simp [Op.operands];exact .inr (by simpa using hx))
   rw [e];exact h
  |_=>simp only [aQ] at h;cases h
 |call c=>
  obtain ⟨callee,args,argTypes⟩:=c
  have hargs:∀b,callee=.builtin b->∀x∈args.toList,ρ' x=ρ x:=λ b hb x hx=>hρ x (by subst hb;simpa [Op.operands,Call.operands] using hx)
  cases callee with
  |builtin b=>
   cases b with
   |len=>
    simp only [aQ] at h ⊢
    split at h
    ·rename_i x t e1 e2
     have e3:=hargs _ rfl x (by rw [e1];simp)
     simp only [e1,e2,e3]
     split at h
     ·rename_i a i e4 hi
      (try simp only [e4,hi])
      split at h
      ·rename_i g1 g2;(try simp only [g1,g2]);exact nO h ha
      ·rename_i g1 g2 g3;(try simp only [g1,g2,g3]);exact nO h ha
      ·cases h
     ·cases h
    ·cases h
   |max=>simp only [aQ] at h ⊢; rw [List.map_congr_left (hargs _ rfl)];exact h
   |min=>simp only [aQ] at h ⊢; rw [List.map_congr_left (hargs _ rfl)];exact h
   |_=>simp only [aQ] at h;cases h
  |_=>simp only [aQ] at h;cases h
 |_=>simp only [aQ] at h;cases h
theorem sK {c:C} {out:Out} (h:lZ ob c=some out) (ha:∀κ∈out.acc,aW κ=ob κ):lZ aW c=some out:=by
 unfold lZ at h ⊢
 split at h
 ·rename_i κ
  split at h
  ·rename_i K V l it ho
   cases h
   have e:=ha κ (by simp)
   simp only [e,ho]
  ·cases h
 ·exact h
 ·cases h
theorem wu {ρ ρ':Operand->AV} {op:Op} {out:Out} (h:ef T ρ ob op=some out) (hρ:∀x∈op.operands.toList,ρ' x=ρ x) (ha:∀κ∈out.acc,aW κ=ob κ):ef T ρ' aW op=some out/\aQ T ρ' aW op=none:=by
 cases op with
 |index t x i=>
  simp only [ef,aQ] at h ⊢
  rw [hρ x (by simp [Op.operands]),hρ i (by simp [Op.operands])]
  split at h
  ·rename_i k n cs e1 e2
   refine ⟨?_, ?_⟩
   ·(try simp only [e1,e2]);exact h
   ·rw [e1,e2]
  ·cases h
 |slice t x lo hi mx=>
  cases lo with
  |some _=>cases hi<;>cases mx<;>simp only [ef] at h<;>cases h
  |none=>
   cases hi with
   |some _=>cases mx<;>simp only [ef] at h<;>cases h
   |none=>
    cases mx with
    |some _=>simp only [ef] at h;cases h
    |none=>
     simp only [ef,aQ,c7] at h ⊢
     rw [hρ x (by simp [Op.operands])]
     split at h
     ·rename_i e y off e1
      (try simp only [e1])
      exact ⟨h,by simp [eL]⟩
     ·rename_i κ off e1
      split at h
      ·rename_i e y ho
       obtain ⟨c,hc,rfl⟩:=Option.map_eq_some_iff.1 h
       have e2:=ha κ (by simp)
       (try simp only [e1,e2,ho,hc,Option.map_some])
       exact ⟨trivial,by simp [eL]⟩
      ·cases h
     ·cases h
 |lookup t m x ok=>
  simp only [ef] at h ⊢
  rw [hρ m (by simp [Op.operands]),hρ x (by simp [Op.operands])]
  split at h
  ·rename_i κ e1
   split at h
   ·rename_i K V l it ho
    split at h
    ·rename_i y k hy hk
     have aa:κ∈out.acc:=by
      cases ok<;>(cases h;simp)
     have e2:=ha κ aa
     refine ⟨?_, ?_⟩
     ·(try simp only [e1,e2,ho,hy,hk]);exact h
     ·cases ok with
      |true=>rfl
      |false=>
       simp only [aQ]
       rw [hρ m (by simp [Op.operands]),hρ x (by simp [Op.operands]),e1]
       split
       ·rename_i af a b e3 e4
        cases e3
        rw [e2,ho]
        split<;>simp_all
       ·rfl
    ·cases h
   ·cases h
  ·rename_i K V l e1
   refine ⟨?_, ?_⟩
   ·(try simp only [e1]);exact h
   ·cases ok with
    |true=>rfl
    |false=>
     simp only [aQ]
     rw [hρ m (by simp [Op.operands]),hρ x (by simp [Op.operands]),e1]
  ·cases h
 |entry x=>
  simp only [ef,aQ] at h ⊢
  rw [hρ x (by simp [Op.operands])]
  split at h
  ·rename_i d e1
   split at h
   ·rename_i κ hd
    split at h
    ·rename_i K V l d' L kv ho
     split at h
     ·rename_i ig
      cases h
      have e2:=ha d (by simp)
      have e3:=ha κ (by simp)
      (try simp only [e1,e2,hd,e3,ho,ig])
      exact ⟨trivial,trivial⟩
     ·cases h
    ·cases h
   ·cases h
  ·cases h
 |call c=>
  obtain ⟨callee,args,argTypes⟩:=c
  cases callee with
  |builtin b=>
   cases b with
   |len=>
    simp only [ef,aQ] at h ⊢
    split at h
    ·rename_i x t e1 e2
     have e3:=hρ x (by simp [Op.operands,Call.operands,e1])
     simp only [e1,e2,e3]
     split at h
     ·rename_i a i e4 hi
      split at h
      ·rename_i hm
       refine ⟨?_, ?_⟩
       ·(try simp only [e4,hi,hm]);exact sK h ha
       ·(try simp only [e4,hi])
        revert hm
        cases i.d<;>simp [sY,ku,pI]
      ·cases h
     ·cases h
    ·cases h
   |_=>simp only [ef] at h;cases h
  |_=>simp only [ef] at h;cases h
 |_=>simp only [ef] at h;cases h
theorem wE {ρ ρ':Operand->AV} {op:Op} {out:Out} (h:sM T ρ ob op=some out) (hρ:∀x∈op.operands.toList,ρ' x=ρ x) (ha:∀κ∈out.acc,aW κ=ob κ):sM T ρ' aW op=some out:=by
 unfold sM at h ⊢
 split at h
 ·rename_i o ho
  cases h
  rw [u7 ho hρ ha]
 ·obtain ⟨h1,h2⟩:=wu h hρ ha
  rw [h2];exact h1
theorem j6 {len d:Nat} {conds:List DP} {acc:List Nat} {v:C} {o:Ob} {e:bK} (h:dB ob len d conds acc v o=some e) (ha:∀κ∈e.acc,aW κ=ob κ):dB aW len d conds acc v o=some e/\e.kill=none/\∃o,e.upd=some (d,o)/\d∈e.acc/\d <len:=by
 obtain ⟨h1,h2,rfl⟩:=b8 h
 refine ⟨?_,rfl,o,rfl,by simp,cr h1⟩
 unfold dB at h ⊢
 rw [ha d (by simp)]
 exact h
theorem pR {σ:St} {κ:Nat} {o:Ob} (h:σ.ob κ=some o):κ <σ.objs.length:=by
 rcases Nat.lt_or_ge κ σ.objs.length with g|g
 ·exact g
 ·unfold St.ob at h;rw [List.getD_eq_getElem?_getD,List.getElem?_eq_none g] at h;cases h
theorem lD {e:Ty} {x:C} {acc:List Nat} {m:List e.D} (h:lC ob e x=some (acc,m)) (ha:∀κ∈acc,aW κ=ob κ):lC aW e x=some (acc,m):=by
 cases x with
 |own κ=>
  simp only [lC] at h ⊢
  split at h
  ·rename_i e' l ho
   have hk:κ∈acc:=by
    revert h
    generalize Ty.dec e' e=d
    intro h
    cases d with
    |isTrue he=>subst he;cases h;simp
    |isFalse _=>cases h
   rw [ha κ hk,ho]
   exact h
  ·cases h
 |part κ sz lo n=>
  simp only [lC] at h ⊢
  split at h
  ·rename_i e' l ho
   have hk:κ∈acc:=by
    revert h
    generalize Ty.dec e' e=d
    intro h
    cases d with
    |isTrue he=>
     subst he
     split at h
     ·cases h;simp
     ·cases h
    |isFalse _=>cases h
   rw [ha κ hk,ho]
   exact h
  ·cases h
 |_=>exact h
theorem va {σ σ':St} (hl:σ'.objs.length=σ.objs.length) {ρ ρ':Operand->AV} {dst:Option Nat} {op:Op} {e:bK} (h:bD T Y ρ σ.ob σ.objs.length dst op=some e) (hρ:∀x∈op.operands.toList,ρ' x=ρ x) (ha:∀κ∈e.acc,σ'.ob κ=σ.ob κ):
 bD T Y ρ' σ'.ob σ'.objs.length dst op=some e/\(True->∀κ∈bn e.upd,κ∈e.acc/\κ <σ.objs.length):=by
 rw [hl]
 have fin:∀{d:Nat} {conds:List DP} {acc:List Nat} {v:C} {o:Ob},dB σ.ob σ.objs.length d conds acc v o=some e->dB σ'.ob σ.objs.length d conds acc v o=some e/\(True->∀κ∈bn e.upd,κ∈e.acc/\κ <σ.objs.length):=λ {d conds acc v o} hn=>by
  obtain ⟨k1,k2,o,k3,k4,k5⟩:=j6 hn ha
  refine ⟨k1,λ _ κ aa=> ?_⟩
  rw [k3] at aa
  have:κ=d:=by simpa [bn] using aa
  rw [this];exact ⟨k4,k5⟩
 cases op with
 |box el x=>
  simp only [bD] at h ⊢
  rw [hρ x (by simp [Op.operands])]
  split at h
  ·rename_i d x1 hx
   split at h
   ·rename_i cs hcs
    have e9:nk σ'.ob σ.objs.length d=nk σ.ob σ.objs.length d:=by
     simp only [nk,ha d (by obtain ⟨_,_,q⟩:=b8 h;rw [q];simp)]
    (try simp only [hx,hcs]);rw [e9];exact fin h
   ·cases h
  ·cases h
 |alloc el=>
  simp only [bD] at h ⊢
  split at h
  ·rename_i d i hi
   split at h
   ·rename_i b z hz
    have e9:nk σ'.ob σ.objs.length d=nk σ.ob σ.objs.length d:=by
     simp only [nk,ha d (by obtain ⟨_,_,q⟩:=b8 h;rw [q];simp)]
    (try simp only [hi,hz]);rw [e9];exact fin h
   ·cases h
  ·cases h
 |buildSlice t n parts=>
  simp only [bD] at h ⊢
  have e1:(parts.toList.map λ p=>(p.1,ρ' p.2))=parts.toList.map λ p=>(p.1,ρ p.2):=List.map_congr_left λ p hp=>by
   rw [hρ p.2 (by simp only [Op.operands];exact List.mem_map.2 ⟨p,hp,rfl⟩)]
  rw [e1]
  split at h
  ·rename_i d it hit
   split at h
   ·rename_i el hd
    split at h
    ·rename_i i bp hi gJ
     split at h
     ·rename_i b z hz
      split at h
      ·rename_i aY
       split at h
       ·rename_i cs hcs
        split at h
        ·rename_i l hl'
         (try simp only [hit,hd,hi,gJ,hz,if_pos aY,hcs,hl'])
         exact fin h
        ·cases h
       ·cases h
      ·cases h
     ·cases h
    ·cases h
   ·cases h
  ·cases h
 |makeSlice t l c=>
  simp only [bD] at h ⊢
  rw [hρ l (by simp [Op.operands])]
  split at h
  ·rename_i d it hit
   split at h
   ·rename_i el hd
    split at h
    ·rename_i i bp hi gJ
     split at h
     ·rename_i b z hz
      split at h
      ·rename_i aY
       split at h
       ·rename_i y n hy hn
        (try simp only [hit,hd,hi,gJ,hz,if_pos aY,hy,hn])
        exact fin h
       ·cases h
      ·cases h
     ·cases h
    ·cases h
   ·cases h
  ·cases h
 |makeMap t r=>
  cases r with
  |some r=>simp only [bD] at h;cases h
  |none=>
   simp only [bD] at h ⊢
   split at h
   ·rename_i d hs
    (try simp only [hs])
    exact fin h
   ·cases h
 |mapUpdate t m k x=>
  simp only [bD] at h ⊢
  rw [hρ m (by simp [Op.operands]),hρ k (by simp [Op.operands]),hρ x (by simp [Op.operands])]
  split at h
  ·rename_i κ a b e1 e2 e3
   (try simp only [e1,e2,e3])
   split at h
   ·rename_i l hs ho
    cases h
    have hk:=ha κ (by simp)
    simp only [hs,hk,ho]
    exact ⟨trivial,λ _ af aa=>by
     have:af=κ:=by simpa [bn] using aa
     subst this;exact ⟨by simp,pR ho⟩⟩
   ·cases h
  ·cases h
 |store t p x=>
  simp only [bD] at h ⊢
  rw [hρ p (by simp [Op.operands]),hρ x (by simp [Op.operands])]
  split at h
  ·rename_i c cx hp hx
   (try simp only [hp,hx])
   unfold nu at h ⊢
   split at h
   ·rename_i κ off
    split at h
    ·rename_i i cs xs hi aj hxs
     split at h
     ·rename_i aY
      cases h
      have e2:=ha κ (by simp)
      simp only [hi,e2,aj,hxs,if_pos aY]
      exact ⟨trivial,λ _ af aa=>by
       have:af=κ:=by simpa [bn] using aa
       subst this;exact ⟨by simp,pR aj⟩⟩
     ·cases h
    ·cases h
   ·rename_i κ sz j off
    split at h
    ·rename_i i e1 l xs hi aj hxs
     split at h
     ·rename_i aY
      split at h
      ·rename_i y hy
       cases h
       have e2:=ha κ (by simp)
       simp only [hi,e2,aj,hxs,if_pos aY,hy]
       exact ⟨trivial,λ _ af aa=>by
        have:af=κ:=by simpa [bn] using aa
        subst this;exact ⟨by simp,pR aj⟩⟩
      ·cases h
     ·cases h
    ·cases h
   ·cases h
  ·cases h
 |call c=>
  obtain ⟨callee,args,argTypes⟩:=c
  cases callee with
  |builtin b=>
   cases b with
   |append=>
    simp only [bD] at h ⊢
    split at h
    ·rename_i s x t t' d e1 e2
     have e3:ρ' s=ρ s:=hρ s (by simp [Op.operands,Call.operands];rw [<-Array.mem_toList_iff,e1];simp)
     have e4:ρ' x=ρ x:=hρ x (by simp [Op.operands,Call.operands];rw [<-Array.mem_toList_iff,e1];simp)
     simp only [e1,e2,e3,e4]
     split at h
     ·rename_i sc xc it hs hx hit
      split at h
      ·rename_i el hd
       split at h
       ·rename_i uw
        (try simp only [hs,hx,hit,hd,if_pos uw])
        unfold kR at h ⊢
        split at h
        ·rename_i i hi
         (try simp only [hi])
         split at h
         ·cases h
         ·rename_i b z hz
          split at h
          ·rename_i κ
           split at h
           ·rename_i bp l aj
            split at h
            ·rename_i acc m hm
             split at h
             ·rename_i aY
              cases h
              have g1:=ha κ (by simp)
              have g2:=lD (aW:=σ'.ob) hm (λ af aa=>ha af (by simp [aa]))
              simp only [hz,g1,aj,g2,if_pos aY]
              exact ⟨trivial,λ _ af aa=>by
               have aD:af=κ:=by simpa [bn] using aa
               subst aD
               exact ⟨List.mem_cons_self ..,cr aY.2.2.2.1⟩⟩
             ·cases h
            ·cases h
           ·cases h
          ·split at h
           ·rename_i bp gJ
            split at h
            ·rename_i acc m hm
             split at h
             ·rename_i aY
              have hacc:∀af∈acc,af∈e.acc:=λ af aa=>by
               obtain ⟨_,_,rfl⟩:=b8 h
               simp [aa]
              have g2:=lD (aW:=σ'.ob) hm (λ af aa=>ha af (hacc af aa))
              simp only [hz,gJ,g2,if_pos aY]
              exact fin h
             ·cases h
            ·cases h
           ·cases h
          ·cases h
        ·cases h
       ·cases h
      ·cases h
     ·cases h
    ·cases h
   |copy=>
    simp only [bD] at h ⊢
    split at h
    ·rename_i d s t t' e1 e2
     have e3:ρ' d=ρ d:=hρ d (by simp [Op.operands,Call.operands];rw [<-Array.mem_toList_iff,e1];simp)
     have e4:ρ' s=ρ s:=hρ s (by simp [Op.operands,Call.operands];rw [<-Array.mem_toList_iff,e1];simp)
     simp only [e1,e2,e3,e4]
     split at h
     ·rename_i dc sc it hd hs hit
      split at h
      ·rename_i el ig
       (try simp only [hd,hs,hit,ig])
       unfold oU at h ⊢
       split at h
       ·rename_i i κ lo n hi hpart
        split at h
        ·rename_i bp l aj
         split at h
         ·rename_i acc m hm
          split at h
          ·rename_i aY
           cases h
           have g1:=ha κ (by simp)
           have g2:=lD (aW:=σ'.ob) hm (λ af aa=>ha af (by simp [aa]))
           have g3:partOf σ'.ob dc=some (κ,lo,n):=by
            rw [<-hpart]
            cases dc with
            |own af=>
             have:af=κ:=by
              simp only [partOf] at hpart
              split at hpart
              ·cases hpart;rfl
              ·cases hpart
             subst this
             simp only [partOf,g1]
            |_=>rfl
           simp only [hi,g3,g1,aj,g2,if_pos aY]
           exact ⟨trivial,λ _ af aa=>by
            have:af=κ:=by simpa [bn] using aa
            subst this;exact ⟨by simp,pR aj⟩⟩
          ·cases h
         ·cases h
        ·cases h
       ·cases h
      ·cases h
     ·cases h
    ·cases h
   |_=>simp only [bD] at h;cases h
  |_=>simp only [bD] at h;cases h
 |_=>simp only [bD] at h;cases h
theorem xO {ρ ρ':Operand->AV} {f g:Nat->Option Ob} {m n:Nat} {dst:Option Nat} {op:Op} {e:bK} (h:jL T Y ρ f m dst op=some e):bD T Y ρ' g n dst op=none:=by
 cases op with
 |makeSlice t l c=>
  simp only [jL] at h
  simp only [bD]
  split at h
  ·rename_i d it hit
   split at h
   ·rename_i el hd
    split at h
    ·rename_i i bp hi gJ
     obtain ⟨ey,h1,h2⟩:=Option.bind_eq_some_iff.1 gJ
     split at h
     ·rename_i b hz
      split at h
      ·rename_i aY
       have hn:ey.n=2:=by
        unfold yS at h2
        split at h2
        ·rfl
        ·cases h2
       simp only [hit,hd,hi,h1,hz]
       rw [if_neg (λ z=>by have:=z.2.1;omega)]
      ·cases h
     ·cases h
    ·cases h
   ·cases h
  ·cases h
 |_=>simp only [jL] at h;cases h
theorem wA {σ σ':St} (hl:σ'.objs.length=σ.objs.length) {ρ ρ':Operand->AV} {dst:Option Nat} {op:Op} {e:bK} (h:jL T Y ρ σ.ob σ.objs.length dst op=some e) (hρ:∀x∈op.operands.toList,ρ' x=ρ x) (ha:∀κ∈e.acc,σ'.ob κ=σ.ob κ):
 jL T Y ρ' σ'.ob σ'.objs.length dst op=some e/\(True->∀κ∈bn e.upd,κ∈e.acc/\κ <σ.objs.length):=by
 rw [hl]
 cases op with
 |makeSlice t l c=>
  simp only [jL] at h ⊢
  rw [hρ l (by simp [Op.operands])]
  split at h
  ·rename_i d it hit
   split at h
   ·rename_i el hd
    split at h
    ·rename_i i bp hi gJ
     split at h
     ·rename_i b hz
      split at h
      ·rename_i aY
       split at h
       ·rename_i n hn
        simp only [hit,hd,hi,gJ,hz,if_pos aY,hn]
        obtain ⟨k1,k2,o,k3,k4,k5⟩:=j6 h ha
        refine ⟨k1,λ _ κ aa=> ?_⟩
        rw [k3] at aa
        have:κ=d:=by simpa [bn] using aa
        rw [this];exact ⟨k4,k5⟩
       ·cases h
      ·cases h
     ·cases h
    ·cases h
   ·cases h
  ·cases h
 |_=>simp only [jL] at h;cases h
theorem wC {σ σ':St} (hl:σ'.objs.length=σ.objs.length) {ρ ρ':Operand->AV} {dst:Option Nat} {op:Op} {e:bK} (h:jq T Y ρ σ.ob σ.objs.length dst op=some e) (hρ:∀x∈op.operands.toList,ρ' x=ρ x) (ha:∀κ∈e.acc,σ'.ob κ=σ.ob κ):
 jq T Y ρ' σ'.ob σ'.objs.length dst op=some e/\(True->∀κ∈bn e.upd,κ∈e.acc/\κ <σ.objs.length):=by
 rw [hl]
 cases op with
 |slice t x lo hi mx=>
  cases mx with
  |some m=>simp only [jq] at h;cases h
  |none=>
   have e0:∀y:Option Operand,(∀z,y=some z->z∈(Op.slice t x lo hi none).operands.toList)->c7 ρ' y=c7 ρ y:=λ y hy=>by
    cases y with
    |none=>rfl
    |some z=>simp only [c7];rw [hρ z (hy z rfl)]
   simp only [jq] at h ⊢
   rw [hρ x (by simp [Op.operands]),e0 lo (λ z hz=>by subst hz;simp [Op.operands]),e0 hi (λ z hz=>by subst hz;simp [Op.operands])]
   split at h
   ·rename_i d
    split at h
    ·rename_i mk hmk
     split at h
     ·rename_i κ lo' hi' e1 hlo hhi
      split at h
      ·rename_i bp l aj qp
       split at h
       ·rename_i out hout
        cases h
        have e2:σ'.ob κ=some (.vec bp l):=by rw [ha κ (by simp),aj]
        have e3:eL T σ'.ob t (.own κ) lo' hi'=some out:=by
         rw [<-hout]
         simp only [eL,e2,aj]
        simp only [hmk,e1,hlo,hhi,e2,qp,e3]
        refine ⟨trivial,λ _ af aa=> ?_⟩
        have:af=κ:=by simpa [bn] using aa
        subst this
        exact ⟨by simp,cr qp⟩
       ·cases h
      ·cases h
     ·cases h
    ·cases h
   ·cases h
 |_=>simp only [jq] at h;cases h
theorem xP {ρ:Operand->AV} {ob:Nat->Option Ob} {len:Nat} {dst:Option Nat} {op:Op} {e:bK} (h:jq T Y ρ ob len dst op=some e) (ρ':Operand->AV) (aW:Nat->Option Ob) (len':Nat):bD T Y ρ' aW len' dst op=none/\jL T Y ρ' aW len' dst op=none:=by
 cases op with
 |slice t x lo hi mx=>exact ⟨rfl,rfl⟩
 |_=>simp only [jq] at h;cases h
theorem wj {σ σ':St} {ρ ρ':Operand->AV} {op:Op} {e:bK} (h:hM T ρ σ.ob op=some e) (hρ:∀x∈op.operands.toList,ρ' x=ρ x) (ha:∀κ∈e.acc,σ'.ob κ=σ.ob κ):
 hM T ρ' σ'.ob op=some e/\(True->∀κ∈bn e.upd,κ∈e.acc/\κ <σ.objs.length):=by
 cases op with
 |call c=>
  obtain ⟨callee,args,argTypes⟩:=c
  cases callee with
  |builtin b=>
   cases b with
   |clear=>
    simp only [hM] at h ⊢
    split at h
    ·rename_i x t e1 e2
     have ex:ρ' x=ρ x:=hρ x (by simp [Op.operands,Call.operands];rw [<-Array.mem_toList_iff,e1];simp)
     simp only [e1,e2,ex]
     split at h
     ·rename_i xc it hx hit
      (try simp only [hx,hit])
      split at h
      ·rename_i el ig
       unfold nq at h ⊢
       split at h
       ·rename_i κ sz lo n
        split at h
        ·rename_i i bp l hi aj
         split at h
         ·rename_i b z hz
          split at h
          ·rename_i aY
           split at h
           ·rename_i y hy
            cases h
            have e4:σ'.ob κ=some (.vec bp l):=by rw [ha κ (by simp),aj]
            simp only [ig,hi,e4,hz,if_pos aY,hy]
            refine ⟨trivial,λ _ af aa=> ?_⟩
            have:af=κ:=by simpa [bn] using aa
            subst this
            exact ⟨by simp,cW (by rw [aj];simp)⟩
           ·cases h
          ·cases h
         ·cases h
        ·cases h
       ·cases h
      ·cases h
     ·cases h
    ·cases h
   |_=>simp only [hM] at h;cases h
  |_=>simp only [hM] at h;cases h
 |_=>simp only [hM] at h;cases h
theorem xN {ρ:Operand->AV} {ob:Nat->Option Ob} {op:Op} {e:bK} (h:hM T ρ ob op=some e) (ρ':Operand->AV) (aW:Nat->Option Ob) (len':Nat) (dst:Option Nat):bD T Y ρ' aW len' dst op=none/\jL T Y ρ' aW len' dst op=none/\jq T Y ρ' aW len' dst op=none:=by
 cases op with
 |call c=>
  obtain ⟨callee,args,argTypes⟩:=c
  cases callee with
  |builtin b=>
   cases b with
   |clear=>exact ⟨rfl,rfl,rfl⟩
   |_=>simp only [hM] at h;cases h
  |_=>simp only [hM] at h;cases h
 |_=>simp only [hM] at h;cases h
theorem ve {σ σ':St} (hl:σ'.objs.length=σ.objs.length) {ρ ρ':Operand->AV} {dst:Option Nat} {op:Op} {e:bK} (h:bY T Y ρ σ.ob σ.objs.length dst op=some e) (hρ:∀x∈op.operands.toList,ρ' x=ρ x) (ha:∀κ∈e.acc,σ'.ob κ=σ.ob κ):
 bY T Y ρ' σ'.ob σ'.objs.length dst op=some e/\(True->∀κ∈bn e.upd,κ∈e.acc/\κ <σ.objs.length)/\
 bD T Y ρ' σ'.ob σ'.objs.length dst op=none/\jL T Y ρ' σ'.ob σ'.objs.length dst op=none/\jq T Y ρ' σ'.ob σ'.objs.length dst op=none/\hM T ρ' σ'.ob op=none:=by
 have one:∀{κ:Nat} {o o':Ob},σ.ob κ=some o->∀af∈bn (some (κ,o')),af∈[κ]/\af <σ.objs.length:=λ ho af aa=>by
  simp only [bn,List.mem_singleton] at aa
  subst aa
  exact ⟨List.mem_singleton.2 rfl,pR ho⟩
 cases op with
 |load t p=>
  simp only [bY] at h ⊢
  rw [hρ p (by simp [Op.operands])]
  split at h
  ·rename_i d κ sz j off e1
   split at h
   ·rename_i y i e ll tt mm xs e2 e3 e4
    split at h
    ·rename_i hc
     cases h
     have e5:=ha κ (by simp)
     refine ⟨?_,λ _ κ aa=>absurd aa List.not_mem_nil,rfl,rfl,rfl,rfl⟩
     simp only [e1,e2,e3,e5,e4,hc]
    ·cases h
   ·cases h
  ·cases h
 |store t p x=>
  simp only [bY] at h ⊢
  rw [hρ p (by simp [Op.operands]),hρ x (by simp [Op.operands])]
  split at h
  ·rename_i κ off n sz i k v e1 e2
   split at h
   ·rename_i ti cs z8 aj
    split at h
    ·rename_i l hc hl'
     cases h
     have e3:=ha κ (by simp)
     refine ⟨?_,λ _=>one aj, ?_,rfl,rfl,rfl⟩
     ·(try simp only [e1,e2,z8,e3,aj,hc,hl'])
     ·simp only [bD]
      rw [hρ p (by simp [Op.operands]),hρ x (by simp [Op.operands]),e1,e2]
      rfl
    ·cases h
   ·cases h
  ·cases h
 |slice t x lo hi mx=>
  cases lo with
  |some _=>cases hi<;>cases mx<;>simp only [bY] at h<;>cases h
  |none=>
   cases hi with
   |some _=>cases mx<;>simp only [bY] at h<;>cases h
   |none=>
    cases mx with
    |some _=>simp only [bY] at h;cases h
    |none=>
     simp only [bY] at h ⊢
     rw [hρ x (by simp [Op.operands])]
     split at h
     ·rename_i κ e1
      split at h
      ·rename_i cs ey aj hY
       split at h
       ·rename_i y hy
        obtain ⟨c,hc,rfl⟩:=Option.map_eq_some_iff.1 h
        have e3:=ha κ (by simp)
        refine ⟨?_,λ _=>one aj,rfl,rfl, ?_,rfl⟩
        ·(try simp only [e1,e3,aj,hY,hy,hc,Option.map_some])
        ·simp only [jq,c7]
         rw [hρ x (by simp [Op.operands]),e1]
         cases dst with
         |none=>rfl
         |some d=>
          simp only
          cases Y.get (ug d)<;>rfl
       ·cases h
      ·cases h
     ·cases h
 |makeMap t r=>
  cases r with
  |some _=>simp only [bY] at h;cases h
  |none=>
   simp only [bY] at h ⊢
   split at h
   ·rename_i d K V hs hY
    split at h
    ·rename_i y hy
     have h1:=j6 h ha
     rw [hl]
     refine ⟨h1.1,λ _ κ aa=> ?_, ?_,rfl,rfl,rfl⟩
     ·obtain ⟨_,_,o,h2,h3,h4⟩:=h1
      rw [h2] at aa
      simp only [bn,List.mem_singleton] at aa
      subst aa
      exact ⟨h3,h4⟩
     ·simp only [bD,hs]
    ·cases h
   ·cases h
 |mapUpdate t m k x=>
  simp only [bY] at h ⊢
  rw [hρ m (by simp [Op.operands]),hρ k (by simp [Op.operands]),hρ x (by simp [Op.operands])]
  split at h
  ·rename_i κ e1
   split at h
   ·rename_i K V l it aj
    split at h
    ·rename_i y kk xx hy hk hx
     cases h
     have e3:=ha κ (by simp)
     refine ⟨?_,λ _=>one aj, ?_,rfl,rfl,rfl⟩
     ·(try simp only [e1,e3,aj,hy,hk,hx])
     ·simp only [bD]
      rw [hρ m (by simp [Op.operands]),hρ k (by simp [Op.operands]),hρ x (by simp [Op.operands]),e1]
      split
      ·rename_i af a b e4 e5 e6
       cases e4
       rw [e3,aj]
       split<;>simp_all
      ·rfl
    ·cases h
   ·cases h
  ·cases h
 |call c=>
  obtain ⟨callee,args,argTypes⟩:=c
  cases callee with
  |builtin b=>
   cases b with
   |delete=>
    simp only [bY] at h ⊢
    split at h
    ·rename_i m k t t' e0 zq
     have hm:=hρ m (by simp [Op.operands,Call.operands,e0])
     have hk':=hρ k (by simp [Op.operands,Call.operands,e0])
     simp only [e0,zq,hm,hk']
     split at h
     ·rename_i κ e1
      split at h
      ·rename_i K V l it aj
       split at h
       ·rename_i y kk hy hk
        cases h
        have e3:=ha κ (by simp)
        refine ⟨?_,λ _=>one aj,rfl,rfl,rfl,rfl⟩
        (try simp only [e1,e3,aj,hy,hk])
       ·cases h
      ·cases h
     ·cases h
    ·cases h
   |_=>simp only [bY] at h;cases h
  |_=>simp only [bY] at h;cases h
 |_=>simp only [bY] at h;cases h
theorem wm {σ:St} {ρ ρ':Operand->AV} {e0:Ty} {op:Op} {e:bK} (h:qP T ρ e0 op=some e) (hρ:∀x∈op.operands.toList,ρ' x=ρ x):
 qP T ρ' e0 op=some e/\(True->∀κ∈bn e.upd,κ∈e.acc/\κ <σ.objs.length):=by
 cases op with
 |buildSlice t n parts=>
  simp only [qP] at h ⊢
  have e1:(parts.toList.map λ p=>(p.1,ρ' p.2))=parts.toList.map λ p=>(p.1,ρ p.2):=List.map_congr_left λ p hp=>by
   rw [hρ p.2 (by simp only [Op.operands];exact List.mem_map.2 ⟨p,hp,rfl⟩)]
  rw [e1]
  split at h
  ·rename_i it hit
   split at h
   ·rename_i el hd
    split at h
    ·rename_i i hi
     split at h
     ·rename_i b z hz
      split at h
      ·rename_i aY
       split at h
       ·rename_i cs hcs
        split at h
        ·rename_i l hl'
         cases h
         refine ⟨?_,λ _ κ aa=>absurd aa List.not_mem_nil⟩
         simp only [hit,hd,hi,hz,if_pos aY,hcs,hl']
        ·cases h
       ·cases h
      ·cases h
     ·cases h
    ·cases h
   ·cases h
  ·cases h
 |_=>simp only [qP] at h;cases h
theorem qQ {σ σ':St} (hl:σ'.objs.length=σ.objs.length) {ρ ρ':Operand->AV} {dst:Option Nat} {op:Op} {e:bK} (h:jr T Y ρ σ.ob σ.objs.length dst op=some e) (hρ:∀x∈op.operands.toList,ρ' x=ρ x) (ha:∀κ∈e.acc,σ'.ob κ=σ.ob κ):
 jr T Y ρ' σ'.ob σ'.objs.length dst op=some e/\(True->∀κ∈bn e.upd,κ∈e.acc/\κ <σ.objs.length):=by
 unfold jr at h ⊢
 split at h
 ·rename_i e0 hd
  exact wm h hρ
 unfold l6 at h
 split at h
 ·rename_i e' he'
  cases h
  have:=va hl he' hρ ha
  refine ⟨?_,this.2⟩
  unfold l6;rw [this.1]
 ·split at h
  ·rename_i e' he'
   cases h
   have:=wA hl he' hρ ha
   refine ⟨?_,this.2⟩
   unfold l6;rw [xO he',this.1]
  ·split at h
   ·rename_i e' he'
    cases h
    have:=wC hl he' hρ ha
    refine ⟨?_,this.2⟩
    obtain ⟨q1,q2⟩:=xP he' ρ' σ'.ob σ'.objs.length
    unfold l6;rw [q1,q2,this.1]
   ·split at h
    ·rename_i e' he'
     cases h
     have:=wj (σ:=σ) (σ':=σ') he' hρ ha
     refine ⟨?_,this.2⟩
     obtain ⟨q1,q2,q3⟩:=xN he' ρ' σ'.ob σ'.objs.length dst
     unfold l6;rw [q1,q2,q3,this.1]
    ·obtain ⟨q0,q5,q1,q2,q3,q4⟩:=ve hl h hρ ha
     refine ⟨?_,q5⟩
     unfold l6;rw [q1,q2,q3,q4,q0]
end
end Go.Rx
