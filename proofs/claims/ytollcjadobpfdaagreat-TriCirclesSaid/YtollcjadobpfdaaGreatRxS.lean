/- Reflection, part S: what an operation looks at. -/
import Derived.Test.YtollcjadobpfdaaGreatRxR
set_option linter.unusedVariables false
set_option linter.unusedSimpArgs false
set_option linter.unusedSectionVars false
namespace Go.Rx
section
variable {T:bh} {Y:dZ} {ob aW:Nat->Option Ob}
theorem lM {t:TypeId} {c:C} {out:Out} (h:fq T ob t c=some out) (ha:∀κ∈out.acc,aW κ=ob κ):fq T aW t c=some out:=by
 cases c with
 |ptr κ off=>
  simp only [fq] at h ⊢
  split at h
  ·rename_i i cs hi ho
   split at h
   ·rename_i x hx
    cases h
    have e:=ha κ (by simp)
    simp only [e,hi,ho,hx]
   ·cases h
  ·rename_i i e1 x1 hi ho
   split at h
   ·rename_i x hx
    cases h
    have e:=ha κ (by simp)
    simp only [e,hi,ho,hx]
   ·cases h
  ·cases h
 |dO κ sz j off=>
  simp only [fq] at h ⊢
  split at h
  ·rename_i i e1 l hi ho
   split at h
   ·rename_i hsz
    split at h
    ·rename_i x hx
     cases h
     have e:=ha κ (by simp)
     simp only [e,hi,ho,if_pos hsz,hx]
    ·cases h
   ·cases h
  ·cases h
 |fG e x off=>exact h
 |_=>simp only [fq] at h;cases h
theorem nY {f g:Nat->Option Out}:∀{n:Nat} {acc:List Nat} {xs:List Cp},iR f n=some (acc,xs)->(∀j a x,f j=some ⟨[],a,.cp x⟩->(∀κ∈a,κ∈acc)->g j=some ⟨[],a,.cp x⟩)->iR g n=some (acc,xs)
 | 0,acc,xs,h,_=>h
 |n+1,acc,xs,h,hfg=>by
  simp only [iR] at h ⊢
  split at h
  ·rename_i BC l a x h1 h2
   cases h
   rw [nY h1 (λ j a x hj hs=>hfg j a x hj (λ κ aa=>List.mem_append_left _ (hs κ aa))),hfg n a x h2 (λ κ aa=>List.mem_append_right _ aa)]
  ·cases h
theorem sR {t:TypeId} {c:C} {out:Out} (h:ia T ob t c=some out) (ha:∀κ∈out.acc,aW κ=ob κ):ia T aW t c=some out:=by
 unfold ia at h ⊢
 split at h
 ·rename_i c n sz i
  split at h
  ·rename_i acc xs hm
   obtain ⟨x,hx,rfl⟩:=Option.map_eq_some_iff.1 h
   rw [nY hm (λ j a x hj hs=>by
    obtain ⟨c',h1,h2⟩:=Option.bind_eq_some_iff.1 hj
    rw [h1]
    exact lM h2 (λ κ aa=>ha κ (hs κ aa)))]
   simp only [hx,Option.map_some]
  ·cases h
 ·exact lM h ha
theorem nL {t:TypeId} {c:C} {cst:Bool} {n:Int} {out:Out} (h:dJ T ob t c cst n=some out) (ha:∀κ∈out.acc,aW κ=ob κ):dJ T aW t c cst n=some out:=by
 cases c with
 |own κ=>
  simp only [dJ] at h ⊢
  split at h
  ·rename_i i hi
   split at h
   ·rename_i el hd
    split at h
    ·rename_i ei eD
     split at h
     ·rename_i e l ho
      split at h
      ·rename_i hsz
       cases h
       have e2:=ha κ (by simp)
       simp only [hi,hd,eD,e2,ho,if_pos hsz]
      ·cases h
     ·rename_i e ll hh ho
      split at h
      ·rename_i hsz
       cases h
       have e2:=ha κ (by simp)
       simp only [hi,hd,eD,e2,ho,if_pos hsz]
      ·cases h
     ·cases h
    ·cases h
   ·exact h
   ·cases h
  ·cases h
 |val b e y=>exact h
 |_=>
  simp only [dJ] at h ⊢
  exact h
theorem nQ {c:C} {out:Out} (h:jM ob c=some out) (ha:∀κ∈out.acc,aW κ=ob κ):jM aW c=some out:=by
 cases c with
 |own κ=>
  simp only [jM] at h ⊢
  split at h
  ·rename_i e l ho
   cases h
   have e2:=ha κ (by simp)
   simp only [e2,ho]
  ·rename_i e ll _ _ _ _ ho
   cases h
   have e2:=ha κ (by simp)
   simp only [e2,ho]
  ·cases h
 |_=>exact h
theorem vl {ρ ρ':Operand->AV} {op:Op} {out:Out} (h:aR T ρ ob op=some out) (hρ:∀x∈op.operands.toList,ρ' x=ρ x) (ha:∀κ∈out.acc,aW κ=ob κ):aR T ρ' aW op=some out:=by
 cases op with
 |move x=>simp only [aR] at h ⊢; rw [hρ x (by simp [Op.operands])];exact h
 |assign x=>simp only [aR] at h ⊢; rw [hρ x (by simp [Op.operands])];exact h
 |pick c a b=>simp only [aR] at h ⊢; rw [hρ c (by simp [Op.operands]),hρ a (by simp [Op.operands]),hρ b (by simp [Op.operands])];exact h
 |load t x=>
  simp only [aR] at h ⊢
  rw [hρ x (by simp [Op.operands])]
  split at h
  ·rename_i c e;(try rw [e]);exact sR h ha
  ·cases h
 |fieldAddr s x f=>simp only [aR] at h ⊢; rw [hρ x (by simp [Op.operands])];exact h
 |field s x f=>simp only [aR] at h ⊢; rw [hρ x (by simp [Op.operands])];exact h
 |indexAddr t x i=>
  simp only [aR] at h ⊢
  rw [hρ x (by simp [Op.operands]),hρ i (by simp [Op.operands])]
  split at h
  ·rename_i k n c e1 e2;(try rw [e1,e2]);exact nL h ha
  ·cases h
 |index t x i=>simp only [aR] at h ⊢; rw [hρ x (by simp [Op.operands]),hρ i (by simp [Op.operands])];exact h
 |binOp op t x y yt=>simp only [aR] at h ⊢; rw [hρ x (by simp [Op.operands]),hρ y (by simp [Op.operands])];exact h
 |unOp op t x=>simp only [aR] at h ⊢; rw [hρ x (by simp [Op.operands])];exact h
 |convert s d x=>simp only [aR] at h ⊢; rw [hρ x (by simp [Op.operands])];exact h
 |extract x n=>simp only [aR] at h ⊢; rw [hρ x (by simp [Op.operands])];exact h
 |nilCheck x=>simp only [aR] at h ⊢; rw [hρ x (by simp [Op.operands])];exact h
 |slice t x lo hi mx=>
  cases mx with
  |some m=>simp only [aR] at h;cases h
  |none=>
   have e:∀y:Option Operand,(∀z,y=some z->z∈(Op.slice t x lo hi none).operands.toList)->c9 ρ' y=c9 ρ y:=λ y hy=>by
    cases y with
    |none=>rfl
    |some z=>simp only [c9];rw [hρ z (hy z rfl)]
   simp only [aR] at h ⊢
   rw [hρ x (by simp [Op.operands]),e lo (λ z hz=>by simp [Op.operands,hz]),e hi (λ z hz=>by simp [Op.operands,hz])]
   split at h
   ·rename_i c l1 h1 e1 e2 e3
    cases c with
    |own κ=>
     simp only [eM] at h ⊢
     split at h
     ·rename_i e' l ho
      have hk:κ∈out.acc:=by
       revert h
       repeat' split
       all_goals first| (intro h;cases h;done)| (intro h;cases h;simp)
      rw [ha κ hk,ho]
      exact h
     ·cases h
    |_=>exact h
   ·cases h
 |lookup t m x ok=>
  cases ok with
  |true=>simp only [aR] at h;cases h
  |false=>
   simp only [aR] at h ⊢
   rw [hρ m (by simp [Op.operands]),hρ x (by simp [Op.operands])]
   split at h
   ·rename_i κ a b e1 e2
    (try simp only [e1,e2])
    split at h
    ·rename_i l hs ho
     cases h
     have hk:=ha κ (by simp)
     simp only [hs,hk,ho]
    ·cases h
   ·cases h
 |build t parts=>
  simp only [aR] at h ⊢
  have e:(parts.toList.map λ p=>(p.1,ρ' p.2))=parts.toList.map λ p=>(p.1,ρ p.2):=List.map_congr_left λ p hp=>by
   rw [hρ p.2 (by simp only [Op.operands];exact List.mem_map.2 ⟨p,hp,rfl⟩)]
  rw [e];exact h
 |makeFunc fn first captured=>
  cases fn with
  |func f=>
   simp only [aR] at h ⊢
   have e:captured.toList.map ρ'=captured.toList.map ρ:=List.map_congr_left λ x hx=>hρ x (by simp [Op.operands];exact .inr (by simpa using hx))
   rw [e];exact h
  |_=>simp only [aR] at h;cases h
 |call c=>
  obtain ⟨callee,args,argTypes⟩:=c
  have hargs:∀b,callee=.builtin b->∀x∈args.toList,ρ' x=ρ x:=λ b hb x hx=>hρ x (by subst hb;simpa [Op.operands,Call.operands] using hx)
  cases callee with
  |builtin b=>
   cases b with
   |len=>
    simp only [aR] at h ⊢
    split at h
    ·rename_i x t e1 e2
     have e3:=hargs _ rfl x (by rw [e1];simp)
     simp only [e1,e2,e3]
     split at h
     ·rename_i a i e4 hi
      (try simp only [e4,hi])
      split at h
      ·rename_i g1 g2;(try simp only [g1,g2]);exact nQ h ha
      ·rename_i g1 g2 g3;(try simp only [g1,g2,g3]);exact nQ h ha
      ·cases h
     ·cases h
    ·cases h
   |max=>simp only [aR] at h ⊢; rw [List.map_congr_left (hargs _ rfl)];exact h
   |min=>simp only [aR] at h ⊢; rw [List.map_congr_left (hargs _ rfl)];exact h
   |_=>simp only [aR] at h;cases h
  |_=>simp only [aR] at h;cases h
 |_=>simp only [aR] at h;cases h
theorem sQ {c:C} {out:Out} (h:l6 ob c=some out) (ha:∀κ∈out.acc,aW κ=ob κ):l6 aW c=some out:=by
 unfold l6 at h ⊢
 split at h
 ·rename_i κ
  split at h
  ·rename_i K V l it ho
   cases h
   have e:=ha κ (by simp)
   simp only [e,ho]
  ·cases h
 ·exact h
 ·cases h
theorem wG {ρ ρ':Operand->AV} {op:Op} {out:Out} (h:ej T ρ ob op=some out) (hρ:∀x∈op.operands.toList,ρ' x=ρ x) (ha:∀κ∈out.acc,aW κ=ob κ):ej T ρ' aW op=some out/\aR T ρ' aW op=none:=by
 cases op with
 |index t x i=>
  simp only [ej,aR] at h ⊢
  rw [hρ x (by simp [Op.operands]),hρ i (by simp [Op.operands])]
  split at h
  ·rename_i k n cs e1 e2
   refine ⟨?_, ?_⟩
   ·(try simp only [e1,e2]);exact h
   ·rw [e1,e2]
  ·cases h
 |slice t x lo hi mx=>
  cases lo with
  |some _=>cases hi<;>cases mx<;>simp only [ej] at h<;>cases h
  |none=>
   cases hi with
   |some _=>cases mx<;>simp only [ej] at h<;>cases h
   |none=>
    cases mx with
    |some _=>simp only [ej] at h;cases h
    |none=>
     simp only [ej,aR,c9] at h ⊢
     rw [hρ x (by simp [Op.operands])]
     split at h
     ·rename_i e y off e1
      (try simp only [e1])
      exact ⟨h,by simp [eM]⟩
     ·rename_i κ off e1
      split at h
      ·rename_i e y ho
       obtain ⟨c,hc,rfl⟩:=Option.map_eq_some_iff.1 h
       have e2:=ha κ (by simp)
       (try simp only [e1,e2,ho,hc,Option.map_some])
       exact ⟨trivial,by simp [eM]⟩
      ·cases h
     ·cases h
 |lookup t m x ok=>
  simp only [ej] at h ⊢
  rw [hρ m (by simp [Op.operands]),hρ x (by simp [Op.operands])]
  split at h
  ·rename_i κ e1
   split at h
   ·rename_i K V l it ho
    split at h
    ·rename_i y k hy hk
     have aa:κ∈out.acc:=by
      cases ok<;>(cases h;simp)
     have e2:=ha κ aa
     refine ⟨?_, ?_⟩
     ·(try simp only [e1,e2,ho,hy,hk]);exact h
     ·cases ok with
      |true=>rfl
      |false=>
       simp only [aR]
       rw [hρ m (by simp [Op.operands]),hρ x (by simp [Op.operands]),e1]
       split
       ·rename_i af a b e3 e4
        cases e3
        rw [e2,ho]
        split<;>simp_all
       ·rfl
    ·cases h
   ·cases h
  ·rename_i K V l e1
   refine ⟨?_, ?_⟩
   ·(try simp only [e1]);exact h
   ·cases ok with
    |true=>rfl
    |false=>
     simp only [aR]
     rw [hρ m (by simp [Op.operands]),hρ x (by simp [Op.operands]),e1]
  ·cases h
 |entry x=>
  simp only [ej,aR] at h ⊢
  rw [hρ x (by simp [Op.operands])]
  split at h
  ·rename_i d e1
   split at h
   ·rename_i κ hd
    split at h
    ·rename_i K V l d' L kv ho
     split at h
     ·rename_i ij
      cases h
      have e2:=ha d (by simp)
      have e3:=ha κ (by simp)
      (try simp only [e1,e2,hd,e3,ho,ij])
      exact ⟨trivial,trivial⟩
     ·cases h
    ·cases h
   ·cases h
  ·cases h
 |call c=>
  obtain ⟨callee,args,argTypes⟩:=c
  cases callee with
  |builtin b=>
   cases b with
   |len=>
    simp only [ej,aR] at h ⊢
    split at h
    ·rename_i x t e1 e2
     have e3:=hρ x (by simp [Op.operands,Call.operands,e1])
     simp only [e1,e2,e3]
     split at h
     ·rename_i a i e4 hi
      split at h
      ·rename_i hm
       refine ⟨?_, ?_⟩
       ·(try simp only [e4,hi,hm]);exact sQ h ha
       ·(try simp only [e4,hi])
        revert hm
        cases i.d<;>simp [tc,kC,pL]
      ·cases h
     ·cases h
    ·cases h
   |_=>simp only [ej] at h;cases h
  |_=>simp only [ej] at h;cases h
 |_=>simp only [ej] at h;cases h
theorem wM {ρ ρ':Operand->AV} {op:Op} {out:Out} (h:sS T ρ ob op=some out) (hρ:∀x∈op.operands.toList,ρ' x=ρ x) (ha:∀κ∈out.acc,aW κ=ob κ):sS T ρ' aW op=some out:=by
 unfold sS at h ⊢
 split at h
 ·rename_i o ho
  cases h
  rw [vl ho hρ ha]
 ·obtain ⟨h1,h2⟩:=wG h hρ ha
  rw [h2];exact h1
theorem j8 {len d:Nat} {conds:List DP} {acc:List Nat} {v:C} {o:Ob} {e:bK} (h:dB ob len d conds acc v o=some e) (ha:∀κ∈e.acc,aW κ=ob κ):dB aW len d conds acc v o=some e/\e.kill=none/\∃o,e.upd=some (d,o)/\d∈e.acc/\d <len:=by
 obtain ⟨h1,h2,rfl⟩:=b9 h
 refine ⟨?_,rfl,o,rfl,by simp,ct h1⟩
 unfold dB at h ⊢
 rw [ha d (by simp)]
 exact h
theorem pV {σ:St} {κ:Nat} {o:Ob} (h:σ.ob κ=some o):κ <σ.objs.length:=by
 rcases Nat.lt_or_ge κ σ.objs.length with g|g
 ·exact g
 ·unfold St.ob at h;rw [List.getD_eq_getElem?_getD,List.getElem?_eq_none g] at h;cases h
theorem lF {e:Ty} {x:C} {acc:List Nat} {m:List e.D} (h:lE ob e x=some (acc,m)) (ha:∀κ∈acc,aW κ=ob κ):lE aW e x=some (acc,m):=by
 cases x with
 |own κ=>
  simp only [lE] at h ⊢
  split at h
  ·rename_i e' l ho
   have hk:κ∈acc:=by
    revert h
    generalize Ty.dec e' e=d
    intro h
    cases d with
    |isTrue he=>subst he;cases h;simp
    |isFalse _=>cases h
   rw [ha κ hk,ho]
   exact h
  ·cases h
 |part κ sz lo n=>
  simp only [lE] at h ⊢
  split at h
  ·rename_i e' l ho
   have hk:κ∈acc:=by
    revert h
    generalize Ty.dec e' e=d
    intro h
    cases d with
    |isTrue he=>
     subst he
     split at h
     ·cases h;simp
     ·cases h
    |isFalse _=>cases h
   rw [ha κ hk,ho]
   exact h
  ·cases h
 |_=>exact h
theorem vn {σ σ':St} (hl:σ'.objs.length=σ.objs.length) {ρ ρ':Operand->AV} {dst:Option Nat} {op:Op} {e:bK} (h:bD T Y ρ σ.ob σ.objs.length dst op=some e) (hρ:∀x∈op.operands.toList,ρ' x=ρ x) (ha:∀κ∈e.acc,σ'.ob κ=σ.ob κ):
 bD T Y ρ' σ'.ob σ'.objs.length dst op=some e/\(True->∀κ∈bn e.upd,κ∈e.acc/\κ <σ.objs.length):=by
 rw [hl]
 have fin:∀{d:Nat} {conds:List DP} {acc:List Nat} {v:C} {o:Ob},dB σ.ob σ.objs.length d conds acc v o=some e->dB σ'.ob σ.objs.length d conds acc v o=some e/\(True->∀κ∈bn e.upd,κ∈e.acc/\κ <σ.objs.length):=λ {d conds acc v o} hn=>by
  obtain ⟨k1,k2,o,k3,k4,k5⟩:=j8 hn ha
  refine ⟨k1,λ _ κ aa=> ?_⟩
  rw [k3] at aa
  have:κ=d:=by simpa [bn] using aa
  rw [this];exact ⟨k4,k5⟩
 cases op with
 |box el x=>
  simp only [bD] at h ⊢
  rw [hρ x (by simp [Op.operands])]
  split at h
  ·rename_i d x1 hx
   split at h
   ·rename_i cs hcs
    have e9:nk σ'.ob σ.objs.length d=nk σ.ob σ.objs.length d:=by
     simp only [nk,ha d (by obtain ⟨_,_,q⟩:=b9 h;rw [q];simp)]
    (try simp only [hx,hcs]);rw [e9];exact fin h
   ·cases h
  ·cases h
 |alloc el=>
  simp only [bD] at h ⊢
  split at h
  ·rename_i d i hi
   split at h
   ·rename_i b z hz
    have e9:nk σ'.ob σ.objs.length d=nk σ.ob σ.objs.length d:=by
     simp only [nk,ha d (by obtain ⟨_,_,q⟩:=b9 h;rw [q];simp)]
    (try simp only [hi,hz]);rw [e9];exact fin h
   ·cases h
  ·cases h
 |buildSlice t n parts=>
  simp only [bD] at h ⊢
  have e1:(parts.toList.map λ p=>(p.1,ρ' p.2))=parts.toList.map λ p=>(p.1,ρ p.2):=List.map_congr_left λ p hp=>by
   rw [hρ p.2 (by simp only [Op.operands];exact List.mem_map.2 ⟨p,hp,rfl⟩)]
  rw [e1]
  split at h
  ·rename_i d it hit
   split at h
   ·rename_i el hd
    split at h
    ·rename_i i bp hi gL
     split at h
     ·rename_i b z hz
      split at h
      ·rename_i aY
       split at h
       ·rename_i cs hcs
        split at h
        ·rename_i l hl'
         (try simp only [hit,hd,hi,gL,hz,if_pos aY,hcs,hl'])
         exact fin h
        ·cases h
       ·cases h
      ·cases h
     ·cases h
    ·cases h
   ·cases h
  ·cases h
 |makeSlice t l c=>
  simp only [bD] at h ⊢
  rw [hρ l (by simp [Op.operands])]
  split at h
  ·rename_i d it hit
   split at h
   ·rename_i el hd
    split at h
    ·rename_i i bp hi gL
     split at h
     ·rename_i b z hz
      split at h
      ·rename_i aY
       split at h
       ·rename_i y n hy hn
        (try simp only [hit,hd,hi,gL,hz,if_pos aY,hy,hn])
        exact fin h
       ·cases h
      ·cases h
     ·cases h
    ·cases h
   ·cases h
  ·cases h
 |makeMap t r=>
  cases r with
  |some r=>simp only [bD] at h;cases h
  |none=>
   simp only [bD] at h ⊢
   split at h
   ·rename_i d hs
    (try simp only [hs])
    exact fin h
   ·cases h
 |mapUpdate t m k x=>
  simp only [bD] at h ⊢
  rw [hρ m (by simp [Op.operands]),hρ k (by simp [Op.operands]),hρ x (by simp [Op.operands])]
  split at h
  ·rename_i κ a b e1 e2 e3
   (try simp only [e1,e2,e3])
   split at h
   ·rename_i l hs ho
    cases h
    have hk:=ha κ (by simp)
    simp only [hs,hk,ho]
    exact ⟨trivial,λ _ af aa=>by
     have:af=κ:=by simpa [bn] using aa
     subst this;exact ⟨by simp,pV ho⟩⟩
   ·cases h
  ·cases h
 |store t p x=>
  simp only [bD] at h ⊢
  rw [hρ p (by simp [Op.operands]),hρ x (by simp [Op.operands])]
  split at h
  ·rename_i c cx hp hx
   (try simp only [hp,hx])
   unfold nw at h ⊢
   split at h
   ·rename_i κ off
    split at h
    ·rename_i i cs xs hi aj hxs
     split at h
     ·rename_i aY
      cases h
      have e2:=ha κ (by simp)
      simp only [hi,e2,aj,hxs,if_pos aY]
      exact ⟨trivial,λ _ af aa=>by
       have:af=κ:=by simpa [bn] using aa
       subst this;exact ⟨by simp,pV aj⟩⟩
     ·cases h
    ·cases h
   ·rename_i κ sz j off
    split at h
    ·rename_i i e1 l xs hi aj hxs
     split at h
     ·rename_i aY
      split at h
      ·rename_i y hy
       cases h
       have e2:=ha κ (by simp)
       simp only [hi,e2,aj,hxs,if_pos aY,hy]
       exact ⟨trivial,λ _ af aa=>by
        have:af=κ:=by simpa [bn] using aa
        subst this;exact ⟨by simp,pV aj⟩⟩
      ·cases h
     ·cases h
    ·cases h
   ·cases h
  ·cases h
 |call c=>
  obtain ⟨callee,args,argTypes⟩:=c
  cases callee with
  |builtin b=>
   cases b with
   |append=>
    simp only [bD] at h ⊢
    split at h
    ·rename_i s x t t' d e1 e2
     have e3:ρ' s=ρ s:=hρ s (by simp [Op.operands,Call.operands];rw [<-Array.mem_toList_iff,e1];simp)
     have e4:ρ' x=ρ x:=hρ x (by simp [Op.operands,Call.operands];rw [<-Array.mem_toList_iff,e1];simp)
     simp only [e1,e2,e3,e4]
     split at h
     ·rename_i sc xc it hs hx hit
      split at h
      ·rename_i el hd
       split at h
       ·rename_i uF
        (try simp only [hs,hx,hit,hd,if_pos uF])
        unfold kT at h ⊢
        split at h
        ·rename_i i hi
         (try simp only [hi])
         split at h
         ·cases h
         ·rename_i b z hz
          split at h
          ·rename_i κ
           split at h
           ·rename_i bp l aj
            split at h
            ·rename_i acc m hm
             split at h
             ·rename_i aY
              cases h
              have g1:=ha κ (by simp)
              have g2:=lF (aW:=σ'.ob) hm (λ af aa=>ha af (by simp [aa]))
              simp only [hz,g1,aj,g2,if_pos aY]
              exact ⟨trivial,λ _ af aa=>by
               have aD:af=κ:=by simpa [bn] using aa
               subst aD
               exact ⟨List.mem_cons_self ..,ct aY.2.2.2.1⟩⟩
             ·cases h
            ·cases h
           ·cases h
          ·split at h
           ·rename_i bp gL
            split at h
            ·rename_i acc m hm
             split at h
             ·rename_i aY
              have hacc:∀af∈acc,af∈e.acc:=λ af aa=>by
               obtain ⟨_,_,rfl⟩:=b9 h
               simp [aa]
              have g2:=lF (aW:=σ'.ob) hm (λ af aa=>ha af (hacc af aa))
              simp only [hz,gL,g2,if_pos aY]
              exact fin h
             ·cases h
            ·cases h
           ·cases h
          ·cases h
        ·cases h
       ·cases h
      ·cases h
     ·cases h
    ·cases h
   |copy=>
    simp only [bD] at h ⊢
    split at h
    ·rename_i d s t t' e1 e2
     have e3:ρ' d=ρ d:=hρ d (by simp [Op.operands,Call.operands];rw [<-Array.mem_toList_iff,e1];simp)
     have e4:ρ' s=ρ s:=hρ s (by simp [Op.operands,Call.operands];rw [<-Array.mem_toList_iff,e1];simp)
     simp only [e1,e2,e3,e4]
     split at h
     ·rename_i dc sc it hd hs hit
      split at h
      ·rename_i el ij
       (try simp only [hd,hs,hit,ij])
       unfold oZ at h ⊢
       split at h
       ·rename_i i κ lo n hi hpart
        split at h
        ·rename_i bp l aj
         split at h
         ·rename_i acc m hm
          split at h
          ·rename_i aY
           cases h
           have g1:=ha κ (by simp)
           have g2:=lF (aW:=σ'.ob) hm (λ af aa=>ha af (by simp [aa]))
           have g3:partOf σ'.ob dc=some (κ,lo,n):=by
            rw [<-hpart]
            cases dc with
            |own af=>
             have:af=κ:=by
              simp only [partOf] at hpart
              split at hpart
              ·cases hpart;rfl
              ·cases hpart
             subst this
             simp only [partOf,g1]
            |_=>rfl
           simp only [hi,g3,g1,aj,g2,if_pos aY]
           exact ⟨trivial,λ _ af aa=>by
            have:af=κ:=by simpa [bn] using aa
            subst this;exact ⟨by simp,pV aj⟩⟩
          ·cases h
         ·cases h
        ·cases h
       ·cases h
      ·cases h
     ·cases h
    ·cases h
   |_=>simp only [bD] at h;cases h
  |_=>simp only [bD] at h;cases h
 |_=>simp only [bD] at h;cases h
theorem xY {ρ ρ':Operand->AV} {f g:Nat->Option Ob} {m n:Nat} {dst:Option Nat} {op:Op} {e:bK} (h:jN T Y ρ f m dst op=some e):bD T Y ρ' g n dst op=none:=by
 cases op with
 |makeSlice t l c=>
  simp only [jN] at h
  simp only [bD]
  split at h
  ·rename_i d it hit
   split at h
   ·rename_i el hd
    split at h
    ·rename_i i bp hi gL
     obtain ⟨ey,h1,h2⟩:=Option.bind_eq_some_iff.1 gL
     split at h
     ·rename_i b hz
      split at h
      ·rename_i aY
       have hn:ey.n=2:=by
        unfold y7 at h2
        split at h2
        ·rfl
        ·cases h2
       simp only [hit,hd,hi,h1,hz]
       rw [if_neg (λ z=>by have:=z.2.1;omega)]
      ·cases h
     ·cases h
    ·cases h
   ·cases h
  ·cases h
 |_=>simp only [jN] at h;cases h
theorem wI {σ σ':St} (hl:σ'.objs.length=σ.objs.length) {ρ ρ':Operand->AV} {dst:Option Nat} {op:Op} {e:bK} (h:jN T Y ρ σ.ob σ.objs.length dst op=some e) (hρ:∀x∈op.operands.toList,ρ' x=ρ x) (ha:∀κ∈e.acc,σ'.ob κ=σ.ob κ):
 jN T Y ρ' σ'.ob σ'.objs.length dst op=some e/\(True->∀κ∈bn e.upd,κ∈e.acc/\κ <σ.objs.length):=by
 rw [hl]
 cases op with
 |makeSlice t l c=>
  simp only [jN] at h ⊢
  rw [hρ l (by simp [Op.operands])]
  split at h
  ·rename_i d it hit
   split at h
   ·rename_i el hd
    split at h
    ·rename_i i bp hi gL
     split at h
     ·rename_i b hz
      split at h
      ·rename_i aY
       split at h
       ·rename_i n hn
        simp only [hit,hd,hi,gL,hz,if_pos aY,hn]
        obtain ⟨k1,k2,o,k3,k4,k5⟩:=j8 h ha
        refine ⟨k1,λ _ κ aa=> ?_⟩
        rw [k3] at aa
        have:κ=d:=by simpa [bn] using aa
        rw [this];exact ⟨k4,k5⟩
       ·cases h
      ·cases h
     ·cases h
    ·cases h
   ·cases h
  ·cases h
 |_=>simp only [jN] at h;cases h
theorem wK {σ σ':St} (hl:σ'.objs.length=σ.objs.length) {ρ ρ':Operand->AV} {dst:Option Nat} {op:Op} {e:bK} (h:jr T Y ρ σ.ob σ.objs.length dst op=some e) (hρ:∀x∈op.operands.toList,ρ' x=ρ x) (ha:∀κ∈e.acc,σ'.ob κ=σ.ob κ):
 jr T Y ρ' σ'.ob σ'.objs.length dst op=some e/\(True->∀κ∈bn e.upd,κ∈e.acc/\κ <σ.objs.length):=by
 rw [hl]
 cases op with
 |slice t x lo hi mx=>
  cases mx with
  |some m=>simp only [jr] at h;cases h
  |none=>
   have e0:∀y:Option Operand,(∀z,y=some z->z∈(Op.slice t x lo hi none).operands.toList)->c9 ρ' y=c9 ρ y:=λ y hy=>by
    cases y with
    |none=>rfl
    |some z=>simp only [c9];rw [hρ z (hy z rfl)]
   simp only [jr] at h ⊢
   rw [hρ x (by simp [Op.operands]),e0 lo (λ z hz=>by subst hz;simp [Op.operands]),e0 hi (λ z hz=>by subst hz;simp [Op.operands])]
   split at h
   ·rename_i d
    split at h
    ·rename_i mk hmk
     split at h
     ·rename_i κ lo' hi' e1 hlo hhi
      split at h
      ·rename_i bp l aj qv
       split at h
       ·rename_i out hout
        cases h
        have e2:σ'.ob κ=some (.vec bp l):=by rw [ha κ (by simp),aj]
        have e3:eM T σ'.ob t (.own κ) lo' hi'=some out:=by
         rw [<-hout]
         simp only [eM,e2,aj]
        simp only [hmk,e1,hlo,hhi,e2,qv,e3]
        refine ⟨trivial,λ _ af aa=> ?_⟩
        have:af=κ:=by simpa [bn] using aa
        subst this
        exact ⟨by simp,ct qv⟩
       ·cases h
      ·cases h
     ·cases h
    ·cases h
   ·cases h
 |_=>simp only [jr] at h;cases h
theorem xZ {ρ:Operand->AV} {ob:Nat->Option Ob} {len:Nat} {dst:Option Nat} {op:Op} {e:bK} (h:jr T Y ρ ob len dst op=some e) (ρ':Operand->AV) (aW:Nat->Option Ob) (len':Nat):bD T Y ρ' aW len' dst op=none/\jN T Y ρ' aW len' dst op=none:=by
 cases op with
 |slice t x lo hi mx=>exact ⟨rfl,rfl⟩
 |_=>simp only [jr] at h;cases h
theorem wC {σ σ':St} {ρ ρ':Operand->AV} {op:Op} {e:bK} (h:h9 T ρ σ.ob op=some e) (hρ:∀x∈op.operands.toList,ρ' x=ρ x) (ha:∀κ∈e.acc,σ'.ob κ=σ.ob κ):
 h9 T ρ' σ'.ob op=some e/\(True->∀κ∈bn e.upd,κ∈e.acc/\κ <σ.objs.length):=by
 cases op with
 |call c=>
  obtain ⟨callee,args,argTypes⟩:=c
  cases callee with
  |builtin b=>
   cases b with
   |clear=>
    simp only [h9] at h ⊢
    split at h
    ·rename_i x t e1 e2
     have ex:ρ' x=ρ x:=hρ x (by simp [Op.operands,Call.operands];rw [<-Array.mem_toList_iff,e1];simp)
     simp only [e1,e2,ex]
     split at h
     ·rename_i xc it hx hit
      (try simp only [hx,hit])
      split at h
      ·rename_i el ij
       unfold nu at h ⊢
       split at h
       ·rename_i κ sz lo n
        split at h
        ·rename_i i bp l hi aj
         split at h
         ·rename_i b z hz
          split at h
          ·rename_i aY
           split at h
           ·rename_i y hy
            cases h
            have e4:σ'.ob κ=some (.vec bp l):=by rw [ha κ (by simp),aj]
            simp only [ij,hi,e4,hz,if_pos aY,hy]
            refine ⟨trivial,λ _ af aa=> ?_⟩
            have:af=κ:=by simpa [bn] using aa
            subst this
            exact ⟨by simp,c6 (by rw [aj];simp)⟩
           ·cases h
          ·cases h
         ·cases h
        ·cases h
       ·cases h
      ·cases h
     ·cases h
    ·cases h
   |_=>simp only [h9] at h;cases h
  |_=>simp only [h9] at h;cases h
 |_=>simp only [h9] at h;cases h
theorem xX {ρ:Operand->AV} {ob:Nat->Option Ob} {op:Op} {e:bK} (h:h9 T ρ ob op=some e) (ρ':Operand->AV) (aW:Nat->Option Ob) (len':Nat) (dst:Option Nat):bD T Y ρ' aW len' dst op=none/\jN T Y ρ' aW len' dst op=none/\jr T Y ρ' aW len' dst op=none:=by
 cases op with
 |call c=>
  obtain ⟨callee,args,argTypes⟩:=c
  cases callee with
  |builtin b=>
   cases b with
   |clear=>exact ⟨rfl,rfl,rfl⟩
   |_=>simp only [h9] at h;cases h
  |_=>simp only [h9] at h;cases h
 |_=>simp only [h9] at h;cases h
theorem vp {σ σ':St} (hl:σ'.objs.length=σ.objs.length) {ρ ρ':Operand->AV} {dst:Option Nat} {op:Op} {e:bK} (h:bZ T Y ρ σ.ob σ.objs.length dst op=some e) (hρ:∀x∈op.operands.toList,ρ' x=ρ x) (ha:∀κ∈e.acc,σ'.ob κ=σ.ob κ):
 bZ T Y ρ' σ'.ob σ'.objs.length dst op=some e/\(True->∀κ∈bn e.upd,κ∈e.acc/\κ <σ.objs.length)/\
 bD T Y ρ' σ'.ob σ'.objs.length dst op=none/\jN T Y ρ' σ'.ob σ'.objs.length dst op=none/\jr T Y ρ' σ'.ob σ'.objs.length dst op=none/\h9 T ρ' σ'.ob op=none:=by
 have one:∀{κ:Nat} {o o':Ob},σ.ob κ=some o->∀af∈bn (some (κ,o')),af∈[κ]/\af <σ.objs.length:=λ ho af aa=>by
  simp only [bn,List.mem_singleton] at aa
  subst aa
  exact ⟨List.mem_singleton.2 rfl,pV ho⟩
 cases op with
 |load t p=>
  simp only [bZ] at h ⊢
  rw [hρ p (by simp [Op.operands])]
  split at h
  ·rename_i d κ sz j off e1
   split at h
   ·rename_i y i e ll tt mm xs e2 e3 e4
    split at h
    ·rename_i hc
     cases h
     have e5:=ha κ (by simp)
     refine ⟨?_,λ _ κ aa=>absurd aa List.not_mem_nil,rfl,rfl,rfl,rfl⟩
     simp only [e1,e2,e3,e5,e4,hc]
    ·cases h
   ·cases h
  ·cases h
 |store t p x=>
  simp only [bZ] at h ⊢
  rw [hρ p (by simp [Op.operands]),hρ x (by simp [Op.operands])]
  split at h
  ·rename_i κ off n sz i k v e1 e2
   split at h
   ·rename_i ti cs Ao aj
    split at h
    ·rename_i l hc hl'
     cases h
     have e3:=ha κ (by simp)
     refine ⟨?_,λ _=>one aj, ?_,rfl,rfl,rfl⟩
     ·(try simp only [e1,e2,Ao,e3,aj,hc,hl'])
     ·simp only [bD]
      rw [hρ p (by simp [Op.operands]),hρ x (by simp [Op.operands]),e1,e2]
      rfl
    ·cases h
   ·cases h
  ·cases h
 |slice t x lo hi mx=>
  cases lo with
  |some _=>cases hi<;>cases mx<;>simp only [bZ] at h<;>cases h
  |none=>
   cases hi with
   |some _=>cases mx<;>simp only [bZ] at h<;>cases h
   |none=>
    cases mx with
    |some _=>simp only [bZ] at h;cases h
    |none=>
     simp only [bZ] at h ⊢
     rw [hρ x (by simp [Op.operands])]
     split at h
     ·rename_i κ e1
      split at h
      ·rename_i cs ey aj hY
       split at h
       ·rename_i y hy
        obtain ⟨c,hc,rfl⟩:=Option.map_eq_some_iff.1 h
        have e3:=ha κ (by simp)
        refine ⟨?_,λ _=>one aj,rfl,rfl, ?_,rfl⟩
        ·(try simp only [e1,e3,aj,hY,hy,hc,Option.map_some])
        ·simp only [jr,c9]
         rw [hρ x (by simp [Op.operands]),e1]
         cases dst with
         |none=>rfl
         |some d=>
          simp only
          cases Y.get (uy d)<;>rfl
       ·cases h
      ·cases h
     ·cases h
 |makeMap t r=>
  cases r with
  |some _=>simp only [bZ] at h;cases h
  |none=>
   simp only [bZ] at h ⊢
   split at h
   ·rename_i d K V hs hY
    split at h
    ·rename_i y hy
     have h1:=j8 h ha
     rw [hl]
     refine ⟨h1.1,λ _ κ aa=> ?_, ?_,rfl,rfl,rfl⟩
     ·obtain ⟨_,_,o,h2,h3,h4⟩:=h1
      rw [h2] at aa
      simp only [bn,List.mem_singleton] at aa
      subst aa
      exact ⟨h3,h4⟩
     ·simp only [bD,hs]
    ·cases h
   ·cases h
 |mapUpdate t m k x=>
  simp only [bZ] at h ⊢
  rw [hρ m (by simp [Op.operands]),hρ k (by simp [Op.operands]),hρ x (by simp [Op.operands])]
  split at h
  ·rename_i κ e1
   split at h
   ·rename_i K V l it aj
    split at h
    ·rename_i y kk xx hy hk hx
     cases h
     have e3:=ha κ (by simp)
     refine ⟨?_,λ _=>one aj, ?_,rfl,rfl,rfl⟩
     ·(try simp only [e1,e3,aj,hy,hk,hx])
     ·simp only [bD]
      rw [hρ m (by simp [Op.operands]),hρ k (by simp [Op.operands]),hρ x (by simp [Op.operands]),e1]
      split
      ·rename_i af a b e4 e5 e6
       cases e4
       rw [e3,aj]
       split<;>simp_all
      ·rfl
    ·cases h
   ·cases h
  ·cases h
 |call c=>
  obtain ⟨callee,args,argTypes⟩:=c
  cases callee with
  |builtin b=>
   cases b with
   |delete=>
    simp only [bZ] at h ⊢
    split at h
    ·rename_i m k t t' e0 zJ
     have hm:=hρ m (by simp [Op.operands,Call.operands,e0])
     have hk':=hρ k (by simp [Op.operands,Call.operands,e0])
     simp only [e0,zJ,hm,hk']
     split at h
     ·rename_i κ e1
      split at h
      ·rename_i K V l it aj
       split at h
       ·rename_i y kk hy hk
        cases h
        have e3:=ha κ (by simp)
        refine ⟨?_,λ _=>one aj,rfl,rfl,rfl,rfl⟩
        (try simp only [e1,e3,aj,hy,hk])
       ·cases h
      ·cases h
     ·cases h
    ·cases h
   |_=>simp only [bZ] at h;cases h
  |_=>simp only [bZ] at h;cases h
 |_=>simp only [bZ] at h;cases h
theorem wE {σ:St} {ρ ρ':Operand->AV} {e0:Ty} {op:Op} {e:bK} (h:qU T ρ e0 op=some e) (hρ:∀x∈op.operands.toList,ρ' x=ρ x):
 qU T ρ' e0 op=some e/\(True->∀κ∈bn e.upd,κ∈e.acc/\κ <σ.objs.length):=by
 cases op with
 |buildSlice t n parts=>
  simp only [qU] at h ⊢
  have e1:(parts.toList.map λ p=>(p.1,ρ' p.2))=parts.toList.map λ p=>(p.1,ρ p.2):=List.map_congr_left λ p hp=>by
   rw [hρ p.2 (by simp only [Op.operands];exact List.mem_map.2 ⟨p,hp,rfl⟩)]
  rw [e1]
  split at h
  ·rename_i it hit
   split at h
   ·rename_i el hd
    split at h
    ·rename_i i hi
     split at h
     ·rename_i b z hz
      split at h
      ·rename_i aY
       split at h
       ·rename_i cs hcs
        split at h
        ·rename_i l hl'
         cases h
         refine ⟨?_,λ _ κ aa=>absurd aa List.not_mem_nil⟩
         simp only [hit,hd,hi,hz,if_pos aY,hcs,hl']
        ·cases h
       ·cases h
      ·cases h
     ·cases h
    ·cases h
   ·cases h
  ·cases h
 |_=>simp only [qU] at h;cases h
theorem qV {σ σ':St} (hl:σ'.objs.length=σ.objs.length) {ρ ρ':Operand->AV} {dst:Option Nat} {op:Op} {e:bK} (h:jt T Y ρ σ.ob σ.objs.length dst op=some e) (hρ:∀x∈op.operands.toList,ρ' x=ρ x) (ha:∀κ∈e.acc,σ'.ob κ=σ.ob κ):
 jt T Y ρ' σ'.ob σ'.objs.length dst op=some e/\(True->∀κ∈bn e.upd,κ∈e.acc/\κ <σ.objs.length):=by
 unfold jt at h ⊢
 split at h
 ·rename_i e0 hd
  exact wE h hρ
 unfold l8 at h
 split at h
 ·rename_i e' he'
  cases h
  have:=vn hl he' hρ ha
  refine ⟨?_,this.2⟩
  unfold l8;rw [this.1]
 ·split at h
  ·rename_i e' he'
   cases h
   have:=wI hl he' hρ ha
   refine ⟨?_,this.2⟩
   unfold l8;rw [xY he',this.1]
  ·split at h
   ·rename_i e' he'
    cases h
    have:=wK hl he' hρ ha
    refine ⟨?_,this.2⟩
    obtain ⟨q1,q2⟩:=xZ he' ρ' σ'.ob σ'.objs.length
    unfold l8;rw [q1,q2,this.1]
   ·split at h
    ·rename_i e' he'
     cases h
     have:=wC (σ:=σ) (σ':=σ') he' hρ ha
     refine ⟨?_,this.2⟩
     obtain ⟨q1,q2,q3⟩:=xX he' ρ' σ'.ob σ'.objs.length dst
     unfold l8;rw [q1,q2,q3,this.1]
    ·obtain ⟨q0,q5,q1,q2,q3,q4⟩:=vp hl h hρ ha
     refine ⟨?_,q5⟩
     unfold l8;rw [q1,q2,q3,q4,q0]
end
end Go.Rx
