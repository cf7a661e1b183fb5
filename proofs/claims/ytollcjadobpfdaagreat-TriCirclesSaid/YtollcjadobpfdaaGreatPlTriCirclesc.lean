/- Plain laws for TriCircles. No condition. -/
import Derived.Test.YtollcjadobpfdaaGreatPlTriCirclesb
set_option linter.unusedVariables false
set_option linter.unusedSimpArgs false
set_option linter.unusedSectionVars false
namespace Go.Proofs.YtollcjadobpfdaaGreat.Rw
open Go.Rx
theorem Nv {k:Nat} {l:List Bool} (hl:l.length<=1000):∀(d i n:Nat),i+d=l.length->d <n->∃r:Int,f118.l0 k n l false (l.length:Int) (i:Int)=some (r,())/\(0<=r↔∃j,i<=j/\l.getD j true=false)
 | 0,i,n+1,hd,hn=>⟨-1,by rw [f118.l0,f118.E0,if_neg (by omega)],by
   refine ⟨λ z=>by omega,λ ⟨j,h1,h2⟩=> ?_⟩
   rw [List.getD_eq_getElem?_getD,List.getElem?_eq_none (by omega)] at h2
   simp at h2⟩
 |d+1,i,n+1,hd,hn=>by
  have hi:i <l.length:=by omega
  have e:∀x,l.getD i x=l[i]:=λ x=>by simp [List.getD_eq_getElem?_getD,List.getElem?_eq_getElem hi]
  rw [f118.l0,f118.E0,if_pos (by omega),if_pos (by omega),if_pos (by omega),Int.toNat_natCast,e]
  by_cases h:l[i]=false
  ·rw [if_pos (by simp [h])]
   exact ⟨_,rfl,λ _=>⟨i,Nat.le_refl _,by rw [e];exact h⟩,λ _=>by omega⟩
  ·rw [if_neg (by simpa using h),CV (by omega) (by omega),show (i:Int)+1=((i+1:Nat):Int) by omega]
   obtain ⟨r,h1,h2⟩:=Nv (k:=k) hl d (i+1) n (by omega) (by omega)
   refine ⟨r,by simpa using h1,h2.trans ⟨λ ⟨j,a,b⟩=>⟨j,by omega,b⟩,λ ⟨j,a,b⟩=>⟨j, ?_,b⟩⟩⟩
   rcases Nat.lt_or_eq_of_le a with q|q
   ·omega
   ·subst q;rw [e] at b;exact absurd b h
open Classical in
theorem Ow {k:Nat} (hk:1000<=k) {l:List Bool} (hl:l.length<=900):f71 k l false=some (decide (∃j,l.getD j true=false),()):=by
 simp only [f71,f71.ES,f118,f118.ES]
 obtain ⟨r,h1,h2⟩:=Nv (k:=k) (l:=l) (by omega) l.length 0 k (by omega) (by omega)
 have h1':f118.l0 k k l (decide ((decide (false=true))=true)) (l.length:Int) 0=some (r,()):=by simpa using h1
 rw [h1',Option.bind_some]
 congr 2
 rw [decide_eq_decide,h2]
 exact ⟨λ ⟨j,_,b⟩=>⟨j,b⟩,λ ⟨j,b⟩=>⟨j,Nat.zero_le _,b⟩⟩
def KF (m:List ((Int×Int)×Int)) (r:List ((Int×Int)×Bool)) (e:Int×Int):Prop:=decide ((dA q7 m (e.2,e.1)).isSome=true)=decide ((dA q7 r e).getD false=true)
open Classical in
noncomputable def LP (m:List ((Int×Int)×Int)) (r:List ((Int×Int)×Bool)) (used:List Bool) (left:List ((Int×Int)×Int)):Int:=
 if (∃kv∈left,KF m r kv.1)\/(∃j:Nat,used.getD j true=false/\∀kv∈left,kv.1.1≠j) then 3 else 0
theorem N7 {l:List Bool} {t j:Nat} (ht:t <l.length):(l.set t true).getD j true=false↔j≠t/\l.getD j true=false:=by
 simp only [List.getD_eq_getElem?_getD,List.getElem?_set]
 by_cases h:t=j
 ·subst h;simp [ht]
 ·simp only [h,if_false]
  exact ⟨λ z=>⟨λ q=>h q.symm,z⟩,λ z=>z.2⟩
theorem F6 {α:Type}:∀{l:List α} {i:Nat} (hi:i <l.length) (x:α),x∈l↔x=l[i]\/x∈l.eraseIdx i
 |y::l,0,hi,x=>by simp [List.eraseIdx]
 |y::l,i+1,hi,x=>by
  have:=F6 (l:=l) (i:=i) (by simpa using hi) x
  rw [List.eraseIdx_cons_succ,List.mem_cons,List.mem_cons,this,List.getElem_cons_succ]
  exact ⟨λ h=>h.elim (λ e=>.inr (.inl e)) λ h=>h.elim .inl λ h=>.inr (.inr h),λ h=>h.elim (λ e=>.inr (.inl e)) λ h=>h.elim .inl λ h=>.inr (.inr h)⟩
theorem Oj {k:Nat} (hk:1000<=k) {m:List ((Int×Int)×Int)} {r:List ((Int×Int)×Bool)}:∀(n:Nat) (used:List Bool) (cur:Option ((Int×Int)×Int)) (left:List ((Int×Int)×Int)),left.length <n->used.length<=900->(∀kv∈left,0<=kv.1.1/\kv.1.1 <used.length)->
 f26.l0 k n used m cur left r=some (LP m r used left,())
 |n+1,used,cur,left,hn,hu,hin=>by
  classical
  rw [f26.l0,f26.E0]
  refine AK (λ h=> ?_) (λ i hi=> ?_)
  ·subst h
   rw [Ow hk hu,Option.bind_some]
   unfold LP
   by_cases g:∃j,used.getD j true=false
   ·rw [if_pos (decide_eq_true g),if_pos (.inr (g.imp λ j z=>⟨z,by simp⟩))]
   ·rw [if_neg (by simpa using g),if_neg]
    rintro (⟨kv,h,_⟩|⟨j,h,_⟩)
    ·simp at h
    ·exact g ⟨j,h⟩
  ·have hx:=hin left[i] (List.getElem_mem hi)
   rw [if_pos hx.1,if_pos hx.2]
   by_cases g:KF m r left[i].1
   ·rw [if_pos (by exact g)]
    unfold LP
    rw [if_pos (.inl ⟨left[i],List.getElem_mem hi,g⟩)]
   ·rw [if_neg (by exact g)]
    have hlen:(left.eraseIdx i).length <n:=by rw [List.length_eraseIdx_of_lt hi];omega
    rw [Oj hk n _ _ _ hlen (by rw [List.length_set];exact hu) (λ kv h=>by rw [List.length_set];exact hin kv ((F6 hi kv).2 (.inr h)))]
    congr 2
    unfold LP
    have ht:left[i].1.1.toNat <used.length:=by omega
    have iff:((∃kv∈left.eraseIdx i,KF m r kv.1)\/(∃j:Nat,(used.set left[i].1.1.toNat true).getD j true=false/\∀kv∈left.eraseIdx i,kv.1.1≠j))↔((∃kv∈left,KF m r kv.1)\/(∃j:Nat,used.getD j true=false/\∀kv∈left,kv.1.1≠j)):=by
     constructor
     ·rintro (⟨kv,h1,h2⟩|⟨j,h1,h2⟩)
      ·exact .inl ⟨kv,(F6 hi kv).2 (.inr h1),h2⟩
      ·rw [N7 ht] at h1
       refine .inr ⟨j,h1.2,λ kv h=> ?_⟩
       rcases (F6 hi kv).1 h with rfl|h
       ·omega
       ·exact h2 kv h
     ·rintro (⟨kv,h1,h2⟩|⟨j,h1,h2⟩)
      ·rcases (F6 hi kv).1 h1 with rfl|h
       ·exact absurd h2 g
       ·exact .inl ⟨kv,h,h2⟩
      ·refine .inr ⟨j,(N7 ht).2 ⟨λ z=> ?_,h1⟩,λ kv h=>h2 kv ((F6 hi kv).2 (.inr h))⟩
       have:=h2 left[i] (List.getElem_mem hi)
       omega
    by_cases c:(∃kv∈left,KF m r kv.1)\/(∃j:Nat,used.getD j true=false/\∀kv∈left,kv.1.1≠j)
    ·rw [if_pos c,if_pos (iff.2 c)]
    ·rw [if_neg c,if_neg (λ z=>c (iff.1 z))]
theorem Jc:∀cs:List ET,(EX cs).length=3 * cs.length
 | []=>rfl
 |c::cs=>by
  have:=Jc cs
  rw [show EX (c::cs)=EU c++EX cs from rfl,List.length_append,List.length_cons,this]
  simp only [EU,List.length_cons,List.length_nil]
  omega
open Classical in
noncomputable def Mg (ps:List (Int×Int)) (cs:List ET):Int:=if Jd ps cs=0 then (if cs.length=0 then 14 else if LD (EZ ps) ps.length cs then 0 else 3) else Jd ps cs
theorem Jm.JW {ps:List (Int×Int)} {cs:List ET} (h:Jm ps cs) {e:Int×Int} (he:e∈EX cs):0<=e.1/\e.1 <ps.length/\e.1≠e.2:=by
 obtain ⟨c,hc,Lh⟩:=List.mem_flatMap.1 he
 have k:=h.cell c hc
 have c1:=k.Fv (Fz Lh).1
 refine ⟨c1.1,c1.2,λ z=> ?_⟩
 obtain ⟨x,x1,x2,e9,k5⟩:=GV (p:=EZ ps) Lh k.FY
 rw [z] at e9
 have:EP (EZ ps e.2) (EZ ps e.2) (EZ ps x)=0:=by simp only [EP];grind
 omega
theorem Ox {c:ET} {i:Int} (h:Fc c i):∃e∈EU c,e.1=i:=by
 unfold Fc at h
 simp only [EU,List.mem_cons,List.not_mem_nil,or_false]
 rcases h with rfl|rfl|rfl
 ·exact ⟨_,.inl rfl,rfl⟩
 ·exact ⟨_,.inr (.inl rfl),rfl⟩
 ·exact ⟨_,.inr (.inr rfl),rfl⟩
theorem RZ {k:Nat} {ps:List (Int×Int)} {cs:List ET} (hk:2000<=k) (hp:ps.length <4611686018427387904) (hc:cs.length <4611686018427387904):f26 k (ps,cs)=some (Mg ps cs,()):=by
 classical
 simp only [f26,f26.ES]
 rw [Sr (by omega) hc hp,Option.bind_some]
 unfold Mg
 by_cases hf:Jd ps cs=0
 ·rw [if_neg (λ z=>z hf),if_pos hf]
  have hok:=Q8 hf
  have l1:=hok.len
  have l2:=hok.SL
  by_cases h0:cs.length=0
  ·rw [if_pos (by omega),if_pos h0]
  ·rw [if_neg (by omega),if_neg h0,if_pos (by omega),if_pos (by omega),Ni (by omega) (by omega),Option.bind_some]
   have keys:(cs.foldl Gr []).map Prod.fst=(EX cs).foldl Hg []:=K0 cs []
   have Uw:(cs.foldl Gr []).length=((EX cs).foldl Hg []).length:=by rw [<-keys,List.length_map]
   have Pm:∀e,e∈(cs.foldl Gr []).map Prod.fst↔e∈EX cs:=λ e=>by rw [keys,MD];simp
   have Pk:=MC (E:=EX cs) (s:=[])
   have TX:=Lk (E:=EX cs) (s:=[])
   rw [Jc] at Pk TX
   simp only [List.length_nil,Nat.zero_add,List.not_mem_nil,not_false_eq_true,implies_true,and_true] at Pk TX
   simp only
   rw [CV (by omega) (by omega),Uw]
   by_cases hd:(EX cs).Nodup
   ·rw [if_neg (λ z=>z (by have:=Pk.2 hd;omega)),Te (by omega) hok.ok (by omega),Option.bind_some]
    have M5:∀kv∈cs.foldl Gr [],kv.1∈EX cs:=λ kv h=>(Pm kv.1).1 (List.mem_map.2 ⟨kv,h,rfl⟩)
    rw [Oj (by omega) k _ _ _ (by omega) (by simp;omega) (λ kv h=>by have:=hok.JW (M5 kv h);simp;omega)]
    congr 2
    have n1:1<=ps.length:=by
     cases cs with
     |nil=>exact absurd rfl h0
     |cons c l=>have:=(hok.cell c (by simp)).lo;have:=(hok.cell c (by simp)).b;have:=(hok.cell c (by simp)).sv;omega
    have bad:∀e∈EX cs,¬KF (cs.foldl Gr []) (N0 ps) e↔(E6 (EZ ps) ps.length e↔(e.2,e.1)∉EX cs):=λ e he=>by
     unfold KF
     rw [decide_eq_decide,Kj,Pm,Qn hok.ok hok.up n1]
     have:=(hok.JW he).2.2
     by_cases a:E6 (EZ ps) ps.length e<;>by_cases b:(e.2,e.1)∈EX cs<;>simp [a,b,this]
    unfold LP
    by_cases ht:LD (EZ ps) ps.length cs
    ·rw [if_pos ht,if_neg]
     rintro (⟨kv,h1,h2⟩|⟨j,h1,h2⟩)
     ·exact (bad kv.1 (M5 kv h1)).2 (ht.2.1 kv.1 (M5 kv h1)) h2
     ·have hj:j <ps.length:=by
       rcases Nat.lt_or_ge j ps.length with g|g
       ·exact g
       ·rw [List.getD_eq_getElem?_getD,List.getElem?_eq_none (by simp;omega)] at h1;simp at h1
      obtain ⟨c,hc,hj'⟩:=ht.2.2 j (by omega) (by omega)
      obtain ⟨e,he,e1⟩:=Ox hj'
      obtain ⟨kv,k1,k2⟩:=List.mem_map.1 ((Pm e).2 (List.mem_flatMap.2 ⟨c,hc,he⟩))
      exact h2 kv k1 (by rw [k2];exact e1)
    ·rw [if_neg ht]
     by_cases h3:∀e∈EX cs,¬KF (cs.foldl Gr []) (N0 ps) e
     ·have hu: ¬∀i:Int,0<=i->i <ps.length->∃c∈cs,Fc c i:=λ z=>ht ⟨hd,λ e he=>(bad e he).1 (h3 e he),z⟩
      rw [if_pos]
      refine .inr (Classical.byContradiction λ z=>hu λ i i0 i1=>Classical.byContradiction λ q=>z ⟨i.toNat, ?_,λ kv h e=>q ?_⟩)
      ·have:i.toNat <ps.length:=by omega
       simp [List.getD_eq_getElem?_getD,this]
      ·obtain ⟨c,hc,Lh⟩:=List.mem_flatMap.1 (M5 kv h)
       exact ⟨c,hc,by have:=(Fz Lh).1;rwa [show kv.1.1=i by omega] at this⟩
     ·rw [if_pos]
      refine .inl (Classical.byContradiction λ z=>h3 λ e he hb=>z ?_)
      obtain ⟨kv,k1,k2⟩:=List.mem_map.1 ((Pm e).2 he)
      exact ⟨kv,k1,by rw [k2];exact hb⟩
   ·rw [if_pos (λ z=>hd (Pk.1 (by omega))),if_neg (λ z=>hd z.1)]
 ·rw [if_pos hf,if_neg hf]
end Go.Proofs.YtollcjadobpfdaaGreat.Rw
namespace Go.Proofs.YtollcjadobpfdaaGreat.Rw
section
variable {p:Int->Int×Int} {K k:Int} {cs:List ET}
theorem Q1 (K:Int) (a b c d e:Int×Int):(ER K b - ER K a) * EP c d e=(ER K d - ER K c) * (EP a b e - EP a b c) - (ER K e - ER K c) * (EP a b d - EP a b c):=by
 simp only [EP,ER];grind
theorem Sj (x a b k m:Int×Int):EP x a b * EP a k m=EP x a k * EP a b m - EP x a m * EP a b k:=by
 simp only [EP];grind
structure HR (p:Int->Int×Int) (K k:Int):Prop where
 Fg:E2 p K k
 off:∀{i j:Int},0<=i->i <k->0<=j->j <k->i≠j->∃m,0<=m/\m <k/\EP (p i) (p j) (p m)≠0
theorem K8 (Fg:E2 p K k) {x y z:Int} (hx:0<=x/\x <k) (hy:0<=y/\y <k) (hz:0<=z/\z <k) (FY:EP (p x) (p y) (p z)≠0):HR p K k:=by
 refine ⟨Fg,λ {i j} i0 i1 r8 j1 hij=> ?_⟩
 apply Classical.byContradiction
 intro hn
 have Bp:∀m,0<=m->m <k->EP (p i) (p j) (p m)=0:=λ m m0 m1=>Classical.byContradiction λ z=>hn ⟨m,m0,m1,z⟩
 have hid:=Q1 K (p i) (p j) (p x) (p y) (p z)
 rw [Bp x hx.1 hx.2,Bp y hy.1 hy.2,Bp z hz.1 hz.2] at hid
 simp only [Int.sub_self,Int.mul_zero] at hid
 rcases Int.mul_eq_zero.1 hid with z|z
 ·rcases Int.lt_or_gt_of_ne hij with g|g
  ·have:=Fg i j i0 g j1;omega
  ·have:=Fg j i r8 g i1;omega
 ·exact FY z
theorem Fm.wide (h:Fm p K k cs) (hne:cs≠[]):HR p K k:=by
 obtain ⟨c,hc⟩:=List.exists_mem_of_ne_nil _ hne
 obtain ⟨lo,hb,hd,sv,q8,FY⟩:=h.cell c hc
 exact K8 h.Fg ⟨lo,by omega⟩ ⟨by omega,sv⟩ ⟨by omega,q8⟩ (by omega)
theorem HR.Rr (h:HR p K k) {x a b:Int} (h1:E6 p k (x,a)) (h2:E6 p k (a,b)) (hx:x≠a) {q:Int×Int} (z:EP (p x) (p a) (p b)=0) (g1:0<=EP (p x) (p a) q) (g2:EP (p a) (p b) q <0):False:=by
 obtain ⟨m,m0,m1,hm⟩:=h.off h1.l1 h1.u1 h1.l2 h1.u2 hx
 have hid:=Sj (p x) (p a) (p b) q (p m)
 rw [z,Int.zero_mul] at hid
 have l1:=h1.left m m0 m1
 have l2:=h2.left m m0 m1
 simp only at l1 l2 hm
 have p1:=Int.mul_nonneg g1 l2
 have p2:=Int.mul_pos (show 0 <EP (p x) (p a) (p m) by omega) (show 0 < - EP (p a) (p b) q by omega)
 rw [Int.mul_neg] at p2
 omega
theorem HR.JN (h:HR p K k) {a b b':Int} (h1:E6 p k (a,b)) (h2:E6 p k (a,b')) (n1:a≠b) (n2:a≠b'):b=b':=by
 apply Classical.byContradiction
 intro VD
 have l1:=h1.left b' h2.l2 h2.u2
 have l2:=h2.left b h1.l2 h1.u2
 simp only at l1 l2
 have e:EP (p a) (p b') (p b)= - EP (p a) (p b) (p b'):=by simp only [EP];grind
 have z1:EP (p a) (p b) (p b')=0:=by omega
 have z2:EP (p a) (p b') (p b)=0:=by omega
 have o1:=h1.none b' h2.l2 h2.u2 z1
 have o2:=h2.none b h1.l2 h1.u2 z2
 simp only at o1 o2
 obtain ⟨m,m0,m1,hm⟩:=h.off h1.l1 h1.u1 h1.l2 h1.u2 n1
 have q1:=h1.left m m0 m1
 have q2:=h2.left m m0 m1
 simp only at q1 q2 hm
 have a0:=h1.l1;have a1:=h1.u1;have b0:=h1.l2;have b1:=h1.u2;have c0:=h2.l2;have c1:=h2.u2
 simp only at a0 a1 b0 b1 c0 c1
 have Hv:(ER K (p b) - ER K (p a)) * EP (p a) (p b') (p m)=(ER K (p b') - ER K (p a)) * EP (p a) (p b) (p m)+(ER K (p m) - ER K (p a)) * EP (p a) (p b') (p b):=by simp only [EP,ER];grind
 rw [z2,Int.mul_zero,Int.add_zero] at Hv
 have hpos:0 <EP (p a) (p b) (p m):=by omega
 rcases Int.lt_or_gt_of_ne n1 with g|g
 ·have hb':b' <a:=by omega
  have r1:=h.Fg a b a0 g b1
  have r2:=h.Fg b' a c0 hb' a1
  have m1:=Int.mul_nonneg (show 0<=ER K (p b) - ER K (p a) by omega) q2
  have m2:=Int.mul_pos (show 0 <ER K (p a) - ER K (p b') by omega) hpos
  have:(ER K (p a) - ER K (p b')) * EP (p a) (p b) (p m)= - ((ER K (p b') - ER K (p a)) * EP (p a) (p b) (p m)):=by grind
  omega
 ·have hb':a <b':=by omega
  have r1:=h.Fg b a b0 g a1
  have r2:=h.Fg a b' a0 hb' c1
  have m1:=Int.mul_nonneg (show 0<=ER K (p a) - ER K (p b) by omega) q2
  have m2:=Int.mul_pos (show 0 <ER K (p b') - ER K (p a) by omega) hpos
  have:(ER K (p a) - ER K (p b)) * EP (p a) (p b') (p m)= - ((ER K (p b) - ER K (p a)) * EP (p a) (p b') (p m)):=by grind
  omega
end
section
variable {p:Int->Int×Int} {K k:Int} {cs:List ET}
theorem Kk {e:Int×Int} (h:E6 p k e) (hs:0<=EP (p e.1) (p e.2) (p k)):E6 p (k+1) e:=
 ⟨h.l1,h.l2,by have:=h.u1;omega,by have:=h.u2;omega,λ m m0 m1=>by
   rcases Int.lt_or_eq_of_le (show m<=k by omega) with g|g
   ·exact h.left m m0 g
   ·subst g;exact hs,λ m m0 m1 z=>by
   have u1:=h.u1;have u2:=h.u2
   rcases Int.lt_or_eq_of_le (show m<=k by omega) with g|g
   ·exact h.none m m0 g z
   ·subst g;omega⟩
theorem Jg {e:Int×Int} (h:E6 p (k+1) e) (h1:e.1 <k) (h2:e.2 <k):E6 p k e/\0<=EP (p e.1) (p e.2) (p k):=
 ⟨⟨h.l1,h.l2,h1,h2,λ m m0 m1=>h.left m m0 (by omega),λ m m0 m1 z=>h.none m m0 (by omega) z⟩,h.left k (by have:=h.l1;omega) (by omega)⟩
theorem HR.NI (h:HR p K k) (hr:E2 p K (k+1)) {x a b:Int} (h1:E6 p k (x,a)) (h2:E6 p k (a,b)) (hx:x≠a) (g1:0<=EP (p x) (p a) (p k)) (g2:EP (p a) (p b) (p k) <0):E6 p (k+1) (a,k):=by
 have a0:=h2.l1;have a1:=h2.u1
 simp only at a0 a1
 have hc:=h1.left b h2.l2 h2.u2
 simp only at hc
 have hpos:0 <EP (p x) (p a) (p b):=by
  rcases Int.lt_or_eq_of_le hc with g|g
  ·exact g
  ·exact (h.Rr h1 h2 hx g.symm g1 g2).elim
 have key:∀m,0<=m->m <k->0<=EP (p a) (p k) (p m)/\(EP (p a) (p k) (p m)=0->EP (p x) (p a) (p m)=0/\EP (p x) (p a) (p k) * EP (p a) (p b) (p m)=0):=λ m m0 m1=>by
  have hid:=Sj (p x) (p a) (p b) (p k) (p m)
  have l1:=h1.left m m0 m1
  have l2:=h2.left m m0 m1
  simp only at l1 l2
  have p1:=Int.mul_nonneg g1 l2
  have p2:=Int.mul_nonneg l1 (show 0<= - EP (p a) (p b) (p k) by omega)
  rw [Int.mul_neg] at p2
  refine ⟨?_,λ z=> ?_⟩
  ·rcases Int.lt_or_le (EP (p a) (p k) (p m)) 0 with g|g
   ·have:=Int.mul_pos hpos (show 0 < - EP (p a) (p k) (p m) by omega)
    rw [Int.mul_neg] at this
    omega
   ·exact g
  ·rw [z,Int.mul_zero] at hid
   have e1:EP (p x) (p a) (p m) * EP (p a) (p b) (p k)=0:=by omega
   refine ⟨(Int.mul_eq_zero.1 e1).resolve_right (by omega),by omega⟩
 refine ⟨a0,by simp only;omega,by simp only;omega,by simp only;omega,λ m m0 m1=> ?_,λ m m0 m1 z=> ?_⟩
 ·simp only
  rcases Int.lt_or_eq_of_le (show m<=k by omega) with g|g
  ·exact (key m m0 g).1
  ·subst g
   have:=E3 (p a) (p m);omega
 ·simp only at z ⊢
  refine ⟨λ ⟨q1,q2⟩=> ?_,by omega⟩
  obtain ⟨z1,z2⟩:=(key m m0 q2).2 z
  have l2:=h2.left m m0 q2
  simp only at l2
  have Hv:(ER K (p a) - ER K (p x)) * EP (p a) (p b) (p m)= - ((ER K (p m) - ER K (p a)) * EP (p x) (p a) (p b))+(ER K (p b) - ER K (p a)) * EP (p x) (p a) (p m):=by simp only [EP,ER];grind
  rw [z1,Int.mul_zero,Int.add_zero] at Hv
  have r1:=h.Fg a m a0 q1 q2
  have m1:=Int.mul_pos (show 0 <ER K (p m) - ER K (p a) by omega) hpos
  rcases Int.lt_or_gt_of_ne hx with g|g
  ·have r2:=h.Fg x a h1.l1 g a1
   have:=Int.mul_nonneg (show 0<=ER K (p a) - ER K (p x) by omega) l2
   omega
  ·
   have r2:=h.Fg a x a0 g h1.u1
   have r3:=hr a k a0 a1 (by omega)
   have Nt:(ER K (p a) - ER K (p x)) * EP (p a) (p b) (p k)= - ((ER K (p k) - ER K (p a)) * EP (p x) (p a) (p b))+(ER K (p b) - ER K (p a)) * EP (p x) (p a) (p k):=by simp only [EP,ER];grind
   have Bd:0 <EP (p a) (p b) (p m):=by
    rcases Int.lt_or_eq_of_le l2 with q|q
    ·exact q
    ·rw [<-q,Int.mul_zero] at Hv;omega
   have z3:=(Int.mul_eq_zero.1 z2).resolve_right (by omega)
   rw [z3,Int.mul_zero,Int.add_zero] at Nt
   have m3:=Int.mul_pos (show 0 <ER K (p x) - ER K (p a) by omega) (show 0 < - EP (p a) (p b) (p k) by omega)
   have m4:=Int.mul_pos (show 0 <ER K (p k) - ER K (p a) by omega) hpos
   have o:=h1.none m m0 q2
   simp only at o
   have o:=(o z1).2
   have S5:(ER K (p x) - ER K (p a)) * EP (p a) (p b) (p m)=(ER K (p m) - ER K (p a)) * EP (p x) (p a) (p b):=by grind
   have e4:(ER K (p x) - ER K (p a)) * EP (p a) (p b) (p k)=(ER K (p k) - ER K (p a)) * EP (p x) (p a) (p b):=by grind
   have e5:=Int.mul_neg (ER K (p x) - ER K (p a)) (EP (p a) (p b) (p k))
   omega
end
section
variable {p:Int->Int×Int} {K k:Int} {cs:List ET}
theorem HR.flip (h:HR p K k):HR (FP K p) K k:=by
 refine ⟨Ga h.Fg,λ {i j} i0 i1 r8 j1 hij=> ?_⟩
 obtain ⟨m,m0,m1,hm⟩:=h.off r8 j1 i0 i1 (λ z=>hij z.symm)
 exact ⟨m,m0,m1,by rw [Gc];exact hm⟩
theorem HR.K5 (h:HR p K k) {a b b':Int} (h1:E6 p k (b,a)) (h2:E6 p k (b',a)) (n1:a≠b) (n2:a≠b'):b=b':=
 h.flip.JN (a:=a) (b:=b) (b':=b') ((F0 _).2 h1) ((F0 _).2 h2) n1 n2
theorem HR.OY (h:HR p K k) (hr:E2 p K (k+1)) {y a b:Int} (h1:E6 p k (b,y)) (h2:E6 p k (a,b)) (hy:y≠b) (g1:0<=EP (p b) (p y) (p k)) (g2:EP (p a) (p b) (p k) <0):E6 p (k+1) (k,b):=
 (F0 (b,k)).1 (h.flip.NI (Ga hr) (x:=y) (a:=b) (b:=a) ((F0 _).2 h1) ((F0 _).2 h2) hy (by rw [Gc];exact g1) (by rw [Gc];exact g2))
def GG (k:Int) (e:Int×Int):ET:=if e.1 <e.2 then (e.1,k,e.2) else (e.2,e.1,k)
theorem Hw (k:Int) (e x:Int×Int):x∈EU (GG k e)↔x=(e.2,e.1)\/x=(e.1,k)\/x=(k,e.2):=by
 unfold GG
 split<;>simp only [EU,List.mem_cons,List.not_mem_nil,or_false]<;>grind
theorem LU {k:Int} {e:Int×Int} (h1:e.1 <k) (h2:e.2 <k) (h3:e.1≠e.2):(EU (GG k e)).Nodup:=by
 unfold GG
 split<;>simp only [EU,List.nodup_cons,List.mem_cons,List.not_mem_nil,or_false,Prod.mk.injEq,not_or,not_false_eq_true,List.nodup_nil,and_true]<;>omega
theorem OX {e:Int×Int} (he:E6 p k e) (hn:e.1≠e.2) (hs:EP (p e.1) (p e.2) (p k) <0):FX p (k+1) (GG k e):=by
 have a0:=he.l1;have a1:=he.u1;have b0:=he.l2;have b1:=he.u2
 have e1:EP (p e.1) (p k) (p e.2)= - EP (p e.1) (p e.2) (p k):=by simp only [EP];grind
 have e2:EP (p e.2) (p e.1) (p k)= - EP (p e.1) (p e.2) (p k):=by simp only [EP];grind
 unfold GG
 split
 ·exact ⟨a0,by simp only;omega,by simp only;omega,by simp only;omega,by simp only;omega,by simp only;omega⟩
 ·exact ⟨b0,by simp only;omega,by simp only;omega,by simp only;omega,by simp only;omega,by simp only;omega⟩
theorem Jb (a b:List ET):EX (a++b)=EX a++EX b:=List.flatMap_append
theorem Jk (h:Fm p K k cs) {e:Int×Int} (he:e∈EX cs):(0<=e.1/\e.1 <k)/\(0<=e.2/\e.2 <k)/\e.1≠e.2:=by
 obtain ⟨c,hc,h1⟩:=List.mem_flatMap.1 he
 obtain ⟨lo,hb,hd,sv,q8,FY⟩:=h.cell c hc
 have hne:c.2.1≠c.2.2:=λ z=>by
  rw [z] at FY
  have:=E3 (p c.1) (p c.2.2);omega
 simp only [EU,List.mem_cons,List.not_mem_nil,or_false] at h1
 rcases h1 with rfl|rfl|rfl<;>simp only<;>omega
theorem Fm.add (h:Fm p K k cs) (hne:cs≠[]) (hr:E2 p K (k+1)) {V:List (Int×Int)} (DQ:V.Nodup) (hV:∀e,e∈V↔E6 p k e/\e.1≠e.2/\EP (p e.1) (p e.2) (p k) <0) (h0:V≠[])
 (hin:∀e,E6 p k e->e.1≠e.2->(∃x,E6 p k (x,e.1)/\x≠e.1)/\∃y,E6 p k (e.2,y)/\y≠e.2) (seen:∀e,E6 p k e->e.1≠e.2->e∈EX cs):Fm p K (k+1) (cs++V.map (GG k)):=by
 have hw:=h.wide hne
 have k0:0<=k:=by
  obtain ⟨c,hc⟩:=List.exists_mem_of_ne_nil _ hne
  obtain ⟨lo,hb,hd,sv,q8,FY⟩:=h.cell c hc
  omega
 have Cp:∀x,x∈EX (cs++V.map (GG k))↔x∈EX cs\/∃e∈V,x=(e.2,e.1)\/x=(e.1,k)\/x=(k,e.2):=λ x=>by
  rw [Jb,List.mem_append]
  refine or_congr Iff.rfl ?_
  unfold EX
  rw [List.flatMap_map,List.mem_flatMap]
  exact ⟨λ ⟨e,he,hx⟩=>⟨e,he,(Hw k e x).1 hx⟩,λ ⟨e,he,hx⟩=>⟨e,he,(Hw k e x).2 hx⟩⟩
 have Tz:∀e,E6 p k e->e.1≠e.2->(e.2,e.1)∉EX cs:=λ e ho hn=>(h.I7 e (seen e ho hn)).1 ho
 have Tx:∀e,E6 p k e->e.1≠e.2-> ¬E6 p (k+1) (e.2,e.1):=λ e ho hn hb=>by
  obtain ⟨m,m0,m1,hm⟩:=hw.off ho.l1 ho.u1 ho.l2 ho.u2 hn
  have l1:=ho.left m m0 m1
  have l2:=hb.left m m0 (by omega)
  simp only at l2
  have:EP (p e.2) (p e.1) (p m)= - EP (p e.1) (p e.2) (p m):=by simp only [EP];grind
  omega
 have sym:∀a b c:Int,EP (p a) (p b) (p c)=EP (p c) (p a) (p b):=λ a b c=>by simp only [EP];grind
 refine ⟨h.kpos,hr,λ c hc=> ?_, ?_,λ e he=> ?_,λ i i0 i1=> ?_⟩
 ·rcases List.mem_append.1 hc with hc|hc
  ·obtain ⟨lo,hb,hd,sv,q8,FY⟩:=h.cell c hc
   exact ⟨lo,hb,hd,by omega,by omega,FY⟩
  ·obtain ⟨e,he,rfl⟩:=List.mem_map.1 hc
   obtain ⟨g1,g2,g3⟩:=(hV e).1 he
   exact OX g1 g2 g3
 ·rw [Jb,List.nodup_append]
  refine ⟨h.HM, ?_,λ x hx y hy hxy=> ?_⟩
  ·unfold EX
   rw [List.flatMap_map,List.Nodup,List.pairwise_flatMap]
   refine ⟨λ e he=> ?_, ?_⟩
   ·obtain ⟨g1,g2,g3⟩:=(hV e).1 he
    exact LU g1.u1 g1.u2 g2
   ·refine List.Pairwise.imp_of_mem (λ {e f} he hf hef=> ?_) DQ
    obtain ⟨g1,g2,g3⟩:=(hV e).1 he
    obtain ⟨f1,f2,f3⟩:=(hV f).1 hf
    have e0:=g1.u1;have e1:=g1.u2;have e2:=f1.u1;have e3:=f1.u2
    intro x hx y hy hxy
    subst hxy
    rw [Hw] at hx hy
    have s1:e.1=f.1->False:=λ z=>by
     refine hef (Prod.ext z ?_)
     exact hw.JN (a:=e.1) (b:=e.2) (b':=f.2) g1 (by rw [z];exact f1) g2 (by rw [z];exact f2)
    have s2:e.2=f.2->False:=λ z=>by
     refine hef (Prod.ext ?_ z)
     exact hw.K5 (a:=e.2) (b:=e.1) (b':=f.1) g1 (by rw [z];exact f1) (λ q=>g2 q.symm) (by rw [z];exact λ q=>f2 q.symm)
    rcases hx with rfl|rfl|rfl<;>rcases hy with z|z|z<;>simp only [Prod.mk.injEq] at z<;>first|exact s1 (by omega)|exact s2 (by omega)|omega
  ·subst hxy
   unfold EX at hy
   rw [List.flatMap_map,List.mem_flatMap] at hy
   obtain ⟨e,he,hy⟩:=hy
   obtain ⟨g1,g2,g3⟩:=(hV e).1 he
   obtain ⟨q1,q2,q3⟩:=Jk h hx
   rcases (Hw k e x).1 hy with rfl|rfl|rfl
   ·exact Tz e g1 g2 hx
   ·simp only at q2;omega
   ·simp only at q1;omega
 ·rcases (Cp e).1 he with he|⟨f,hf,rfl|rfl|rfl⟩
  ·obtain ⟨q1,q2,q3⟩:=Jk h he
   by_cases ho:E6 p k e
   ·have CA:=(h.I7 e he).1 ho
    by_cases vis:EP (p e.1) (p e.2) (p k) <0
    ·have hr':(e.2,e.1)∈EX (cs++V.map (GG k)):=(Cp _).2 (.inr ⟨e,(hV e).2 ⟨ho,q3,vis⟩,.inl rfl⟩)
     exact ⟨λ z=>absurd (Jg z q1.2 q2.2).2 (by omega),λ z=>absurd hr' z⟩
    ·refine ⟨λ _ z=> ?_,λ _=>Kk ho (by omega)⟩
     rcases (Cp _).1 z with z|⟨f,hf,z|z|z⟩
     ·exact CA z
     ·obtain ⟨g1,g2,g3⟩:=(hV f).1 hf
      simp only [Prod.mk.injEq] at z
      rw [z.1,z.2] at vis;exact vis g3
     ·simp only [Prod.mk.injEq] at z;omega
     ·simp only [Prod.mk.injEq] at z;omega
   ·have CF:(e.2,e.1)∈EX cs:=Classical.byContradiction λ z=>ho ((h.I7 e he).2 z)
    exact ⟨λ z=>absurd (Jg z q1.2 q2.2).1 ho,λ z=>absurd ((Cp _).2 (.inl CF)) z⟩
  ·obtain ⟨g1,g2,g3⟩:=(hV f).1 hf
   exact ⟨λ z=>absurd z (Tx f g1 g2),λ z=>absurd ((Cp _).2 (.inl (seen f g1 g2))) z⟩
  ·obtain ⟨g1,g2,g3⟩:=(hV f).1 hf
   obtain ⟨⟨x,x1,x2⟩,_⟩:=hin f g1 g2
   have u1:=g1.u1;have u2:=g1.u2
   by_cases vis:EP (p x) (p f.1) (p k) <0
   ·have hr':(k,f.1)∈EX (cs++V.map (GG k)):=(Cp _).2 (.inr ⟨(x,f.1),(hV _).2 ⟨x1,x2,vis⟩,.inr (.inr rfl)⟩)
    refine ⟨λ z=> ?_,λ z=>absurd hr' z⟩
    have l:=z.left x x1.l1 (by have:=x1.u1;simp only at this;omega)
    simp only at l
    rw [sym] at l;omega
   ·refine ⟨λ _ z=> ?_,λ _=>hw.NI hr x1 g1 x2 (by omega) g3⟩
    rcases (Cp _).1 z with z|⟨g,hg,z|z|z⟩
    ·have:=(Jk h z).1;simp only at this;omega
    ·obtain ⟨m1,m2,m3⟩:=(hV g).1 hg
     have:=m1.u2;simp only [Prod.mk.injEq] at z;omega
    ·simp only [Prod.mk.injEq] at z;omega
    ·obtain ⟨m1,m2,m3⟩:=(hV g).1 hg
     simp only [Prod.mk.injEq,true_and] at z
     have hx:g.1=x:=hw.K5 (a:=f.1) (b:=g.1) (b':=x) (by rw [z];exact m1) x1 (by rw [z];exact λ q=>m2 q.symm) (λ q=>x2 q.symm)
     rw [hx, <-z] at m3
     exact vis m3
  ·obtain ⟨g1,g2,g3⟩:=(hV f).1 hf
   obtain ⟨_,y,y1,y2⟩:=hin f g1 g2
   have u1:=g1.u1;have u2:=g1.u2
   by_cases vis:EP (p f.2) (p y) (p k) <0
   ·have hr':(f.2,k)∈EX (cs++V.map (GG k)):=(Cp _).2 (.inr ⟨(f.2,y),(hV _).2 ⟨y1,λ q=>y2 q.symm,vis⟩,.inr (.inl rfl)⟩)
    refine ⟨λ z=> ?_,λ z=>absurd hr' z⟩
    have l:=z.left y y1.l2 (by have:=y1.u2;simp only at this;omega)
    simp only at l
    have e1:EP (p f.2) (p y) (p k)=EP (p k) (p f.2) (p y):=sym _ _ _
    omega
   ·refine ⟨λ _ z=> ?_,λ _=>hw.OY hr y1 g1 y2 (by omega) g3⟩
    rcases (Cp _).1 z with z|⟨g,hg,z|z|z⟩
    ·have:=(Jk h z).2.1;simp only at this;omega
    ·obtain ⟨m1,m2,m3⟩:=(hV g).1 hg
     have:=m1.u1;simp only [Prod.mk.injEq] at z;omega
    ·obtain ⟨m1,m2,m3⟩:=(hV g).1 hg
     simp only [Prod.mk.injEq,and_true] at z
     have hy:g.2=y:=hw.JN (a:=f.2) (b:=g.2) (b':=y) (by rw [z];exact m1) y1 (by rw [z];exact m2) (λ q=>y2 q.symm)
     rw [hy, <-z] at m3
     exact vis m3
    ·simp only [Prod.mk.injEq] at z;omega
 ·rcases Int.lt_or_eq_of_le (show i<=k by omega) with g|g
  ·obtain ⟨c,c1,c2⟩:=h.used i i0 g
   exact ⟨c,List.mem_append_left _ c1,c2⟩
  ·subst g
   obtain ⟨e,he⟩:=List.exists_mem_of_ne_nil _ h0
   refine ⟨GG i e,List.mem_append_right _ (List.mem_map.2 ⟨e,he,rfl⟩), ?_⟩
   unfold GG
   split
   ·exact .inr (.inl rfl)
   ·exact .inr (.inr rfl)
end
end Go.Proofs.YtollcjadobpfdaaGreat.Rw
namespace Go.Proofs.YtollcjadobpfdaaGreat.Rw
section
variable {p P:Int->Int×Int} {K n k:Int} {cs:List ET}
def Hy (P:Int->Int×Int) (k:Int):List Int->List (Int×Int)
 |t::a::s=>if EP (P a) (P t) (P k) <0 then (a,t)::Hy P k (a::s) else []
 |_=>[]
theorem JA (hr:E2 P K n) (hk:k <n):∀{s:List Int} {t:Int},Gu P k (t::s)->t <k->∀e,e∈Hy P k (t::s)↔e∈FF (t::s)/\EP (P e.1) (P e.2) (P k) <0
 | [],t,h,ht,e=>by simp [Hy,FF]
 |a::s,t,h,ht,e=>by
  simp only [Hy]
  by_cases c:EP (P a) (P t) (P k) <0
  ·rw [if_pos c]
   have fN:=h.1
   have ih:=JA hr hk h.2.2 (by omega) e
   simp only [FF,List.mem_cons,ih]
   constructor
   ·rintro (rfl|⟨h1,h2⟩)
    ·exact ⟨.inl rfl,c⟩
    ·exact ⟨.inr h1,h2⟩
   ·rintro ⟨rfl|h1,h2⟩
    ·exact .inl rfl
    ·exact .inr ⟨h1,h2⟩
  ·rw [if_neg c]
   have hs:=Ls hr hk h ht (by omega)
   refine ⟨λ z=>(by cases z),λ ⟨h1,h2⟩=> ?_⟩
   obtain ⟨g1,g2⟩:=K7 hs h1
   have:=g2.left k (by have:=Gu.lo h;omega) (by omega)
   omega
theorem NB:∀{s:List Int} {t:Int},Gu P k (t::s)->∀e∈FF (t::s),e.2<=t
 | [],t,h,e,he=>by simp [FF] at he
 |a::s,t,h,e,he=>by
  simp only [FF,List.mem_cons] at he
  rcases he with rfl|he
  ·exact Int.le_refl _
  ·have:=NB h.2.2 e he;have:=h.1;omega
theorem NV:∀{s:List Int} {e:Int×Int},e∈Hy P k s->e∈FF s
 | [],e,he=>by simp [Hy] at he
 | [t],e,he=>by simp [Hy] at he
 |t::a::s,e,he=>by
  simp only [Hy] at he
  split at he
  ·simp only [FF,List.mem_cons] at he ⊢
   rcases he with rfl|he
   ·exact .inl rfl
   ·exact .inr (NV he)
  ·cases he
theorem Kl:∀{s:List Int} {t:Int},Gu P k (t::s)->(Hy P k (t::s)).Nodup
 | [],t,h=>by simp [Hy]
 |a::s,t,h=>by
  simp only [Hy]
  split
  ·refine List.nodup_cons.2 ⟨λ z=> ?_,Kl h.2.2⟩
   have:=NB h.2.2 _ (NV z)
   have:=h.1
   simp only at *
   omega
  ·exact List.nodup_nil
theorem MK:∀{s:List Int},Gu P k s->∀e∈FF s,e.1=0\/∃x,(x,e.1)∈FF s
 | [x],h,e,he=>by simp [FF] at he
 | [t,a],h,e,he=>by
   simp only [FF,List.mem_cons,List.not_mem_nil,or_false] at he
   subst he
   exact .inl h.2.2
 |t::a::b::s,h,e,he=>by
  simp only [FF,List.mem_cons] at he
  rcases he with rfl|he
  ·exact .inr ⟨b,by simp [FF]⟩
  ·rcases MK (s:=a::b::s) h.2.2 e (by simpa [FF] using he) with g|⟨x,g⟩
   ·exact .inl g
   ·exact .inr ⟨x,by simp only [FF,List.mem_cons] at g ⊢; exact .inr g⟩
theorem MJ:∀{s:List Int} {t:Int},∀e∈FF (t::s),e.2=t\/∃y,(e.2,y)∈FF (t::s)
 | [],t,e,he=>by simp [FF] at he
 |a::s,t,e,he=>by
  simp only [FF,List.mem_cons] at he
  rcases he with rfl|he
  ·exact .inl rfl
  ·rcases MJ e he with g|⟨y,g⟩
   ·exact .inr ⟨t,by simp [FF,g]⟩
   ·exact .inr ⟨y,by simp only [FF,List.mem_cons] at g ⊢; exact .inr g⟩
theorem KP:∀{s:List Int} {t:Int},Gu P k (t::s)->0 <t->(∃w,(w,t)∈FF (t::s))/\∃y,(0,y)∈FF (t::s)
 | [],t,h,ht=>by simp only [Gu] at h;omega
 |a::s,t,h,ht=>by
  refine ⟨⟨a,by simp [FF]⟩, ?_⟩
  rcases Int.lt_or_le 0 a with g|g
  ·obtain ⟨_,y,hy⟩:=KP h.2.2 g
   exact ⟨y,by simp only [FF,List.mem_cons];exact .inr hy⟩
  ·have:=Gu.lo h.2.2
   obtain rfl:a=0:=by omega
   exact ⟨t,by simp [FF]⟩
end
section
variable {p:Int->Int×Int} {K n k:Int} {cs:List ET} {L U:List Int}
def Kp (p:Int->Int×Int) (K k:Int) (L U:List Int):List (Int×Int):=(Hy p k L).reverse++(Hy (FP K p) k U).map λ e=>(e.2,e.1)
theorem OZ (hr:E2 p K (k+1)) (h2:2<=k) (hL:Gu p k ((k - 1)::L)) (hU:Gu (FP K p) k ((k - 1)::U)) {e:Int×Int} (he:E6 p k e) (hlt:e.1 <e.2):(∃x,E6 p k (x,e.1)/\x≠e.1)/\∃y,E6 p k (e.2,y)/\y≠e.2:=by
 have Ju:E2 p K k:=λ i j h0 h1 h2=>hr i j h0 h1 (by omega)
 have hm:=(GM Ju hL).2 ⟨hlt,he⟩
 constructor
 ·rcases MK hL e hm with g|⟨x,g⟩
  ·obtain ⟨_,y,hy⟩:=KP hU (by omega)
   have hy:=(GM (Ga Ju) hU).1 hy
   refine ⟨y, ?_, ?_⟩
   ·rw [g];exact (F0 (0,y)).1 hy.2
   ·have:=hy.1;simp only at this;omega
  ·have:=(GM Ju hL).1 g
   exact ⟨x,this.2,by have:=this.1;simp only at this;omega⟩
 ·rcases MJ e hm with g|⟨y,g⟩
  ·obtain ⟨⟨w,hw⟩,_⟩:=KP hU (by omega)
   have hw:=(GM (Ga Ju) hU).1 hw
   refine ⟨w, ?_, ?_⟩
   ·rw [g];exact (F0 (w,k - 1)).1 hw.2
   ·have:=hw.1;simp only at this;omega
  ·have:=(GM Ju hL).1 g
   exact ⟨y,this.2,by have:=this.1;simp only at this;omega⟩
theorem Fm.step (h:Fm p K k cs) (hne:cs≠[]) (hr:E2 p K (k+1)) (h2:2<=k) (hL:Gu p k ((k - 1)::L)) (hU:Gu (FP K p) k ((k - 1)::U)):Fm p K (k+1) (cs++(Kp p K k ((k - 1)::L) ((k - 1)::U)).map (GG k)):=by
 have Ju:E2 p K k:=λ i j h0 h1 h2=>hr i j h0 h1 (by omega)
 have hf:=Ga hr
 have Ed:=Ga Ju
 have Dz:=JA hr (by omega) hL (by omega)
 have xx:=JA hf (by omega) hU (by omega)
 have hV:∀e,e∈Kp p K k ((k - 1)::L) ((k - 1)::U)↔E6 p k e/\e.1≠e.2/\EP (p e.1) (p e.2) (p k) <0:=λ e=>by
  unfold Kp
  rw [List.mem_append,List.mem_reverse,Dz,GM Ju hL,List.mem_map]
  have hs:(∃a,a∈Hy (FP K p) k ((k - 1)::U)/\(a.2,a.1)=e)↔(e.2,e.1)∈Hy (FP K p) k ((k - 1)::U):=⟨λ ⟨a,h1,h2⟩=>by rw [<-h2];exact h1,λ h1=>⟨_,h1,rfl⟩⟩
  rw [hs,xx,GM Ed hU,F0,Gc]
  constructor
  ·rintro (⟨⟨h1,h2⟩,h3⟩|⟨⟨h1,h2⟩,h3⟩)
   ·exact ⟨h2,by omega,h3⟩
   ·exact ⟨h2,by simp only at h1;omega,h3⟩
  ·rintro ⟨h1,h2,h3⟩
   rcases Int.lt_or_gt_of_ne h2 with g|g
   ·exact .inl ⟨⟨g,h1⟩,h3⟩
   ·exact .inr ⟨⟨g,h1⟩,h3⟩
 refine h.add hne hr ?_ hV ?_ ?_ λ e he hne=>h.Jh he hne
 ·unfold Kp
  rw [List.nodup_append]
  refine ⟨List.pairwise_reverse.2 ((Kl hL).imp λ h z=>h z.symm), ?_,λ x hx y hy hxy=> ?_⟩
  ·have:=Kl hU
   rw [List.Nodup,List.pairwise_map]
   exact this.imp λ {a b} hab z=>hab (by simp only [Prod.mk.injEq] at z;exact Prod.ext z.2 z.1)
  ·subst hxy
   obtain ⟨e,he,rfl⟩:=List.mem_map.1 hy
   have g1:=((GM Ju hL).1 ((Dz _).1 (List.mem_reverse.1 hx)).1).1
   have g2:=((GM Ed hU).1 ((xx _).1 he).1).1
   simp only at g1;omega
 ·intro hz
  unfold Kp at hz
  obtain ⟨z1,z2⟩:=List.append_eq_nil_iff.1 hz
  have z1:=List.reverse_eq_nil_iff.1 z1
  have z2:=List.map_eq_nil_iff.1 z2
  have hp:∀{P:Int->Int×Int} {S:List Int},Hy P k ((k - 1)::S)=[]->Hr P k ((k - 1)::S)=(k - 1)::S:=λ {P S} hz=>by
   cases S with
   |nil=>rfl
   |cons a S=>
    simp only [Hy] at hz
    simp only [Hr]
    split at hz
    ·cases hz
    ·rename_i c;rw [if_neg c]
  have s1:=JE hr (by omega) hL
  have s2:=JE hf (by omega) hU
  rw [hp z1] at s1
  rw [hp z2] at s2
  have o1:=s1.2.1
  have o2:=(F0 (k - 1,k)).1 s2.2.1
  have hw:HR p K (k+1):=by
   obtain ⟨c,hc⟩:=List.exists_mem_of_ne_nil _ hne
   obtain ⟨lo,hb,hd,sv,q8,FY⟩:=h.cell c hc
   exact K8 (x:=c.1) (y:=c.2.1) (z:=c.2.2) hr ⟨lo,by omega⟩ ⟨by omega,by omega⟩ ⟨by omega,by omega⟩ (by omega)
  obtain ⟨m,m0,m1,hm⟩:=hw.off (i:=k - 1) (j:=k) (by omega) (by omega) (by omega) (by omega) (by omega)
  have l1:=o1.left m m0 m1
  have l2:=o2.left m m0 m1
  simp only at l1 l2
  have:EP (p k) (p (k - 1)) (p m)= - EP (p (k - 1)) (p k) (p m):=by simp only [EP];grind
  omega
 ·intro e he hn
  rcases Int.lt_or_gt_of_ne hn with g|g
  ·exact OZ hr h2 hL hU he g
  ·have Vd:Gu (FP K (FP K p)) k ((k - 1)::L):=by
    have e:FP K (FP K p)=p:=funext λ i=>by simp only [FP];refine Prod.ext ?_ ?_<;>simp only<;>grind
    rw [e];exact hL
   obtain ⟨⟨x,x1,x2⟩,y,y1,y2⟩:=OZ hf h2 hU Vd (e:=(e.2,e.1)) ((F0 _).2 he) g
   exact ⟨⟨y,(F0 (e.1,y)).1 y1,y2⟩,x,(F0 (x,e.2)).1 x1,x2⟩
end
end Go.Proofs.YtollcjadobpfdaaGreat.Rw
namespace Go.Proofs.YtollcjadobpfdaaGreat.Rw
section
variable {p:Int->Int×Int} {K k:Int} {L U:List Int}
theorem RJ (hr:E2 p K (k+1)) (h2:2<=k) (hL:Gu p k ((k - 1)::L)) (hU:Gu (FP K p) k ((k - 1)::U)) (e:Int×Int):e∈Kp p K k ((k - 1)::L) ((k - 1)::U)↔E6 p k e/\e.1≠e.2/\EP (p e.1) (p e.2) (p k) <0:=by
 have Ju:E2 p K k:=λ i j h0 h1 h2=>hr i j h0 h1 (by omega)
 have Dz:=JA hr (by omega) hL (by omega)
 have xx:=JA (Ga hr) (by omega) hU (by omega)
 unfold Kp
 rw [List.mem_append,List.mem_reverse,Dz,GM Ju hL,List.mem_map]
 have hs:(∃a,a∈Hy (FP K p) k ((k - 1)::U)/\(a.2,a.1)=e)↔(e.2,e.1)∈Hy (FP K p) k ((k - 1)::U):=⟨λ ⟨a,h1,h2⟩=>by rw [<-h2];exact h1,λ h1=>⟨_,h1,rfl⟩⟩
 rw [hs,xx,GM (Ga Ju) hU,F0,Gc]
 constructor
 ·rintro (⟨⟨h1,h2⟩,h3⟩|⟨⟨h1,h2⟩,h3⟩)
  ·exact ⟨h2,by omega,h3⟩
  ·exact ⟨h2,by simp only at h1;omega,h3⟩
 ·rintro ⟨h1,h2,h3⟩
  rcases Int.lt_or_gt_of_ne h2 with g|g
  ·exact .inl ⟨⟨g,h1⟩,h3⟩
  ·exact .inr ⟨⟨g,h1⟩,h3⟩
theorem MI (hr:E2 p K (k+1)) (h2:2<=k) (hz:∀m,0<=m->m <k->EP (p 0) (p 1) (p m)=0) {i j m:Int} (i0:0<=i) (i1:i <k) (r8:0<=j) (j1:j <k) (m0:0<=m) (m1:m <k):EP (p i) (p j) (p m)=0:=by
 have hid:=Q1 K (p 0) (p 1) (p i) (p j) (p m)
 rw [hz i i0 i1,hz j r8 j1,hz m m0 m1] at hid
 simp only [Int.sub_self,Int.mul_zero] at hid
 have:=hr 0 1 (by omega) (by omega) (by omega)
 exact (Int.mul_eq_zero.1 hid).resolve_left (by omega)
theorem MH (hr:E2 p K (k+1)) (h2:2<=k) (hz:∀m,0<=m->m <k->EP (p 0) (p 1) (p m)=0) {i j:Int} (i0:0<=i) (i1:i <k) (r8:0<=j) (j1:j <k):(ER K (p 1) - ER K (p 0)) * EP (p i) (p j) (p k)=(ER K (p j) - ER K (p i)) * EP (p 0) (p 1) (p k):=by
 have hid:=Q1 K (p 0) (p 1) (p i) (p j) (p k)
 rw [hz i i0 i1,hz j r8 j1] at hid
 simpa using hid
theorem Vb (hK:0 <K) (hr:E2 p K (k+1)) (h2:2<=k) (hz:∀m,0<=m->m <k->EP (p 0) (p 1) (p m)=0) (hn:EP (p 0) (p 1) (p k)≠0) {V:List (Int×Int)} (DQ:V.Nodup) (hV:∀e,e∈V↔E6 p k e/\e.1≠e.2/\EP (p e.1) (p e.2) (p k) <0):Fm p K (k+1) (V.map (GG k)):=by
 have Vp:=hr 0 1 (by omega) (by omega) (by omega)
 have zero:=λ {i j m:Int} (i0:0<=i) (i1:i <k) (r8:0<=j) (j1:j <k) (m0:0<=m) (m1:m <k)=>MI hr h2 hz i0 i1 r8 j1 m0 m1
 have JO:∀{i j:Int},0<=i->i <k->0<=j->j <k->(EP (p i) (p j) (p k) <0↔(i <j/\EP (p 0) (p 1) (p k) <0)\/(j <i/\0 <EP (p 0) (p 1) (p k))):=λ {i j} i0 i1 r8 j1=>by
  have hid:=MH hr h2 hz i0 i1 r8 j1
  generalize EP (p 0) (p 1) (p k)=s at *
  generalize EP (p i) (p j) (p k)=c at *
  have hpos:0 <ER K (p 1) - ER K (p 0):=by omega
  rcases Int.lt_trichotomy i j with g|g|g
  ·have T2:=hr i j i0 g (by omega)
   constructor
   ·intro hc
    refine .inl ⟨g, ?_⟩
    rcases Int.lt_or_le s 0 with q|q
    ·exact q
    ·have:=Int.mul_nonneg (show 0<=ER K (p j) - ER K (p i) by omega) q
     have:=Int.mul_pos hpos (show 0 < -c by omega);rw [Int.mul_neg] at this;omega
   ·rintro (⟨_,q⟩|⟨q,_⟩)
    ·rcases Int.lt_or_le c 0 with z|z
     ·exact z
     ·have:=Int.mul_nonneg (show 0<=ER K (p 1) - ER K (p 0) by omega) z
      have:=Int.mul_pos (show 0 <ER K (p j) - ER K (p i) by omega) (show 0 < -s by omega);rw [Int.mul_neg] at this;omega
    ·omega
  ·subst g
   rw [Int.sub_self,Int.zero_mul] at hid
   have:=(Int.mul_eq_zero.1 hid).resolve_left (by omega)
   omega
  ·have T2:=hr j i r8 g (by omega)
   constructor
   ·intro hc
    refine .inr ⟨g, ?_⟩
    rcases Int.lt_or_le 0 s with q|q
    ·exact q
    ·have:=Int.mul_nonneg (show 0<=ER K (p i) - ER K (p j) by omega) (show 0<= -s by omega)
     have:=Int.mul_pos hpos (show 0 < -c by omega);rw [Int.mul_neg] at this
     have e:(ER K (p i) - ER K (p j)) * -s=(ER K (p j) - ER K (p i)) * s:=by grind
     omega
   ·rintro (⟨q,_⟩|⟨_,q⟩)
    ·omega
    ·rcases Int.lt_or_le c 0 with z|z
     ·exact z
     ·have:=Int.mul_nonneg (show 0<=ER K (p 1) - ER K (p 0) by omega) z
      have:=Int.mul_pos (show 0 <ER K (p i) - ER K (p j) by omega) q
      have e:(ER K (p i) - ER K (p j)) * s= - ((ER K (p j) - ER K (p i)) * s):=by grind
      omega
 have Jt:∀e,e∈V↔(0<=e.1/\e.1 <k)/\(0<=e.2/\e.2 <k)/\(e.2=e.1+1\/e.1=e.2+1)/\EP (p e.1) (p e.2) (p k) <0:=λ e=>by
  rw [hV]
  constructor
  ·rintro ⟨⟨l1,l2,u1,u2,hl,hno⟩,h1,h3⟩
   refine ⟨⟨l1,u1⟩,⟨l2,u2⟩, ?_,h3⟩
   rcases Int.lt_or_gt_of_ne h1 with g|g
   ·have:=hno (e.1+1) (by omega) (by omega) (zero l1 u1 l2 u2 (by omega) (by omega));omega
   ·have:=hno (e.2+1) (by omega) (by omega) (zero l1 u1 l2 u2 (by omega) (by omega));omega
  ·rintro ⟨⟨l1,u1⟩,⟨l2,u2⟩,h3,h4⟩
   exact ⟨⟨l1,l2,u1,u2,λ m m0 m1=>by rw [zero l1 u1 l2 u2 m0 m1];exact Int.le_refl _,λ m m0 m1 _=>by omega⟩,by omega,h4⟩
 have side:∀{a b:Int},0<=a->a <k->0<=b->b <k->EP (p a) (p b) (p k) <0->(b=a+1\/a=b+1)->∀m,0<=m->m <k->(0 <EP (p a) (p k) (p m)↔(a <b/\a <m)\/(b <a/\m <a))/\(EP (p a) (p k) (p m)=0↔m=a)/\(0 <EP (p k) (p b) (p m)↔(a <b/\m <b)\/(b <a/\b <m))/\(EP (p k) (p b) (p m)=0↔m=b):=λ {a b} a0 a1 b0 b1 hc hab m m0 m1=>by
  have e1:EP (p a) (p k) (p m)= - EP (p a) (p m) (p k):=by simp only [EP];grind
  have e2:EP (p k) (p b) (p m)= - EP (p m) (p b) (p k) * -1 * -1:=by simp only [EP];grind
  have s1:=JO a0 a1 m0 m1
  have s2:=JO m0 m1 a0 a1
  have s3:=JO m0 m1 b0 b1
  have s4:=JO b0 b1 m0 m1
  have s5:=JO a0 a1 b0 b1
  have e3:EP (p m) (p a) (p k)= - EP (p a) (p m) (p k):=by simp only [EP];grind
  have e4:EP (p b) (p m) (p k)= - EP (p m) (p b) (p k):=by simp only [EP];grind
  have s5:=s5.1 hc
  have e5:EP (p k) (p b) (p m)=EP (p b) (p m) (p k):=by simp only [EP];grind
  rw [e1,e5,e4]
  rw [e3] at s2
  rw [e4] at s4
  generalize EP (p a) (p m) (p k)=x at *
  generalize EP (p m) (p b) (p k)=y at *
  generalize EP (p 0) (p 1) (p k)=s at *
  clear e1 e2 e3 e4 e5
  refine ⟨?_, ?_, ?_, ?_⟩<;>omega
 have Cp:∀x,x∈EX (V.map (GG k))↔∃e∈V,x=(e.2,e.1)\/x=(e.1,k)\/x=(k,e.2):=λ x=>by
  unfold EX
  rw [List.flatMap_map,List.mem_flatMap]
  exact ⟨λ ⟨e,he,hx⟩=>⟨e,he,(Hw k e x).1 hx⟩,λ ⟨e,he,hx⟩=>⟨e,he,(Hw k e x).2 hx⟩⟩
 have same:∀e∈V,∀f∈V,(e.1=f.1->e=f)/\(e.2=f.2->e=f):=λ e he f hf=>by
  obtain ⟨e0,e1,e2,e3⟩:=(Jt e).1 he
  obtain ⟨f0,f1,f2,f3⟩:=(Jt f).1 hf
  have s1:=(JO e0.1 e0.2 e1.1 e1.2).1 e3
  have s2:=(JO f0.1 f0.2 f1.1 f1.2).1 f3
  exact ⟨λ z=>Prod.ext z (by omega),λ z=>Prod.ext (by omega) z⟩
 refine ⟨hK,hr,λ c hc=> ?_, ?_,λ x hx=> ?_,λ i i0 i1=> ?_⟩
 ·obtain ⟨e,he,rfl⟩:=List.mem_map.1 hc
  obtain ⟨g1,g2,g3⟩:=(hV e).1 he
  exact OX g1 g2 g3
 ·unfold EX
  rw [List.flatMap_map,List.Nodup,List.pairwise_flatMap]
  refine ⟨λ e he=> ?_, ?_⟩
  ·obtain ⟨g1,g2,g3,g4⟩:=(Jt e).1 he
   exact LU g1.2 g2.2 (by omega)
  ·refine List.Pairwise.imp_of_mem (λ {e f} he hf hef=> ?_) DQ
   obtain ⟨g1,g2,g3,g4⟩:=(Jt e).1 he
   obtain ⟨f1,f2,f3,f4⟩:=(Jt f).1 hf
   have s:=same e he f hf
   intro x hx y hy hxy
   subst hxy
   rw [Hw] at hx hy
   rcases hx with rfl|rfl|rfl<;>rcases hy with z|z|z<;>simp only [Prod.mk.injEq] at z<;>first|exact hef (s.1 (by omega))|exact hef (s.2 (by omega))|omega
 ·obtain ⟨e,he,hx⟩:=(Cp x).1 hx
  obtain ⟨⟨a0,a1⟩,⟨b0,b1⟩,g3,g4⟩:=(Jt e).1 he
  have sd:=side a0 a1 b0 b1 g4 g3
  have se:=(JO a0 a1 b0 b1).1 g4
  rcases hx with rfl|rfl|rfl
  ·have hb:EP (p e.2) (p e.1) (p k)= - EP (p e.1) (p e.2) (p k):=by simp only [EP];grind
   refine ⟨λ _ z=> ?_,λ _=>⟨b0,a0,by simp only;omega,by simp only;omega,λ m m0 m1=> ?_,λ m m0 m1 z=>by simp only;omega⟩⟩
   ·obtain ⟨f,hf,z⟩:=(Cp _).1 z
    obtain ⟨f1,f2,f3,f4⟩:=(Jt f).1 hf
    rcases z with z|z|z<;>simp only [Prod.mk.injEq] at z
    ·rw [<-z.1, <-z.2] at f4;omega
    ·omega
    ·omega
   ·simp only
    rcases Int.lt_or_eq_of_le (show m<=k by omega) with g|g
    ·rw [zero b0 b1 a0 a1 m0 g];exact Int.le_refl _
    ·subst g;omega
  ·have CF:(k,e.1)∈EX (V.map (GG k))↔∃f∈V,f.2=e.1:=by
    rw [Cp]
    constructor
    ·rintro ⟨f,hf,z⟩
     obtain ⟨f1,f2,f3,f4⟩:=(Jt f).1 hf
     rcases z with z|z|z<;>simp only [Prod.mk.injEq] at z
     ·omega
     ·omega
     ·exact ⟨f,hf,by omega⟩
    ·rintro ⟨f,hf,z⟩
     exact ⟨f,hf,.inr (.inr (by rw [z]))⟩
   show E6 p (k+1) (e.1,k)↔(k,e.1)∉EX (V.map (GG k))
   rw [CF]
   clear CF
   have AT:(∃f∈V,f.2=e.1)↔0<=2 * e.1 - e.2/\2 * e.1 - e.2 <k:=by
    constructor
    ·rintro ⟨f,hf,z⟩
     obtain ⟨f1,f2,f3,f4⟩:=(Jt f).1 hf
     have:=(JO f1.1 f1.2 f2.1 f2.2).1 f4
     omega
    ·intro h
     refine ⟨(2 * e.1 - e.2,e.1),(Jt _).2 ⟨h,⟨a0,a1⟩,by simp only;omega,(JO h.1 h.2 a0 a1).2 (by omega)⟩,rfl⟩
   rw [AT]
   clear AT
   constructor
   ·rintro ⟨_,_,_,_,hl,_⟩ hb
    have l:=hl (2 * e.1 - e.2) hb.1 (by omega)
    have s:=sd (2 * e.1 - e.2) hb.1 hb.2
    simp only at l;omega
   ·intro hb
    refine ⟨a0,by simp only;omega,by simp only;omega,by simp only;omega,λ m m0 m1=> ?_,λ m m0 m1 z=> ?_⟩
    ·simp only
     rcases Int.lt_or_eq_of_le (show m<=k by omega) with g|g
     ·have:=sd m m0 g;omega
     ·subst g;have:=E3 (p e.1) (p m);omega
    ·simp only at z ⊢
     rcases Int.lt_or_eq_of_le (show m<=k by omega) with g|g
     ·have:=sd m m0 g;omega
     ·omega
  ·have CF:(e.2,k)∈EX (V.map (GG k))↔∃f∈V,f.1=e.2:=by
    rw [Cp]
    constructor
    ·rintro ⟨f,hf,z⟩
     obtain ⟨f1,f2,f3,f4⟩:=(Jt f).1 hf
     rcases z with z|z|z<;>simp only [Prod.mk.injEq] at z
     ·omega
     ·exact ⟨f,hf,by omega⟩
     ·omega
    ·rintro ⟨f,hf,z⟩
     exact ⟨f,hf,.inr (.inl (by rw [z]))⟩
   show E6 p (k+1) (k,e.2)↔(e.2,k)∉EX (V.map (GG k))
   rw [CF]
   clear CF
   have AT:(∃f∈V,f.1=e.2)↔0<=2 * e.2 - e.1/\2 * e.2 - e.1 <k:=by
    constructor
    ·rintro ⟨f,hf,z⟩
     obtain ⟨f1,f2,f3,f4⟩:=(Jt f).1 hf
     have:=(JO f1.1 f1.2 f2.1 f2.2).1 f4
     omega
    ·intro h
     refine ⟨(e.2,2 * e.2 - e.1),(Jt _).2 ⟨⟨b0,b1⟩,h,by simp only;omega,(JO b0 b1 h.1 h.2).2 (by omega)⟩,rfl⟩
   rw [AT]
   clear AT
   constructor
   ·rintro ⟨_,_,_,_,hl,_⟩ hb
    have l:=hl (2 * e.2 - e.1) hb.1 (by omega)
    have s:=sd (2 * e.2 - e.1) hb.1 hb.2
    simp only at l;omega
   ·intro hb
    refine ⟨by simp only;omega,b0,by simp only;omega,by simp only;omega,λ m m0 m1=> ?_,λ m m0 m1 z=> ?_⟩
    ·simp only
     rcases Int.lt_or_eq_of_le (show m<=k by omega) with g|g
     ·have:=sd m m0 g;omega
     ·subst g
      have:EP (p m) (p e.2) (p m)=0:=by simp only [EP];grind
      omega
    ·simp only at z ⊢
     rcases Int.lt_or_eq_of_le (show m<=k by omega) with g|g
     ·have:=sd m m0 g;omega
     ·omega
 ·have pick:∀a b:Int,0<=a->a <k->0<=b->b <k->(b=a+1)->(a,b)∈V\/(b,a)∈V:=λ a b a0 a1 b0 b1 hab=>by
   have s1:=JO a0 a1 b0 b1
   have s2:=JO b0 b1 a0 a1
   rcases Int.lt_or_gt_of_ne hn with g|g
   ·exact .inl ((Jt _).2 ⟨⟨a0,a1⟩,⟨b0,b1⟩,by simp only;omega,s1.2 (.inl ⟨by omega,g⟩)⟩)
   ·exact .inr ((Jt _).2 ⟨⟨b0,b1⟩,⟨a0,a1⟩,by simp only;omega,s2.2 (.inr ⟨by omega,by omega⟩)⟩)
  have OH:∀e∈V,∀i,i=e.1\/i=e.2\/i=k->∃c∈V.map (GG k),i=c.1\/i=c.2.1\/i=c.2.2:=λ e he i hi=>by
   refine ⟨GG k e,List.mem_map.2 ⟨e,he,rfl⟩, ?_⟩
   unfold GG
   split<;>simp only<;>omega
  rcases Int.lt_or_eq_of_le (show i<=k by omega) with g|g
  ·rcases Int.lt_or_eq_of_le i0 with q|q
   ·rcases pick (i - 1) i (by omega) (by omega) i0 g (by omega) with z|z
    ·exact OH _ z i (.inr (.inl rfl))
    ·exact OH _ z i (.inl rfl)
   ·rcases pick i (i+1) i0 g (by omega) (by omega) rfl with z|z
    ·exact OH _ z i (.inl rfl)
    ·exact OH _ z i (.inr (.inl rfl))
  ·rcases pick 0 1 (by omega) (by omega) (by omega) (by omega) rfl with z|z
   ·exact OH _ z i (.inr (.inr g))
   ·exact OH _ z i (.inr (.inr g))
end
end Go.Proofs.YtollcjadobpfdaaGreat.Rw
namespace Go.Proofs.YtollcjadobpfdaaGreat.Rw
open Go.Rx
section
variable {ps:List (Int×Int)} {EY:List Int} {q:Nat}
theorem Mq (k:Nat) (ho:∀x∈ps,FJ x) (hl:ps.length<=200) (hh:∀x∈EY,0<=x/\x <ps.length) (hm:EY.length<=300) (hq:q <ps.length) {i:Nat} (hi:i <EY.length):
 f204 k (i:Int) ps EY (EY.length:Int) (q:Int)=some (decide (EP (EZ ps (EY.getD i 0)) (EZ ps (EY.getD ((i+1) % EY.length) 0)) (EZ ps q) <0),()):=by
 have hg:∀j,j <EY.length->0<=EY.getD j 0/\EY.getD j 0 <ps.length:=λ j hj=>by
  rw [List.getD_eq_getElem?_getD,List.getElem?_eq_getElem hj];exact hh _ (List.getElem_mem hj)
 have h1:=hg i hi
 have hlt:(i+1) % EY.length <EY.length:=Nat.mod_lt _ (by omega)
 have h2:=hg _ hlt
 have hw:AJ ((i:Int)+1)=((i+1:Nat):Int):=by rw [CV (by omega) (by omega)];omega
 have ht:((i+1:Nat):Int).tmod (EY.length:Int)=(((i+1) % EY.length:Nat):Int):=by
  rw [Int.tmod_eq_emod_of_nonneg (by omega)];rfl
 simp only [f204,f204.ES,hw,ht,Int.toNat_natCast]
 rw [if_pos (by omega),if_pos (by omega),if_pos h1.1,if_pos h1.2,if_pos (by omega),if_pos (by omega),if_pos (by omega),if_pos h2.1,if_pos h2.2,if_pos (by omega),if_pos (by omega)]
 have e:∀a b c:Int×Int,FJ a->FJ b->FJ c->f99 k (a.1,a.2) (b.1,b.2) (c.1,c.2)=some (sg (EP a b c),()):=λ a b c ha hb hc=>M8 ha hb hc
 have e2:=e _ _ _ (G9 ho (EY.getD i 0)) (G9 ho (EY.getD ((i+1) % EY.length) 0)) (G9 ho (q:Int))
 simp only [EZ,Int.toNat_natCast] at e2 ⊢
 rw [e2]
 simp only [Option.bind_some]
 congr 2
 have hs:∀x:Int,sg x <0↔x <0:=λ x=>by
  unfold sg
  repeat' split
  all_goals omega
 exact decide_eq_decide.2 (hs _)
variable {vis:Nat->Prop}
theorem Ol {k:Nat} (ho:∀x∈ps,FJ x) (hl:ps.length<=200) (hh:∀x∈EY,0<=x/\x <ps.length) (hm:EY.length<=300) (hq:q <ps.length)
 (hv:∀i,i <EY.length->(EP (EZ ps (EY.getD i 0)) (EZ ps (EY.getD ((i+1) % EY.length) 0)) (EZ ps q) <0↔vis i)) (out:List ET) {first:Nat} (hf:first <EY.length) (f1:vis first) (f2: ¬vis ((first+EY.length - 1) % EY.length)):
 ∀(d i n:Nat),i+d=first->d <n->(∀j,i<=j->j <first-> ¬vis j\/vis ((j+EY.length - 1) % EY.length))->
 f161.l0 k n out (EY.length:Int) ps EY (q:Int) (i:Int)=f161.l2 k k out (EY.length:Int) [] ps EY (q:Int) (first:Int) (first:Int)
 |d,i,0,hd,hn,hj=>by omega
 |d,i,n+1,hd,hn,hj=>by
  have him:i <EY.length:=by omega
  have hlt:(i+EY.length - 1) % EY.length <EY.length:=Nat.mod_lt _ (by omega)
  have hw1:AJ ((i:Int)+(EY.length:Int))=((i+EY.length:Nat):Int):=by rw [CV (by omega) (by omega)];omega
  have Vn:AJ (((i+EY.length:Nat):Int) - 1)=((i+EY.length - 1:Nat):Int):=by rw [CV (by omega) (by omega)];omega
  have TV:AJ ((i:Int)+1)=((i+1:Nat):Int):=by rw [CV (by omega) (by omega)];omega
  have ht:((i+EY.length - 1:Nat):Int).tmod (EY.length:Int)=(((i+EY.length - 1) % EY.length:Nat):Int):=by
   rw [Int.tmod_eq_emod_of_nonneg (by omega)];rfl
  have s1:=Mq k ho hl hh hm hq him
  have s2:=Mq k ho hl hh hm hq hlt
  have v1:=hv i him
  have v2:=hv _ hlt
  rw [f161.l0,f161.E0,s1]
  simp only [Option.bind_some,hw1,Vn,ht]
  by_cases c1:vis i
  ·rw [if_neg (by simpa using v1.2 c1),if_pos (by omega),s2]
   simp only [Option.bind_some]
   by_cases c2:vis ((i+EY.length - 1) % EY.length)
   ·have hne:i≠first:=λ z=>f2 (z▸c2)
    rw [decide_eq_true (show decide _=true by simpa using v2.2 c2),f161.r4,f161.Mo,if_pos rfl,TV]
    cases d with
    |zero=>omega
    |succ d=>exact Ol (k:=k) ho hl hh hm hq hv out hf f1 f2 d (i+1) n (by omega) (by omega) (λ j h1 h2=>hj j (by omega) h2)
   ·have he:i=first:=by
     rcases Nat.lt_or_ge i first with g|g
     ·rcases hj i (Nat.le_refl _) g with z|z
      ·exact (z c1).elim
      ·exact (c2 z).elim
     ·omega
    rw [decide_eq_false (show ¬decide _=true by simpa using λ z=>c2 (v2.1 z)),f161.r4,f161.Mo,if_neg (by simp),he]
  ·have hne:i≠first:=λ z=>c1 (z▸f1)
   rw [if_pos (by simpa using λ z=>c1 (v1.1 z)),f161.r4,f161.Mo,if_pos rfl,TV]
   cases d with
   |zero=>omega
   |succ d=>exact Ol (k:=k) ho hl hh hm hq hv out hf f1 f2 d (i+1) n (by omega) (by omega) (λ j h1 h2=>hj j (by omega) h2)
theorem QA {k:Nat} (ho:∀x∈ps,FJ x) (hl:ps.length<=200) (hh:∀x∈EY,0<=x/\x <ps.length) (hm:EY.length<=300) (hq:q <ps.length)
 (hv:∀i,i <EY.length->(EP (EZ ps (EY.getD i 0)) (EZ ps (EY.getD ((i+1) % EY.length) 0)) (EZ ps q) <0↔vis i)) {first:Nat} (hf:first <EY.length) {cnt:Nat} (hc:cnt<=EY.length) (c1:∀t,t <cnt->vis ((first+t) % EY.length)) (c2: ¬vis ((first+cnt) % EY.length)):
 ∀(d t n:Nat) (out:List ET),t+d=cnt->d <n->out.length+d<=1000000->
 f161.l2 k n out (EY.length:Int) [] ps EY (q:Int) (first:Int) ((first+t:Nat):Int)=f161.l4 k k (out++(List.range' t d).map λ t=>(EY.getD ((first+t+1) % EY.length) 0,(EY.getD ((first+t) % EY.length) 0,(q:Int)))) (EY.length:Int) [] EY (q:Int) (first:Int) (((first+cnt) % EY.length:Nat):Int)
 |d,t,0,out,hd,hn,hlen=>by omega
 |d,t,n+1,out,hd,hn,hlen=>by
  have hlt:(first+t) % EY.length <EY.length:=Nat.mod_lt _ (by omega)
  have VB:(first+t+1) % EY.length <EY.length:=Nat.mod_lt _ (by omega)
  have ht:((first+t:Nat):Int).tmod (EY.length:Int)=(((first+t) % EY.length:Nat):Int):=by
   rw [Int.tmod_eq_emod_of_nonneg (by omega)];rfl
  have hw:AJ (((first+t:Nat):Int)+1)=((first+t+1:Nat):Int):=by rw [CV (by omega) (by omega)];omega
  have ht2:((first+t+1:Nat):Int).tmod (EY.length:Int)=(((first+t+1) % EY.length:Nat):Int):=by
   rw [Int.tmod_eq_emod_of_nonneg (by omega)];rfl
  have s1:=Mq k ho hl hh hm hq hlt
  have v1:=hv _ hlt
  rw [f161.l2,f161.FG,if_pos (by omega),ht,s1]
  simp only [Option.bind_some,hw,ht2,Int.toNat_natCast]
  cases d with
  |zero=>
   obtain rfl:t=cnt:=by omega
   rw [if_neg (by simpa using λ z=>c2 (v1.1 z)),if_pos (by omega)]
   simp
  |succ d=>
   have hs:=v1.2 (c1 t (by omega))
   rw [if_pos (by simpa using hs),if_pos (by omega),if_pos (by omega),if_pos (by omega),if_pos (by omega),if_pos (by omega),if_pos (by omega),if_pos (by omega)]
   have ih:=QA (k:=k) ho hl hh hm hq hv hf hc c1 c2 d (t+1) n (out++[(EY.getD ((first+t+1) % EY.length) 0,(EY.getD ((first+t) % EY.length) 0,(q:Int)))]) (by omega) (by omega) (by simp;omega)
   rw [show first+t+1=first+(t+1) by omega,List.range'_succ]
   rw [show first+t+1=first+(t+1) by omega] at ih
   refine ih.trans ?_
   simp [Nat.add_assoc]
theorem QB {k:Nat} (hm:EY.length<=300) (h0:0 <EY.length) (out:List ET) {first:Nat} (hf:first <EY.length) {r8 c2:Nat} (g1:(r8+c2) % EY.length=first) (g2:∀t,t <c2->(r8+t) % EY.length≠first):
 ∀(d t n:Nat) (nx:List Int),t+d=c2->d <n->nx.length+d<=1000000->
 f161.l4 k n out (EY.length:Int) nx EY (q:Int) (first:Int) (((r8+t) % EY.length:Nat):Int)=some ((out,()),(nx++((List.range' t (d+1)).map λ t=>EY.getD ((r8+t) % EY.length) 0)++[(q:Int)],()))
 |d,t,0,nx,hd,hn,hlen=>by omega
 |d,t,n+1,nx,hd,hn,hlen=>by
  have hlt:(r8+t) % EY.length <EY.length:=Nat.mod_lt _ h0
  have hw:AJ ((((r8+t) % EY.length:Nat):Int)+1)=(((r8+t) % EY.length+1:Nat):Int):=by rw [CV (by omega) (by omega)];omega
  have ht:(((r8+t) % EY.length+1:Nat):Int).tmod (EY.length:Int)=(((r8+(t+1)) % EY.length:Nat):Int):=by
   rw [Int.tmod_eq_emod_of_nonneg (by omega)]
   have:((r8+t) % EY.length+1) % EY.length=(r8+(t+1)) % EY.length:=by rw [Nat.mod_add_mod,Nat.add_assoc]
   rw [<-this];rfl
  rw [f161.l4,f161.Hj,if_pos (by omega),if_pos (by omega),if_pos (by omega),hw,ht,Int.toNat_natCast]
  cases d with
  |zero=>
   obtain rfl:t=c2:=by omega
   rw [if_pos (by omega),if_pos (by simp;omega)]
   simp
  |succ d=>
   have:=g2 t (by omega)
   rw [if_neg (by omega),if_pos (by omega)]
   have ih:=QB (k:=k) hm h0 out hf g1 g2 d (t+1) n (nx++[EY.getD ((r8+t) % EY.length) 0]) (by omega) (by omega) (by simp;omega)
   refine ih.trans ?_
   rw [show List.range' t (d+1+1)=t::List.range' (t+1) (d+1) from rfl]
   simp
theorem PS {k:Nat} (hk:1000<=k) (ho:∀x∈ps,FJ x) (hl:ps.length<=200) (hh:∀x∈EY,0<=x/\x <ps.length) (hm:EY.length<=300) (h0:0 <EY.length) (hq:q <ps.length)
 (hv:∀i,i <EY.length->(EP (EZ ps (EY.getD i 0)) (EZ ps (EY.getD ((i+1) % EY.length) 0)) (EZ ps q) <0↔vis i)) {out:List ET} (hout:out.length<=900000) {first cnt c2:Nat} (hf:first <EY.length) (hc:cnt<=EY.length) (uB:c2<=EY.length)
 (f0:∀j,j <first-> ¬vis j\/vis ((j+EY.length - 1) % EY.length)) (f1: ¬vis ((first+EY.length - 1) % EY.length)) (c0:0 <cnt) (c1:∀t,t <cnt->vis ((first+t) % EY.length)) (SK: ¬vis ((first+cnt) % EY.length))
 (g1:(first+cnt+c2) % EY.length=first) (g2:∀t,t <c2->(first+cnt+t) % EY.length≠first):
 f161 k out ps EY (q:Int)=some ((out++(List.range cnt).map λ t=>(EY.getD ((first+t+1) % EY.length) 0,(EY.getD ((first+t) % EY.length) 0,(q:Int))),()),(((List.range (c2+1)).map λ t=>EY.getD ((first+cnt+t) % EY.length) 0)++[(q:Int)],())):=by
 have Vj:vis first:=by have:=c1 0 c0;rwa [Nat.add_zero,Nat.mod_eq_of_lt hf] at this
 simp only [f161,f161.ES]
 have a:=Ol (k:=k) ho hl hh hm hq hv out hf Vj f1 first 0 k (by omega) (by omega) (λ j _ h=>f0 j h)
 have b:=QA (k:=k) ho hl hh hm hq hv hf hc c1 SK cnt 0 k out (by omega) (by omega) (by omega)
 have c:=QB (k:=k) (q:=q) hm h0 (out++(List.range' 0 cnt).map λ t=>(EY.getD ((first+t+1) % EY.length) 0,(EY.getD ((first+t) % EY.length) 0,(q:Int)))) hf (r8:=(first+cnt) % EY.length) (c2:=c2) (by rw [Nat.mod_add_mod];exact g1) (λ t h=>by rw [Nat.mod_add_mod];exact g2 t h) c2 0 k [] (by omega) (by omega) (by simp;omega)
 simp only [Nat.add_zero,Nat.mod_mod,Nat.mod_add_mod,List.nil_append] at a b c
 refine a.trans (b.trans (c.trans ?_))
 rw [List.range_eq_range',List.range_eq_range']
end
end Go.Proofs.YtollcjadobpfdaaGreat.Rw
namespace Go.Proofs.YtollcjadobpfdaaGreat.Rw
theorem Pz {m:Nat} {vis:Nat->Prop} (hv:∃i,i <m/\vis i) (hn:∃i,i <m/\ ¬vis i):∃f,f <m/\vis f/\ ¬vis ((f+m - 1) % m):=by
 obtain ⟨i,hi,vi⟩:=hv
 obtain ⟨j,hj,DV⟩:=hn
 have key:∀t,vis ((j+t) % m)->∃f,f <m/\vis f/\ ¬vis ((f+m - 1) % m):=λ t=>by
  induction t with
  |zero=>intro h;rw [Nat.add_zero,Nat.mod_eq_of_lt hj] at h;exact absurd h DV
  |succ t ih=>
   intro h
   by_cases c:vis ((j+t) % m)
   ·exact ih c
   ·refine ⟨(j+(t+1)) % m,Nat.mod_lt _ (by omega),h, ?_⟩
    rwa [show (j+(t+1)) % m+m - 1=(j+(t+1)) % m+(m - 1) by omega,Nat.mod_add_mod,show j+(t+1)+(m - 1)=j+t+m by omega,Nat.add_mod_right]
 refine key (i+m - j) ?_
 rwa [show j+(i+m - j)=i+m by omega,Nat.add_mod_right,Nat.mod_eq_of_lt hi]
theorem ME {q:Nat->Prop}:∀(N:Nat),¬q N->∃c,c<=N/\ ¬q c/\∀t,t <c->q t
 | 0,h=>⟨0,Nat.le_refl _,h,λ t ht=>by omega⟩
 |N+1,h=>by
  by_cases c:∀t,t <N+1->q t
  ·exact ⟨N+1,Nat.le_refl _,h,c⟩
  ·obtain ⟨t,ht⟩:=Classical.not_forall.1 c
   obtain ⟨ht,hq⟩:=Classical.not_imp.1 ht
   obtain ⟨c,h1,h2,h3⟩:=ME t hq
   exact ⟨c,by omega,h2,h3⟩
 termination_by N=>N
theorem K4 {m f a b:Nat} (ha:a <m) (hb:b <m) (h:(f+a) % m=(f+b) % m):a=b:=by
 have h1:=Nat.div_add_mod (f+a) m
 have h2:=Nat.div_add_mod (f+b) m
 rw [h] at h1
 rcases Nat.lt_trichotomy ((f+a) / m) ((f+b) / m) with g|g|g
 ·have:=Nat.mul_le_mul_left m (show (f+a) / m+1<=(f+b) / m by omega)
  rw [Nat.mul_add,Nat.mul_one] at this
  omega
 ·rw [g] at h1;omega
 ·have:=Nat.mul_le_mul_left m (show (f+b) / m+1<=(f+a) / m by omega)
  rw [Nat.mul_add,Nat.mul_one] at this
  omega
theorem Py {m:Nat} {vis:Nat->Prop} (hv:∃i,i <m/\vis i) (hn:∃i,i <m/\ ¬vis i) (one:∀i j,i <m->j <m->vis i->vis j-> ¬vis ((i+m - 1) % m)-> ¬vis ((j+m - 1) % m)->i=j):
 ∃f c,f <m/\0 <c/\c <m/\vis f/\ ¬vis ((f+m - 1) % m)/\(∀t,t <c->vis ((f+t) % m))/\(∀t,c<=t->t <m-> ¬vis ((f+t) % m))/\∀j,j <f-> ¬vis j\/vis ((j+m - 1) % m):=by
 obtain ⟨f,f1,f2,f3⟩:=Pz hv hn
 obtain ⟨j,j1,j2⟩:=hn
 obtain ⟨c,c1,c2,c3⟩:=ME (q:=λ t=>vis ((f+t) % m)) (m - 1) (by simpa only [show f+(m - 1)=f+m - 1 by omega] using f3)
 have c0:0 <c:=by
  rcases Nat.eq_zero_or_pos c with z|z
  ·subst z;rw [Nat.add_zero,Nat.mod_eq_of_lt f1] at c2;exact absurd f2 c2
  ·exact z
 refine ⟨f,c,f1,c0,by omega,f2,f3,c3, ?_,λ j hj=> ?_⟩
 ·have key:∀d,c+d <m-> ¬vis ((f+(c+d)) % m):=λ d=>by
   induction d with
   |zero=>exact λ _=>c2
   |succ d ih=>
    intro hd Uv
    have hlt:(f+(c+(d+1))) % m <m:=Nat.mod_lt _ (by omega)
    have:=one _ _ hlt f1 Uv f2 (by
     rw [show (f+(c+(d+1))) % m+m - 1=(f+(c+(d+1))) % m+(m - 1) by omega,Nat.mod_add_mod,show f+(c+(d+1))+(m - 1)=f+(c+d)+m by omega,Nat.add_mod_right]
     exact ih (by omega)) f3
    have e:(f+(c+(d+1))) % m=(f+0) % m:=by rw [this,Nat.add_zero,Nat.mod_eq_of_lt f1]
    have:=K4 (by omega) (by omega) e
    omega
  intro t h1 h2
  have:=key (t - c) (by omega)
  rwa [show c+(t - c)=t by omega] at this
 ·by_cases a:vis j
  ·by_cases b:vis ((j+m - 1) % m)
   ·exact .inr b
   ·exact absurd (one j f (by omega) f1 a f2 b f3) (by omega)
  ·exact .inl a
section
variable {p:Int->Int×Int} {K k:Int} {cs:List ET} {h:List Int}
def hE (h:List Int) (i:Nat):Int×Int:=(h.getD (i % h.length) 0,h.getD ((i+1) % h.length) 0)
structure HF (p:Int->Int×Int) (k:Int) (h:List Int):Prop where
 len:2<=h.length
 JW:∀i,i <h.length->E6 p k (hE h i)/\(hE h i).1≠(hE h i).2
 inj:∀i j,i <h.length->j <h.length->h.getD i 0=h.getD j 0->i=j
 all:∀e,E6 p k e->e.1≠e.2->∃i,i <h.length/\e=hE h i
theorem HF.mem (H:HF p k h) {i:Nat} (hi:i <h.length):0<=h.getD i 0/\h.getD i 0 <k:=by
 have:=(H.JW i hi).1
 have a:=this.l1;have b:=this.u1
 simp only [hE,Nat.mod_eq_of_lt hi] at a b
 exact ⟨a,b⟩
theorem R1 (hw:HR p K k) (hr:E2 p K (k+1)) (h2:2<=k):(∃e,E6 p k e/\e.1≠e.2/\EP (p e.1) (p e.2) (p k) <0)/\∃a b,E6 p (k+1) (k,b)/\E6 p (k+1) (a,k)/\a <k/\b <k:=by
 have Ju:=hw.Fg
 obtain ⟨N,rfl⟩:∃N:Nat,k=((N+1:Nat):Int):=⟨(k - 1).toNat,by omega⟩
 have hL:=Ja Ju N (by omega)
 have hU:=Ja (Ga Ju) N (by omega)
 simp only [Ge] at hL hU
 rw [show ((N:Nat):Int)=((N+1:Nat):Int) - 1 by omega] at hL hU
 generalize Hr p (((N+1:Nat):Int) - 1) (Ge p N)=L at hL
 generalize Hr (FP K p) (((N+1:Nat):Int) - 1) (Ge (FP K p) N)=U at hU
 generalize ((N+1:Nat):Int)=k at *
 have s1:=JE hr (by omega) hL
 have s2:=JE (Ga hr) (by omega) hU
 have top:∀{P:Int->Int×Int} {S:List Int},Gu P k ((k - 1)::S)->E2 P K (k+1)->Gu P (k+1) (k::Hr P k ((k - 1)::S))->∃a,E6 P (k+1) (a,k)/\a <k:=λ {P S} hS hR hs=>by
  generalize Hr P k ((k - 1)::S)=T at hs
  cases T with
  |nil=>simp only [Gu] at hs;omega
  |cons a T=>exact ⟨a,hs.2.1,hs.1⟩
 obtain ⟨a,a1,a2⟩:=top hL hr s1
 obtain ⟨b,b1,b2⟩:=top hU (Ga hr) s2
 refine ⟨?_,a,b,(F0 (b,k)).1 b1,a1,a2,b2⟩
 apply Classical.byContradiction
 intro hz
 have TU:Kp p K k ((k - 1)::L) ((k - 1)::U)=[]:=List.eq_nil_iff_forall_not_mem.2 λ e he=>hz ⟨e,(RJ hr h2 hL hU e).1 he⟩
 unfold Kp at TU
 obtain ⟨z1,z2⟩:=List.append_eq_nil_iff.1 TU
 have z1:=List.reverse_eq_nil_iff.1 z1
 have z2:=List.map_eq_nil_iff.1 z2
 have hp:∀{P:Int->Int×Int} {S:List Int},Hy P k ((k - 1)::S)=[]->Hr P k ((k - 1)::S)=(k - 1)::S:=λ {P S} hz=>by
  cases S with
  |nil=>rfl
  |cons a S=>
   simp only [Hy] at hz
   simp only [Hr]
   split at hz
   ·cases hz
   ·rename_i c;rw [if_neg c]
 rw [hp z1] at s1
 rw [hp z2] at s2
 have o1:=s1.2.1
 have o2:=(F0 (k - 1,k)).1 s2.2.1
 obtain ⟨m,m0,m1,hm⟩:=hw.off (i:=0) (j:=1) (by omega) (by omega) (by omega) (by omega) (by omega)
 have hW:=K8 hr (x:=0) (y:=1) (z:=m) ⟨by omega,by omega⟩ ⟨by omega,by omega⟩ ⟨m0,by omega⟩ hm
 obtain ⟨m,m0,m1,hm⟩:=hW.off (i:=k - 1) (j:=k) (by omega) (by omega) (by omega) (by omega) (by omega)
 have l1:=o1.left m m0 m1
 have l2:=o2.left m m0 m1
 simp only at l1 l2
 have:EP (p k) (p (k - 1)) (p m)= - EP (p (k - 1)) (p k) (p m):=by simp only [EP];grind
 omega
end
end Go.Proofs.YtollcjadobpfdaaGreat.Rw
namespace Go.Proofs.YtollcjadobpfdaaGreat.Rw
section
variable {p:Int->Int×Int} {K k:Int} {cs:List ET} {h:List Int}
theorem HW (i:Nat):hE h (i % h.length)=hE h i:=by
 unfold hE
 rw [Nat.mod_mod,Nat.mod_add_mod]
theorem P3 (i:Nat):hE h (i+h.length)=hE h i:=by
 rw [<-HW,Nat.add_mod_right,HW]
theorem J2 (i:Nat):(hE h (i+1)).1=(hE h i).2:=rfl
theorem OO {i:Nat} (h0:0 <h.length):(hE h (i+h.length - 1)).2=(hE h i).1:=by
 have:=J2 (h:=h) (i+h.length - 1)
 rw [show i+h.length - 1+1=i+h.length by omega,P3] at this
 exact this.symm
theorem HF.any (H:HF p k h) (i:Nat):E6 p k (hE h i)/\(hE h i).1≠(hE h i).2:=by
 rw [<-HW];exact H.JW _ (Nat.mod_lt _ (by have:=H.len;omega))
theorem HF.fst (H:HF p k h) {i j:Nat} (hi:i <h.length) (hj:j <h.length) (e:(hE h i).1=(hE h j).1):i=j:=by
 simp only [hE,Nat.mod_eq_of_lt hi,Nat.mod_eq_of_lt hj] at e
 exact H.inj i j hi hj e
def GN (p:Int->Int×Int) (k:Int) (h:List Int) (i:Nat):Prop:=EP (p (hE h i).1) (p (hE h i).2) (p k) <0
def Gs (h:List Int) (f c:Nat) (k:Int):List Int:=((List.range (h.length - c+1)).map λ t=>h.getD ((f+c+t) % h.length) 0)++[k]
theorem MN {f c:Nat}:(Gs h f c k).length=h.length - c+2:=by simp [Gs]
theorem Io {f c t:Nat} (ht:t <h.length - c+1):(Gs h f c k).getD t 0=(hE h (f+c+t)).1:=by
 unfold Gs hE
 rw [List.getD_eq_getElem?_getD,List.getElem?_append_left (by simpa using ht),List.getElem?_map,List.getElem?_range ht]
 rfl
theorem JM {f c:Nat}:(Gs h f c k).getD (h.length - c+1) 0=k:=by
 unfold Gs
 rw [List.getD_eq_getElem?_getD,List.getElem?_append_right (by simp)]
 simp
theorem HF.nodup (H:HF p k h) {f c:Nat} (hc:c<=h.length):((List.range c).map λ t=>hE h (f+t)).Nodup:=by
 rw [List.Nodup,List.pairwise_map]
 refine List.Pairwise.imp_of_mem (λ {a b} ha hb hab z=>hab ?_) List.nodup_range
 have h0:=H.len
 rw [<-HW, <-HW (f+b)] at z
 have:=H.fst (Nat.mod_lt _ (by omega)) (Nat.mod_lt _ (by omega)) (congrArg Prod.fst z)
 have ha:=List.mem_range.1 ha
 have hb:=List.mem_range.1 hb
 exact K4 (by omega) (by omega) this
theorem HF.sides (H:HF p k h):∀e,E6 p k e->e.1≠e.2->(∃x,E6 p k (x,e.1)/\x≠e.1)/\∃y,E6 p k (e.2,y)/\y≠e.2:=λ e ho hn=>by
 obtain ⟨i,hi,rfl⟩:=H.all e ho hn
 have a:=H.any (i+h.length - 1)
 have b:=H.any (i+1)
 have ea:=OO (h:=h) (i:=i) (by omega)
 have eb:=J2 (h:=h) i
 refine ⟨⟨(hE h (i+h.length - 1)).1, ?_, ?_⟩,(hE h (i+1)).2, ?_, ?_⟩
 ·rw [<-ea];exact a.1
 ·rw [<-ea];exact a.2
 ·rw [<-eb];exact b.1
 ·rw [<-eb];exact λ z=>b.2 z.symm
theorem HF.step (H:HF p k h) (hm:Fm p K k cs) (hne:cs≠[]) (hr:E2 p K (k+1)) (h2:2<=k):
 ∃f c,f <h.length/\0 <c/\c <h.length/\ ¬GN p k h ((f+h.length - 1) % h.length)/\(∀t,t <c->GN p k h ((f+t) % h.length))/\ ¬GN p k h ((f+c) % h.length)/\(∀j,j <f-> ¬GN p k h j\/GN p k h ((j+h.length - 1) % h.length))/\
  HF p (k+1) (Gs h f c k)/\Fm p K (k+1) (cs++((List.range c).map λ t=>hE h (f+t)).map (GG k)):=by
 have hw:=hm.wide hne
 have hl:=H.len
 have DI:∀i,GN p k h (i % h.length)↔GN p k h i:=λ i=>by unfold GN;rw [HW]
 obtain ⟨⟨e,e1,e2,e3⟩,a,b,ob,DX,ha,hb⟩:=R1 hw hr h2
 obtain ⟨i0,hi0,rfl⟩:=H.all e e1 e2
 have hW:HR p K (k+1):=by
  obtain ⟨m,m0,m1,hm⟩:=hw.off (i:=0) (j:=1) (by omega) (by omega) (by omega) (by omega) (by omega)
  exact K8 hr (x:=0) (y:=1) (z:=m) ⟨by omega,by omega⟩ ⟨by omega,by omega⟩ ⟨m0,by omega⟩ hm
 have app:∀V:List (Int×Int),V.Nodup->(∀e,e∈V↔∃i,i <h.length/\GN p k h i/\e=hE h i)->Fm p K (k+1) (cs++V.map (GG k)):=λ V DQ hV=>by
  refine hm.add hne hr DQ (λ e=> ?_) (λ z=> ?_) H.sides (λ e he hn=>hm.Jh he hn)
  ·rw [hV]
   constructor
   ·rintro ⟨i,hi,v,rfl⟩
    exact ⟨(H.JW i hi).1,(H.JW i hi).2,v⟩
   ·rintro ⟨g1,g2,g3⟩
    obtain ⟨i,hi,rfl⟩:=H.all e g1 g2
    exact ⟨i,hi,g3,rfl⟩
  ·have:=(hV (hE h i0)).2 ⟨i0,hi0,e3,rfl⟩
   rw [z] at this;cases this
 have UA:∃i,i <h.length/\ ¬GN p k h i:=by
  have hmem:∀e,e∈(((List.range h.length).map λ t=>hE h (0+t)).filter λ e=>decide (EP (p e.1) (p e.2) (p k) <0))↔∃i,i <h.length/\GN p k h i/\e=hE h i:=λ e=>by
   rw [List.mem_filter,List.mem_map]
   constructor
   ·rintro ⟨⟨t,ht,rfl⟩,g⟩
    refine ⟨t,List.mem_range.1 ht, ?_,by rw [Nat.zero_add]⟩
    rw [Nat.zero_add] at g
    unfold GN;exact of_decide_eq_true g
   ·rintro ⟨i,hi,g,rfl⟩
    exact ⟨⟨i,List.mem_range.2 hi,by rw [Nat.zero_add]⟩,by unfold GN at g;exact decide_eq_true g⟩
  have oy:=app _ ((H.nodup (f:=0) (Nat.le_refl _)).filter _) hmem
  have:=oy.Jh ob (by simp only;omega)
  rw [Jb,List.mem_append] at this
  rcases this with z|z
  ·have:=(Jk hm z).1;simp only at this;omega
  ·unfold EX at z
   rw [List.flatMap_map,List.mem_flatMap] at z
   obtain ⟨f,hf,hx⟩:=z
   obtain ⟨i,hi,v,rfl⟩:=(hmem f).1 hf
   have oi:=(H.JW i hi).1
   have u1:=oi.u1;have u2:=oi.u2
   have Vi:b=(hE h i).2:=by
    rcases (Hw k _ _).1 hx with z|z|z<;>simp only [Prod.mk.injEq] at z<;>omega
   refine ⟨(i+1) % h.length,Nat.mod_lt _ (by omega),λ z=> ?_⟩
   have z:=(DI _).1 z
   unfold GN at z
   have o1:=(H.any (i+1)).1
   have l:=ob.left (hE h (i+1)).2 o1.l2 (by have:=o1.u2;omega)
   rw [J2, <-Vi] at z
   simp only at l
   have:EP (p b) (p (hE h (i+1)).2) (p k)=EP (p k) (p b) (p (hE h (i+1)).2):=by simp only [EP];grind
   omega
 have start:∀i,GN p k h i-> ¬GN p k h (i+h.length - 1)->E6 p (k+1) ((hE h i).1,k):=λ i v DW=>by
  unfold GN at v DW
  have a:=H.any (i+h.length - 1)
  have b:=H.any i
  have ea:=OO (h:=h) (i:=i) (by omega)
  have o1:E6 p k ((hE h (i+h.length - 1)).1,(hE h i).1):=by rw [<-ea];exact a.1
  refine hw.NI hr o1 b.1 (by rw [<-ea];exact a.2) ?_ v
  rw [<-ea];omega
 have one:∀i j,i <h.length->j <h.length->GN p k h i->GN p k h j-> ¬GN p k h ((i+h.length - 1) % h.length)-> ¬GN p k h ((j+h.length - 1) % h.length)->i=j:=λ i j hi hj vi vj Eh DV=>by
  rw [DI] at Eh DV
  have o1:=start i vi Eh
  have o2:=start j vj DV
  have u1:=(H.JW i hi).1.u1;have u2:=(H.JW j hj).1.u1
  exact H.fst hi hj (hW.K5 o1 o2 (by omega) (by omega))
 obtain ⟨f,c,f1,c0,c1,f2,f3,f4,f5,f6⟩:=Py ⟨i0,hi0,e3⟩ UA one
 have nc:=f5 c (Nat.le_refl _) c1
 refine ⟨f,c,f1,c0,c1,f3,f4,nc,f6, ?_, ?_⟩
 ·have TZ:=start f f2 (by rw [<-DI];exact f3)
  have Ta:E6 p (k+1) (k,(hE h (f+c)).1):=by
   have El:GN p k h (f+(c - 1)):=(DI _).1 (f4 (c - 1) (by omega))
   have nb: ¬GN p k h (f+c):=λ z=>nc ((DI _).2 z)
   unfold GN at El nb
   have a:=H.any (f+(c - 1))
   have b:=H.any (f+c)
   have ea:=J2 (h:=h) (f+(c - 1))
   rw [show f+(c - 1)+1=f+c by omega] at ea
   have o1:E6 p k ((hE h (f+(c - 1))).1,(hE h (f+c)).1):=by rw [ea];exact a.1
   refine hw.OY hr (y:=(hE h (f+c)).2) b.1 o1 (λ z=>b.2 z.symm) (by omega) ?_
   rw [ea];exact El
  have AT:(hE h (f+c+(h.length - c))).1=(hE h f).1:=by
   rw [show f+c+(h.length - c)=f+h.length by omega,P3]
  have IF:(Gs h f c k).length=h.length - c+2:=MN
  have DK:∀t,t <h.length - c->hE (Gs h f c k) t=hE h (f+c+t):=λ t ht=>by
   show ((Gs h f c k).getD (t % (Gs h f c k).length) 0,(Gs h f c k).getD ((t+1) % (Gs h f c k).length) 0)=_
   rw [IF,Nat.mod_eq_of_lt (by omega),Nat.mod_eq_of_lt (by omega),Io (by omega),Io (by omega),show f+c+(t+1)=f+c+t+1 by omega,J2]
  have DM:hE (Gs h f c k) (h.length - c)=((hE h f).1,k):=by
   show ((Gs h f c k).getD (_ % (Gs h f c k).length) 0,(Gs h f c k).getD (_ % (Gs h f c k).length) 0)=_
   rw [IF,Nat.mod_eq_of_lt (by omega),Nat.mod_eq_of_lt (by omega),Io (by omega),JM,AT]
  have DN:hE (Gs h f c k) (h.length - c+1)=(k,(hE h (f+c)).1):=by
   show ((Gs h f c k).getD (_ % (Gs h f c k).length) 0,(Gs h f c k).getD (_ % (Gs h f c k).length) 0)=_
   rw [IF,Nat.mod_eq_of_lt (by omega),Nat.mod_self,JM,Io (by omega),Nat.add_zero]
  have u1:=(H.any f).1.u1
  have u2:=(H.any (f+c)).1.u1
  refine ⟨by omega,λ t ht=> ?_,λ i j hi hj hij=> ?_,λ e ho hn=> ?_⟩
  ·rw [IF] at ht
   rcases Nat.lt_or_ge t (h.length - c) with g|g
   ·rw [DK t g]
    have DW:=f5 (c+t) (by omega) (by omega)
    rw [DI, <-Nat.add_assoc] at DW
    unfold GN at DW
    exact ⟨Kk (H.any _).1 (by omega),(H.any _).2⟩
   ·rcases Nat.lt_or_ge t (h.length - c+1) with q|q
    ·obtain rfl:t=h.length - c:=by omega
     rw [DM];exact ⟨TZ,by simp only;omega⟩
    ·obtain rfl:t=h.length - c+1:=by omega
     rw [DN];exact ⟨Ta,by simp only;omega⟩
  ·rw [IF] at hi hj
   have val:∀t,t <h.length - c+1->(Gs h f c k).getD t 0 <k:=λ t ht=>by
    rw [Io ht];exact (H.any _).1.u1
   rcases Nat.lt_or_ge i (h.length - c+1) with g|g
   ·rcases Nat.lt_or_ge j (h.length - c+1) with q|q
    ·rw [Io g,Io q, <-HW, <-HW (f+c+j)] at hij
     exact K4 (by omega) (by omega) (H.fst (Nat.mod_lt _ (by omega)) (Nat.mod_lt _ (by omega)) hij)
    ·obtain rfl:j=h.length - c+1:=by omega
     have:=val i g
     rw [JM] at hij;omega
   ·obtain rfl:i=h.length - c+1:=by omega
    rcases Nat.lt_or_ge j (h.length - c+1) with q|q
    ·have:=val j q
     rw [JM] at hij;omega
    ·omega
  ·rw [IF]
   have a1:=ho.u1;have a2:=ho.u2
   rcases Int.lt_or_eq_of_le (show e.2<=k by omega) with g2|g2
   ·rcases Int.lt_or_eq_of_le (show e.1<=k by omega) with g1|g1
    ·obtain ⟨o1,o2⟩:=Jg ho g1 g2
     obtain ⟨i,hi,rfl⟩:=H.all e o1 hn
     obtain ⟨s,hs,es⟩:∃s,s <h.length/\(f+s) % h.length=i:=by
      rcases Nat.lt_or_ge i f with q|q
      ·exact ⟨i+h.length - f,by omega,by rw [show f+(i+h.length - f)=i+h.length by omega,Nat.add_mod_right,Nat.mod_eq_of_lt hi]⟩
      ·exact ⟨i - f,by omega,by rw [show f+(i - f)=i by omega,Nat.mod_eq_of_lt hi]⟩
     have hc:c<=s:=by
      rcases Nat.lt_or_ge s c with q|q
      ·have v:=f4 s q
       rw [es] at v;unfold GN at v;omega
      ·exact q
     refine ⟨s - c,by omega, ?_⟩
     rw [DK _ (by omega),show f+c+(s - c)=f+s by omega, <-HW (f+s),es]
    ·refine ⟨h.length - c+1,by omega, ?_⟩
     rw [DN]
     obtain ⟨x,y⟩:=e
     simp only at g1 g2 hn
     subst g1
     rw [hW.JN ho Ta hn (by omega)]
   ·refine ⟨h.length - c,by omega, ?_⟩
    rw [DM]
    obtain ⟨x,y⟩:=e
    simp only at g2 hn
    subst g2
    rw [hW.K5 ho TZ (λ z=>hn z.symm) (by omega)]
 ·refine app _ (H.nodup (by omega)) λ e=> ?_
  rw [List.mem_map]
  constructor
  ·rintro ⟨t,ht,rfl⟩
   have ht:=List.mem_range.1 ht
   exact ⟨(f+t) % h.length,Nat.mod_lt _ (by omega),f4 t ht,(HW _).symm⟩
  ·rintro ⟨i,hi,v,rfl⟩
   obtain ⟨s,hs,es⟩:∃s,s <h.length/\(f+s) % h.length=i:=by
    rcases Nat.lt_or_ge i f with q|q
    ·exact ⟨i+h.length - f,by omega,by rw [show f+(i+h.length - f)=i+h.length by omega,Nat.add_mod_right,Nat.mod_eq_of_lt hi]⟩
    ·exact ⟨i - f,by omega,by rw [show f+(i - f)=i by omega,Nat.mod_eq_of_lt hi]⟩
   refine ⟨s,List.mem_range.2 ?_,by rw [<-HW,es]⟩
   rcases Nat.lt_or_ge s c with q|q
   ·exact q
   ·have:=f5 s q hs
    rw [es] at this;exact absurd v this
end
end Go.Proofs.YtollcjadobpfdaaGreat.Rw
namespace Go.Proofs.YtollcjadobpfdaaGreat.Rw
section
variable {p:Int->Int×Int} {K:Int} {n:Nat}
def k7 (l:Bool) (n i:Nat):Int:=if l then (i:Int) else (n:Int) - 1 - i
def ID (l:Bool) (n:Nat):List Int:=(List.range n).map (k7 l n)++[(n:Int)]
theorem HA {l:Bool} {i:Nat} (hi:i <n):0<=k7 l n i/\k7 l n i <n:=by
 unfold k7;split<;>omega
theorem Kg {l:Bool} {m:Int} (m0:0<=m) (m1:m <n):∃j,j <n/\k7 l n j=m:=by
 unfold k7
 cases l
 ·exact ⟨n - 1 - m.toNat,by omega,by simp only [Bool.false_eq_true,if_false];omega⟩
 ·exact ⟨m.toNat,by omega,by simp only [if_true];omega⟩
theorem KK {l:Bool} {i j:Nat} (hi:i <n) (hj:j <n) (h:k7 l n i=k7 l n j):i=j:=by
 unfold k7 at h;split at h<;>omega
theorem Jf (hr:E2 p K ((n:Int)+1)) (h2:2<=n) (hz:∀m,0<=m->m <(n:Int)->EP (p 0) (p 1) (p m)=0) (e:Int×Int) (hn:e.1≠e.2):E6 p n e↔(0<=e.1/\e.1 <n)/\(0<=e.2/\e.2 <n)/\(e.2=e.1+1\/e.1=e.2+1):=by
 have zero:=λ {i j m:Int} (i0:0<=i) (i1:i <n) (r8:0<=j) (j1:j <n) (m0:0<=m) (m1:m <n)=>MI hr (by omega) hz i0 i1 r8 j1 m0 m1
 constructor
 ·intro h
  refine ⟨⟨h.l1,h.u1⟩,⟨h.l2,h.u2⟩, ?_⟩
  have a0:=h.l1;have a1:=h.u1;have b0:=h.l2;have b1:=h.u2
  rcases Int.lt_or_gt_of_ne hn with g|g
  ·have:=h.none (e.1+1) (by omega) (by omega) (zero a0 a1 b0 b1 (by omega) (by omega))
   omega
  ·have:=h.none (e.2+1) (by omega) (by omega) (zero a0 a1 b0 b1 (by omega) (by omega))
   omega
 ·rintro ⟨⟨a0,a1⟩,⟨b0,b1⟩,h⟩
  exact ⟨a0,b0,a1,b1,λ m m0 m1=>by rw [zero a0 a1 b0 b1 m0 m1];exact Int.le_refl _,λ m m0 m1 _=>by omega⟩
theorem MG (hr:E2 p K ((n:Int)+1)) (h2:2<=n) (hz:∀m,0<=m->m <(n:Int)->EP (p 0) (p 1) (p m)=0) {i j:Int} (i0:0<=i) (i1:i <n) (r8:0<=j) (j1:j <n) (hij:i <j):(0 <EP (p 0) (p 1) (p n)->0 <EP (p i) (p j) (p n))/\(EP (p 0) (p 1) (p n) <0->EP (p i) (p j) (p n) <0):=by
 have hid:=MH hr (by omega) hz i0 i1 r8 j1
 have Vp:=hr 0 1 (by omega) (by omega) (by omega)
 have T2:=hr i j i0 hij (by omega)
 generalize EP (p 0) (p 1) (p n)=s at *
 generalize EP (p i) (p j) (p n)=c at *
 constructor
 ·intro hs
  have:=Int.mul_pos (show 0 <ER K (p j) - ER K (p i) by omega) hs
  exact L8 (show 0 <ER K (p 1) - ER K (p 0) by omega) hid this
 ·intro hs
  have h3:=Int.mul_pos (show 0 <ER K (p j) - ER K (p i) by omega) (show 0 < -s by omega)
  have:=L8 (show 0 <ER K (p 1) - ER K (p 0) by omega) (q:= -c) (by rw [Int.mul_neg,hid, <-Int.mul_neg]) h3
  omega
theorem K3 (hr:E2 p K ((n:Int)+1)) (h2:2<=n) (hz:∀m,0<=m->m <(n:Int)->EP (p 0) (p 1) (p m)=0) {l:Bool} (hl:if l then 0 <EP (p 0) (p 1) (p n) else EP (p 0) (p 1) (p n) <0) {i j:Nat} (hij:i <j) (hj:j <n):0 <EP (p (k7 l n i)) (p (k7 l n j)) (p n):=by
 have a:=HA (l:=l) (n:=n) (i:=i) (by omega)
 have b:=HA (l:=l) (n:=n) hj
 cases l
 ·have h:=(MG hr h2 hz b.1 b.2 a.1 a.2 (by simp only [k7,Bool.false_eq_true,if_false];omega)).2 (by simpa using hl)
  have:EP (p (k7 false n i)) (p (k7 false n j)) (p n)= - EP (p (k7 false n j)) (p (k7 false n i)) (p n):=by simp only [EP];grind
  omega
 ·exact (MG hr h2 hz a.1 a.2 b.1 b.2 (by simp only [k7,if_true];omega)).1 (by simpa using hl)
theorem IE {l:Bool} {t:Nat} (ht:t <n):(ID l n).getD t 0=k7 l n t:=by
 unfold ID
 rw [List.getD_eq_getElem?_getD,List.getElem?_append_left (by simpa using ht),List.getElem?_map,List.getElem?_range ht]
 rfl
theorem Kh {l:Bool}:(ID l n).getD n 0=n:=by
 unfold ID
 rw [List.getD_eq_getElem?_getD,List.getElem?_append_right (by simp)]
 simp
theorem Nw {l:Bool}:(ID l n).length=n+1:=by simp [ID]
theorem Ke (x a b:Int×Int):EP x a b=EP b x a:=by simp only [EP];grind
theorem Rg (hr:E2 p K ((n:Int)+1)) (h2:2<=n) (hz:∀m,0<=m->m <(n:Int)->EP (p 0) (p 1) (p m)=0) {l:Bool} (hl:if l then 0 <EP (p 0) (p 1) (p n) else EP (p 0) (p 1) (p n) <0):HF p ((n:Int)+1) (ID l n):=by
 have sg:=λ {i j:Nat} (hij:i <j) (hj:j <n)=>K3 hr h2 hz hl hij hj
 have ns:=λ {i j:Nat} (hij:i <j) (hj:j <n)=>by
  have h:=K3 hr h2 hz hl hij hj
  have e:EP (p (k7 l n j)) (p (k7 l n i)) (p n)= - EP (p (k7 l n i)) (p (k7 l n j)) (p n):=by simp only [EP];grind
  exact (show EP (p (k7 l n j)) (p (k7 l n i)) (p n) <0 by omega)
 have self:∀i:Int,EP (p i) (p i) (p n)=0:=λ i=>by simp only [EP];grind
 have IF:(ID l n).length=n+1:=Nw
 have DK:∀t,t+1 <n->hE (ID l n) t=(k7 l n t,k7 l n (t+1)):=λ t ht=>by
  unfold hE
  rw [IF,Nat.mod_eq_of_lt (by omega),Nat.mod_eq_of_lt (by omega),IE (by omega),IE (by omega)]
 have DM:hE (ID l n) (n - 1)=(k7 l n (n - 1),(n:Int)):=by
  unfold hE
  rw [IF,Nat.mod_eq_of_lt (by omega),Nat.mod_eq_of_lt (by omega),IE (by omega),show n - 1+1=n by omega,Kh]
 have DN:hE (ID l n) n=((n:Int),k7 l n 0):=by
  unfold hE
  rw [IF,Nat.mod_eq_of_lt (by omega),Nat.mod_self,Kh,IE (by omega)]
 refine ⟨by omega,λ t ht=> ?_,λ i j hi hj hij=> ?_,λ e ho hn=> ?_⟩
 ·rw [IF] at ht
  rcases Nat.lt_or_ge (t+1) n with g|g
  ·rw [DK t g]
   have a:=HA (l:=l) (n:=n) (i:=t) (by omega)
   have b:=HA (l:=l) (n:=n) g
   have hne:k7 l n t≠k7 l n (t+1):=λ z=>by have:=KK (by omega) g z;omega
   refine ⟨Kk ((Jf hr h2 hz _ hne).2 ⟨a,b, ?_⟩) (by have:=sg (show t <t+1 by omega) g;simp only;omega),hne⟩
   cases l<;>simp only [k7,Bool.false_eq_true,if_false,if_true]<;>omega
  ·rcases Nat.lt_or_ge t n with q|q
   ·obtain rfl:t=n - 1:=by omega
    rw [DM]
    have a:=HA (l:=l) (n:=n) q
    have key:∀m:Int,0<=m->m <(n:Int)+1->m≠n->m≠k7 l n (n - 1)->0 <EP (p (k7 l n (n - 1))) (p n) (p m):=λ m m0 m1 h1 h2'=>by
     obtain ⟨j,hj,rfl⟩:=Kg (l:=l) (n:=n) m0 (by omega)
     rw [Ke]
     exact sg (i:=j) (j:=n - 1) (by have:j≠n - 1:=(λ z=>h2' (by rw [z]));omega) (by omega)
    have z1:EP (p (k7 l n (n - 1))) (p n) (p n)=0:=by simp only [EP];grind
    have z2:EP (p (k7 l n (n - 1))) (p n) (p (k7 l n (n - 1)))=0:=by simp only [EP];grind
    refine ⟨⟨a.1,by simp only;omega,by simp only;omega,by simp only;omega,λ m m0 m1=> ?_,λ m m0 m1 z=> ?_⟩,by simp only;omega⟩
    ·simp only
     by_cases c:m=n
     ·subst c;omega
     ·by_cases d:m=k7 l n (n - 1)
      ·subst d;omega
      ·have:=key m m0 m1 c d;omega
    ·simp only at z ⊢
     by_cases c:m=n
     ·omega
     ·by_cases d:m=k7 l n (n - 1)
      ·omega
      ·have:=key m m0 m1 c d;omega
   ·obtain rfl:t=n:=by omega
    rw [DN]
    have a:=HA (l:=l) (n:=t) (i:=0) (by omega)
    have key:∀m:Int,0<=m->m <(t:Int)+1->m≠t->m≠k7 l t 0->0 <EP (p t) (p (k7 l t 0)) (p m):=λ m m0 m1 h1 h2'=>by
     obtain ⟨j,hj,rfl⟩:=Kg (l:=l) (n:=t) m0 (by omega)
     rw [<-Ke]
     exact sg (i:=0) (j:=j) (by have:j≠0:=(λ z=>h2' (by rw [z]));omega) (by omega)
    have z1:EP (p t) (p (k7 l t 0)) (p t)=0:=by simp only [EP];grind
    have z2:EP (p t) (p (k7 l t 0)) (p (k7 l t 0))=0:=by simp only [EP];grind
    refine ⟨⟨by simp only;omega,a.1,by simp only;omega,by simp only;omega,λ m m0 m1=> ?_,λ m m0 m1 z=> ?_⟩,by simp only;omega⟩
    ·simp only
     by_cases c:m=t
     ·subst c;omega
     ·by_cases d:m=k7 l t 0
      ·subst d;omega
      ·have:=key m m0 m1 c d;omega
    ·simp only at z ⊢
     by_cases c:m=t
     ·omega
     ·by_cases d:m=k7 l t 0
      ·omega
      ·have:=key m m0 m1 c d;omega
 ·rw [IF] at hi hj
  rcases Nat.lt_or_ge i n with g|g
  ·rw [IE g] at hij
   have a:=HA (l:=l) g
   rcases Nat.lt_or_ge j n with q|q
   ·rw [IE q] at hij;exact KK g q hij
   ·obtain rfl:j=n:=by omega
    rw [Kh] at hij;omega
  ·obtain rfl:i=n:=by omega
   rw [Kh] at hij
   rcases Nat.lt_or_ge j i with q|q
   ·rw [IE q] at hij;have a:=HA (l:=l) q;omega
   ·omega
 ·rw [IF]
  have u1:=ho.u1;have u2:=ho.u2;have l1:=ho.l1;have l2:=ho.l2
  obtain ⟨x,y⟩:=e
  simp only at u1 u2 l1 l2 hn
  rcases Int.lt_or_eq_of_le (show y<=n by omega) with g2|g2
  ·obtain ⟨b,hb,eb⟩:=Kg (l:=l) l2 g2
   rcases Int.lt_or_eq_of_le (show x<=n by omega) with g1|g1
   ·obtain ⟨o1,o2⟩:=Jg ho g1 g2
    obtain ⟨_,_,Rc⟩:=(Jf hr h2 hz (x,y) hn).1 o1
    obtain ⟨a,ha,ea⟩:=Kg (l:=l) l1 g1
    simp only at o2 Rc
    have hab:a <b:=by
     rcases Nat.lt_trichotomy a b with q|q|q
     ·exact q
     ·subst q;omega
     ·have:=ns q ha;rw [ea,eb] at this;omega
    have:b=a+1:=by
     cases l<;>simp only [k7,Bool.false_eq_true,if_false,if_true] at ea eb<;>omega
    subst this
    exact ⟨a,by omega,by rw [DK a hb,ea,eb]⟩
   ·refine ⟨n,by omega, ?_⟩
    rw [DN]
    have l:=ho.left (k7 l n 0) (HA (by omega)).1 (by have:=(HA (l:=l) (n:=n) (i:=0) (by omega)).2;omega)
    simp only at l
    rw [g1, <-Ke, <-eb] at l
    have:b=0:=by
     rcases Nat.eq_zero_or_pos b with q|q
     ·exact q
     ·have:=ns q hb;omega
    subst this
    rw [g1,eb]
  ·refine ⟨n - 1,by omega, ?_⟩
   rw [DM]
   obtain ⟨a,ha,ea⟩:=Kg (l:=l) l1 (by omega:x <n)
   have l:=ho.left (k7 l n (n - 1)) (HA (by omega)).1 (by have:=(HA (l:=l) (n:=n) (i:=n - 1) (by omega)).2;omega)
   simp only at l
   rw [g2,Ke, <-ea] at l
   have:a=n - 1:=by
    rcases Nat.lt_or_ge a (n - 1) with q|q
    ·have:=ns q (by omega);omega
    ·omega
   subst this
   rw [g2,ea]
theorem Rh (hK:0 <K) (hr:E2 p K ((n:Int)+1)) (h2:2<=n) (hz:∀m,0<=m->m <(n:Int)->EP (p 0) (p 1) (p m)=0) {l:Bool} (hl:if l then 0 <EP (p 0) (p 1) (p n) else EP (p 0) (p 1) (p n) <0):
 Fm p K ((n:Int)+1) (((List.range (n - 1)).map λ i=>(k7 l n (i+1),k7 l n i)).map (GG n)):=by
 have sg:=λ {i j:Nat} (hij:i <j) (hj:j <n)=>K3 hr h2 hz hl hij hj
 have ns:=λ {i j:Nat} (hij:i <j) (hj:j <n)=>by
  have h:=K3 hr h2 hz hl hij hj
  have e:EP (p (k7 l n j)) (p (k7 l n i)) (p n)= - EP (p (k7 l n i)) (p (k7 l n j)) (p n):=by simp only [EP];grind
  exact (show EP (p (k7 l n j)) (p (k7 l n i)) (p n) <0 by omega)
 refine Vb hK hr (by omega) hz ?_ ?_ λ e=> ?_
 ·cases l
  ·simp only [Bool.false_eq_true,if_false] at hl;omega
  ·simp only [if_true] at hl;omega
 ·rw [List.Nodup,List.pairwise_map]
  refine List.Pairwise.imp_of_mem (λ {a b} ha hb hab z=>hab ?_) List.nodup_range
  have ha:=List.mem_range.1 ha
  have hb:=List.mem_range.1 hb
  exact KK (by omega) (by omega) (congrArg Prod.snd z)
 ·rw [List.mem_map]
  constructor
  ·rintro ⟨t,ht,rfl⟩
   have ht:=List.mem_range.1 ht
   have a:=HA (l:=l) (n:=n) (i:=t) (by omega)
   have b:=HA (l:=l) (n:=n) (i:=t+1) (by omega)
   have hne:k7 l n (t+1)≠k7 l n t:=λ z=>by have:=KK (by omega) (by omega) z;omega
   refine ⟨(Jf hr h2 hz _ hne).2 ⟨b,a, ?_⟩,hne,ns (Nat.lt_succ_self t) (by omega)⟩
   cases l<;>simp only [k7,Bool.false_eq_true,if_false,if_true]<;>omega
  ·rintro ⟨o,hn,hc⟩
   obtain ⟨a,b,Rc⟩:=(Jf hr h2 hz e hn).1 o
   obtain ⟨x,y⟩:=e
   simp only at a b Rc hc hn
   obtain ⟨i,hi,ei⟩:=Kg (l:=l) a.1 a.2
   obtain ⟨j,hj,D3⟩:=Kg (l:=l) b.1 b.2
   have hij:j <i:=by
    rcases Nat.lt_trichotomy i j with q|q|q
    ·have:=sg q hj;rw [ei,D3] at this;omega
    ·subst q;omega
    ·exact q
   have:i=j+1:=by
    cases l<;>simp only [k7,Bool.false_eq_true,if_false,if_true] at ei D3<;>omega
   subst this
   exact ⟨j,List.mem_range.2 (by omega),by rw [ei,D3]⟩
end
end Go.Proofs.YtollcjadobpfdaaGreat.Rw
namespace Go.Proofs.YtollcjadobpfdaaGreat.Rw
open Go.Rx
theorem OU {P R:List Int} {a:Int} {i:Nat} (h:i=P.length):(P++a::R).getD i 0=a:=by
 subst h;rw [List.getD_eq_getElem?_getD,List.getElem?_append_right (Nat.le_refl _)];simp
theorem OV {P R:List Int} {a b:Int} {i:Nat} (h:i=P.length):(P++a::R).set i b=P++b::R:=by
 subst h;rw [List.set_append_right _ _ (Nat.le_refl _)];simp
theorem O3 {k:Nat}:∀(n:Nat) (m P Q:List Int),m.length <n->P.length=Q.length->(P++m++Q).length<=1000000->
 f160.l0 k n (P++m++Q) (P.length:Int) ((P.length:Int)+(m.length:Int) - 1)=some ((P++m.reverse++Q,()),())
 | 0,m,P,Q,hn,hq,hl=>by omega
 |n+1,[],P,Q,hn,hq,hl=>by
  rw [f160.l0,f160.E0,if_neg (by simp;omega)];simp
 |n+1,a::t,P,Q,hn,hq,hl=>by
  rcases List.eq_nil_or_concat t with rfl|⟨m',b,rfl⟩
  ·rw [f160.l0,f160.E0,if_neg (by simp)];simp
  ·rw [List.concat_eq_append] at *
   have hlen:(P++(a::(m'++[b]))++Q).length=P.length+(m'.length+2)+Q.length:=by simp;omega
   have gh:((a::(m'++[b])).length:Int)=(m'.length:Int)+2:=by simp;omega
   rw [hlen] at hl
   have e3:((P.length:Int)+((a::(m'++[b])).length:Int) - 1)=((P.length+m'.length+1:Nat):Int):=by rw [gh];omega
   have e0:P++(a::(m'++[b]))++Q=P++a::(m'++b::Q):=by simp
   have g3:(P++(a::(m'++[b]))++Q).getD ((P.length+m'.length+1:Nat):Int).toNat 0=b:=by
    rw [show P++(a::(m'++[b]))++Q=(P++a::m')++b::Q by simp];exact OU (by simp;omega)
   have g2:(P++(a::(m'++[b]))++Q).getD ((P.length:Int)).toNat 0=a:=by
    rw [e0];exact OU (by omega)
   have hs:((P++(a::(m'++[b]))++Q).set ((P.length:Int)).toNat b).set ((P.length+m'.length+1:Nat):Int).toNat a=(P++[b])++m'++(a::Q):=by
    rw [e0,OV (by omega),show P++b::(m'++b::Q)=(P++b::m')++b::Q by simp,OV (by simp;omega)];simp
   have ih:=O3 (k:=k) n m' (P++[b]) (a::Q) (by simp at hn;omega) (by simp;omega) (by simp at hl ⊢; omega)
   rw [f160.l0,f160.E0,e3,if_pos (by omega),if_pos (by omega),if_pos (by rw [hlen];omega),if_pos (by omega),if_pos (by rw [hlen];omega),if_pos (by omega),if_pos (by rw [hlen];omega),if_pos (by omega),if_pos (by rw [List.length_set,hlen];omega),g3,g2,hs,CV (by omega) (by omega),CV (by omega) (by omega)]
   have e4:(P.length:Int)+1=((P++[b]).length:Int):=by simp
   have e5:((P.length+m'.length+1:Nat):Int) - 1=((P++[b]).length:Int)+(m'.length:Int) - 1:=by simp;omega
   rw [e4,e5,ih]
   simp
theorem Px {k:Nat} {l:List Int} (h:l.length <k) (hl:l.length<=1000000):f160 k l=some ((l.reverse,()),()):=by
 have:=O3 (k:=k) k l [] [] h rfl (by simpa using hl)
 simp only [f160,f160.ES]
 rw [CV (by omega) (by omega)]
 simpa using this
def Ff (c:ET):ET:=if c.1<=c.2.1/\c.1<=c.2.2 then c else if c.2.1<=c.2.2/\c.2.1<=c.1 then (c.2.1,c.2.2,c.1) else (c.2.2,c.1,c.2.1)
theorem N4 {k:Int} {e:Int×Int} (h1:e.1 <k) (h2:e.2 <k) (hn:e.1≠e.2):Ff (e.2,(e.1,k))=GG k e:=by
 unfold Ff GG
 rcases Int.lt_or_gt_of_ne hn with g|g
 ·rw [if_neg (by simp only;omega),if_pos (by simp only;omega),if_pos g]
 ·rw [if_pos (by simp only;omega),if_neg (by omega)]
section
variable {ps:List (Int×Int)}
theorem SQ {k:Nat} (ho:∀x∈ps,FJ x) (a b c:Int):f99 k ((ps.getD a.toNat (0,0)).1,(ps.getD a.toNat (0,0)).2) ((ps.getD b.toNat (0,0)).1,(ps.getD b.toNat (0,0)).2) ((ps.getD c.toNat (0,0)).1,(ps.getD c.toNat (0,0)).2)=some (sg (EP (EZ ps a) (EZ ps b) (EZ ps c)),()):=
 M8 (G9 ho a) (G9 ho b) (G9 ho c)
theorem Qr {x:Int}:sg x=0↔x=0:=by
 unfold sg;repeat' split
 all_goals omega
theorem Qs {x:Int}:0 <sg x↔0 <x:=by
 unfold sg;repeat' split
 all_goals omega
theorem Oh (ho:∀x∈ps,FJ x) (hl:ps.length<=200) (hr:E2 (EZ ps) 2097153 ps.length):∀(d q:Nat) (out:List ET) (EY:List Int),q+d=ps.length->2<=q->HF (EZ ps) q EY->EY.length<=q->Fm (EZ ps) 2097153 q (out.map Ff)->out≠[]->out.length<=300 * q->
 ∃out',(∀k n,1000<=k->d <n->f114.wv k n out ps EY (q:Int)=some (out',()))/\out'≠[]/\out'.length<=60000/\Fm (EZ ps) 2097153 ps.length (out'.map Ff)
 | 0,q,out,EY,hd,h2,H,hh,oy,hne,hlen=>by
   refine ⟨out,λ k n hk hn=> ?_,hne,by omega, ?_⟩
   ·obtain ⟨n,rfl⟩:∃j,n=j+1:=⟨n - 1,by omega⟩
    rw [f114.wv,f114.HX,if_neg (by omega)]
   ·rw [show ps.length=q by omega];exact oy
 |d+1,q,out,EY,hd,h2,H,hh,oy,hne,hlen=>by
  have Vl:E2 (EZ ps) 2097153 ((q:Int)+1):=λ i j h0 h1 h2=>hr i j h0 h1 (by omega)
  obtain ⟨f,c,f1,c0,c1,v1,v2,v3,v4,H',TS⟩:=H.step oy (by simpa using hne) Vl (by omega)
  have lh:∀i,i <EY.length->hE EY i=(EY.getD i 0,EY.getD ((i+1) % EY.length) 0):=λ i hi=>by unfold hE;rw [Nat.mod_eq_of_lt hi]
  have hv:=λ (k:Nat) (hk:1000<=k)=>PS (vis:=GN (EZ ps) q EY) (q:=q) hk ho hl (λ x hx=>by
   obtain ⟨i,hi,rfl⟩:=List.mem_iff_getElem.1 hx
   have:=H.mem hi
   rw [List.getD_eq_getElem?_getD,List.getElem?_eq_getElem hi] at this
   simp only [Option.getD_some] at this
   omega) (by omega) (by omega) (by omega) (λ i hi=>by unfold GN;rw [lh i hi]) (out:=out) (by omega) (first:=f) (cnt:=c) (c2:=EY.length - c) f1 (by omega) (by omega) v4 v1 c0 v2 v3 (by rw [show f+c+(EY.length - c)=f+EY.length by omega,Nat.add_mod_right,Nat.mod_eq_of_lt f1]) (λ t ht z=>by
    have:=K4 (m:=EY.length) (f:=f) (a:=c+t) (b:=0) (by omega) (by omega) (by rw [<-Nat.add_assoc,z,Nat.add_zero,Nat.mod_eq_of_lt f1])
    omega)
  have hN:(((List.range (EY.length - c+1)).map λ t=>EY.getD ((f+c+t) % EY.length) 0)++[(q:Int)])=Gs EY f c q:=rfl
  have hmap:(out++(List.range c).map λ t=>(EY.getD ((f+t+1) % EY.length) 0,(EY.getD ((f+t) % EY.length) 0,(q:Int)))).map Ff=out.map Ff++((List.range c).map λ t=>hE EY (f+t)).map (GG q):=by
   rw [List.map_append,List.map_map,List.map_map]
   congr 1
   refine List.map_congr_left λ t _=> ?_
   have:=H.any (f+t)
   have u1:=this.1.u1;have u2:=this.1.u2
   exact N4 (e:=hE EY (f+t)) u1 u2 this.2
  simp only [hN] at hv
  rw [<-hmap] at TS
  obtain ⟨out',e1,e2⟩:=Oh ho hl hr d (q+1) _ (Gs EY f c q) (by omega) (by omega) (by rw [show ((q+1:Nat):Int)=(q:Int)+1 by omega];exact H') (by rw [MN];omega) (by rw [show ((q+1:Nat):Int)=(q:Int)+1 by omega];exact TS) (by simp [hne]) (by simp;omega)
  refine ⟨out',λ k n hk hn=> ?_,e2⟩
  obtain ⟨n,rfl⟩:∃j,n=j+1:=⟨n - 1,by omega⟩
  rw [f114.wv,f114.HX,if_pos (by omega),hv k hk,Option.bind_some,CV (by omega) (by omega),show (q:Int)+1=((q+1:Nat):Int) by omega]
  exact e1 k n hk (by omega)
theorem Og {k:Nat} {l:Bool} {N:Nat} (hN:N<=200) (h2:2<=N):∀(d i n:Nat),i+d=N - 1->d <n->
 f114.l4 k n ((List.range N).map (k7 l N)) ((List.range i).map λ t=>(k7 l N t,(k7 l N (t+1),(N:Int)))) ps (N:Int) (i:Int)=f114.wv k k ((List.range (N - 1)).map λ t=>(k7 l N t,(k7 l N (t+1),(N:Int)))) ps (ID l N) ((N+1:Nat):Int)
 |d,i,0,hd,hn=>by omega
 | 0,i,n+1,hd,hn=>by
   obtain rfl:i=N - 1:=by omega
   rw [f114.l4,f114.Hj,CV (by omega) (by omega),if_neg (by omega),if_pos (by simp;omega),CV (by omega) (by omega)]
   rfl
 |d+1,i,n+1,hd,hn=>by
  have g:∀j,j <N->((List.range N).map (k7 l N)).getD j 0=k7 l N j:=λ j hj=>by
   rw [List.getD_eq_getElem?_getD,List.getElem?_map,List.getElem?_range hj];rfl
  have ih:=Og (k:=k) (l:=l) hN h2 d (i+1) n (by omega) (by omega)
  rw [List.range_succ,List.map_append] at ih
  rw [f114.l4,f114.Hj,CV (by omega) (by omega),if_pos (by omega),if_pos (by omega),if_pos (by simp;omega),if_pos (by omega),if_pos (by simp;omega),if_pos (by simp;omega),Int.toNat_natCast,g i (by omega),show (i:Int)+1=((i+1:Nat):Int) by omega,Int.toNat_natCast,g (i+1) (by omega)]
  exact ih
theorem Of {k:Nat} (hk:1000<=k) {l:Bool} {N:Nat} (hN:N<=200):∀(d i n:Nat),i+d=N->d <n->
 f114.l2 k n ((List.range i).map Int.ofNat) ps (N:Int) (i:Int) l=f114.R7 k ((List.range N).map (k7 l N)) ps (N:Int)
 |d,i,0,hd,hn=>by omega
 | 0,i,n+1,hd,hn=>by
   obtain rfl:i=N:=by omega
   rw [f114.l2,f114.FG,if_neg (by omega)]
   cases l
   ·rw [if_pos (by simp),Px (by simp;omega) (by simp;omega),Option.bind_some]
    congr 1
    refine List.ext_getElem (by simp) λ j h1 h2=> ?_
    have hj:j <i:=by simpa using h2
    rw [List.getElem_reverse]
    simp only [List.getElem_map,List.getElem_range,List.length_map,List.length_range,k7,Bool.false_eq_true,if_false,Int.ofNat_eq_natCast]
    omega
   ·rw [if_neg (by simp)]
    congr 1
 |d+1,i,n+1,hd,hn=>by
  have ih:=Of hk (l:=l) hN d (i+1) n (by omega) (by omega)
  rw [List.range_succ,List.map_append] at ih
  rw [f114.l2,f114.FG,if_pos (by omega),if_pos (by simp;omega),CV (by omega) (by omega),Bool.decide_eq_true,show (i:Int)+1=((i+1:Nat):Int) by omega]
  exact ih
theorem Oe (ho:∀x∈ps,FJ x) (hl:ps.length<=200) (hr:E2 (EZ ps) 2097153 ps.length):∀(d i:Nat),i+d=ps.length->2<=i->(∀m:Int,0<=m->m <i->EP (EZ ps 0) (EZ ps 1) (EZ ps m)=0)->
 ∃out,(∀k n,1000<=k->d <n->f114.l0 k n ps (i:Int)=some (out,()))/\out.length<=60000/\(out≠[]->Fm (EZ ps) 2097153 ps.length (out.map Ff))/\(out=[]->∀m:Int,0<=m->m <ps.length->EP (EZ ps 0) (EZ ps 1) (EZ ps m)=0)
 | 0,i,hd,h2,hz=>by
   refine ⟨[],λ k n hk hn=> ?_,by simp,λ z=>absurd rfl z,λ _ m m0 m1=>hz m m0 (by omega)⟩
   obtain ⟨n,rfl⟩:∃j,n=j+1:=⟨n - 1,by omega⟩
   rw [f114.l0,f114.E0,if_neg (by omega),f114.r3,f114.JB,if_neg (by simp),if_pos (by omega)]
 |d+1,i,hd,h2,hz=>by
  have ht:=λ k=>SQ (k:=k) ho 0 1 (i:Int)
  have wo:∀k n,f114.l0 k (n+1) ps (i:Int)=f114.r3 k (f114.l0 k n) ps (decide (sg (EP (EZ ps 0) (EZ ps 1) (EZ ps i))=0)) (i:Int):=λ k n=>by
   rw [f114.l0,f114.E0,if_pos (by omega),if_pos (by omega),if_pos (by omega),if_pos (by omega),if_pos (by omega),ht k,Option.bind_some]
  by_cases c:EP (EZ ps 0) (EZ ps 1) (EZ ps i)=0
  ·obtain ⟨out,e1,e2⟩:=Oe ho hl hr d (i+1) (by omega) (by omega) λ m m0 m1=>by
    rcases Int.lt_or_eq_of_le (show m<=i by omega) with g|g
    ·exact hz m m0 g
    ·subst g;exact c
   refine ⟨out,λ k n hk hn=> ?_,e2⟩
   obtain ⟨n,rfl⟩:∃j,n=j+1:=⟨n - 1,by omega⟩
   rw [wo k n,f114.r3,f114.JB,if_pos (by simpa using Qr.2 c),CV (by omega) (by omega),show (i:Int)+1=((i+1:Nat):Int) by omega]
   exact e1 k n hk (by omega)
  ·generalize hL:decide (0 <(sg (EP (EZ ps 0) (EZ ps 1) (EZ ps i)),()).1)=l
   have hs:if l then 0 <EP (EZ ps 0) (EZ ps 1) (EZ ps (i:Int)) else EP (EZ ps 0) (EZ ps 1) (EZ ps (i:Int)) <0:=by
    cases l
    ·have:=of_decide_eq_false hL
     have: ¬0 <EP (EZ ps 0) (EZ ps 1) (EZ ps (i:Int)):=λ z=>this (Qs.2 z)
     simp only [Bool.false_eq_true,if_false];omega
    ·exact Qs.1 (of_decide_eq_true hL)
   have Bk:E2 (EZ ps) 2097153 ((i:Int)+1):=λ a b h0 h1 h2=>hr a b h0 h1 (by omega)
   have hm:=Rh (by omega) Bk h2 hz hs
   have hmap:((List.range (i - 1)).map λ t=>(k7 l i t,(k7 l i (t+1),(i:Int)))).map Ff=((List.range (i - 1)).map λ t=>(k7 l i (t+1),k7 l i t)).map (GG i):=by
    rw [List.map_map,List.map_map]
    refine List.map_congr_left λ t ht=> ?_
    have ht:=List.mem_range.1 ht
    have a:=HA (l:=l) (n:=i) (i:=t) (by omega)
    have b:=HA (l:=l) (n:=i) (i:=t+1) (by omega)
    exact N4 (e:=(k7 l i (t+1),k7 l i t)) b.2 a.2 λ z=>by have:=KK (by omega) (by omega) z;omega
   rw [<-hmap] at hm
   obtain ⟨out,e1,e2,e3,e4⟩:=Oh ho hl hr d (i+1) ((List.range (i - 1)).map λ t=>(k7 l i t,(k7 l i (t+1),(i:Int)))) (ID l i) (by omega) (by omega) (by rw [show ((i+1:Nat):Int)=(i:Int)+1 by omega];exact Rg Bk h2 hz hs) (by rw [Nw];omega) (by rw [show ((i+1:Nat):Int)=(i:Int)+1 by omega];exact hm) (by
    intro z
    have:=congrArg List.length z
    simp at this;omega) (by simp;omega)
   refine ⟨out,λ k n hk hn=> ?_,e3,λ _=>e4,λ z=>absurd z e2⟩
   obtain ⟨n,rfl⟩:∃j,n=j+1:=⟨n - 1,by omega⟩
   have l2:=Of (k:=k) (ps:=ps) hk (l:=l) (N:=i) (by omega) i 0 k (by omega) (by omega)
   have l4:=Og (k:=k) (ps:=ps) (l:=l) (N:=i) (by omega) h2 (i - 1) 0 k (by omega) (by omega)
   rw [wo k n,f114.r3,f114.JB,if_neg (by simpa using λ z=>c (Qr.1 z)),if_neg (by omega),if_pos (by omega),if_pos (by omega),if_pos (by omega),if_pos (by omega),ht k,Option.bind_some,hL]
   refine Eq.trans l2 ?_
   rw [f114.R7,f114.M1]
   exact l4.trans (e1 k k hk (by omega))
theorem Od (ho:∀x∈ps,FJ x) (hl:ps.length<=200) (h2:2<=ps.length) (hr:E2 (EZ ps) 2097153 ps.length):
 ∃out,(∀k,1000<=k->f114 k ps=some (out,()))/\out.length<=60000/\(out≠[]->Fm (EZ ps) 2097153 ps.length (out.map Ff))/\(out=[]->∀m:Int,0<=m->m <ps.length->EP (EZ ps 0) (EZ ps 1) (EZ ps m)=0):=by
 obtain ⟨out,e1,e2⟩:=Oe ho hl hr (ps.length - 2) 2 (by omega) (by omega) λ m m0 m1=>by
  rcases (show m=0\/m=1 by omega) with rfl|rfl
  ·exact (E3 _ _).1
  ·exact (E3 _ _).2
 refine ⟨out,λ k hk=> ?_,e2⟩
 simp only [f114,f114.ES]
 exact e1 k k hk (by omega)
end
end Go.Proofs.YtollcjadobpfdaaGreat.Rw
