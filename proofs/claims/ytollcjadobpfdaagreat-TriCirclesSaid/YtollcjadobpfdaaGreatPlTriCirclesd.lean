/- Plain laws for TriCircles. No condition. -/
import Derived.Test.YtollcjadobpfdaaGreatPlTriCirclesc
set_option linter.unusedVariables false
set_option linter.unusedSimpArgs false
set_option linter.unusedSectionVars false
namespace Go.Proofs.YtollcjadobpfdaaGreat.Rw
def Fu (c:ET):List ((Int×Int)×Int):=[((c.1,c.2.1),c.2.2),((c.2.1,c.2.2),c.1),((c.2.2,c.1),c.2.1)]
def Fo (cs:List ET):List ((Int×Int)×Int):=cs.flatMap Fu
theorem GA {a b x:Int} {t:ET}:((a,b),x)∈Fu t↔t=(a,(b,x))\/t=(x,(a,b))\/t=(b,(x,a)):=by
 obtain ⟨u,v,w⟩:=t
 simp only [Fu,List.mem_cons,List.not_mem_nil,or_false,Prod.mk.injEq]
 omega
theorem H8 (t:ET):Ff t=t\/Ff t=(t.2.1,(t.2.2,t.1))\/Ff t=(t.2.2,(t.1,t.2.1)):=by
 unfold Ff;repeat' split
 ·exact .inl rfl
 ·exact .inr (.inl rfl)
 ·exact .inr (.inr rfl)
theorem Gf {x:(Int×Int)×Int} (t:ET):x∈Fu (Ff t)↔x∈Fu t:=by
 obtain ⟨⟨a,b⟩,c⟩:=x
 obtain ⟨u,v,w⟩:=t
 rw [GA,GA]
 rcases H8 (u,(v,w)) with h|h|h<;>rw [h]<;>simp only [Prod.mk.injEq]<;>omega
theorem Gl {cs:List ET} {e:Int×Int}:e∈EX cs↔∃x,(e,x)∈Fo cs:=by
 unfold EX Fo
 simp only [List.mem_flatMap]
 constructor
 ·rintro ⟨t,ht,h⟩
  simp only [EU,List.mem_cons,List.not_mem_nil,or_false] at h
  rcases h with rfl|rfl|rfl
  ·exact ⟨t.2.2,t,ht,by simp [Fu]⟩
  ·exact ⟨t.1,t,ht,by simp [Fu]⟩
  ·exact ⟨t.2.1,t,ht,by simp [Fu]⟩
 ·rintro ⟨x,t,ht,h⟩
  refine ⟨t,ht, ?_⟩
  simp only [Fu,List.mem_cons,List.not_mem_nil,or_false,Prod.mk.injEq] at h
  simp only [EU,List.mem_cons,List.not_mem_nil,or_false]
  rcases h with h|h|h
  ·exact .inl h.1
  ·exact .inr (.inl h.1)
  ·exact .inr (.inr h.1)
theorem Gq {e:Int×Int} {x:Int} {t:ET} (h:(e,x)∈Fu t):e∈EU t:=by
 simp only [Fu,List.mem_cons,List.not_mem_nil,or_false,Prod.mk.injEq] at h
 simp only [EU,List.mem_cons,List.not_mem_nil,or_false]
 rcases h with h|h|h
 ·exact .inl h.1
 ·exact .inr (.inl h.1)
 ·exact .inr (.inr h.1)
theorem IC:∀{cs:List ET} {t u:ET} {e:Int×Int},(EX cs).Nodup->t∈cs->u∈cs->e∈EU t->e∈EU u->t=u
 |c::cs,t,u,e,hn,ht,hu,h1,h2=>by
  have hn:(EU c++EX cs).Nodup:=hn
  obtain ⟨n1,n2,n3⟩:=List.nodup_append.1 hn
  rcases List.mem_cons.1 ht with rfl|kt
  ·rcases List.mem_cons.1 hu with rfl|D5
   ·rfl
   ·exact absurd rfl (n3 e h1 e (List.mem_flatMap.2 ⟨u,D5,h2⟩))
  ·rcases List.mem_cons.1 hu with rfl|D5
   ·exact absurd rfl (n3 e h2 e (List.mem_flatMap.2 ⟨t,kt,h1⟩))
   ·exact IC n2 kt D5 h1 h2
theorem LJ (q:ET->Bool):∀{cs:List ET},(EX cs).Nodup->(EX (cs.filter q)).Nodup
 | [],h=>h
 |c::cs,h=>by
  have h:(EU c++EX cs).Nodup:=h
  obtain ⟨n1,n2,n3⟩:=List.nodup_append.1 h
  have ih:=LJ q n2
  rw [List.filter_cons]
  split
  ·show (EU c++EX (cs.filter q)).Nodup
   refine List.nodup_append.2 ⟨n1,ih,λ x hx y hy=>n3 x hx y ?_⟩
   obtain ⟨t,ht,h⟩:=List.mem_flatMap.1 hy
   exact List.mem_flatMap.2 ⟨t,(List.mem_filter.1 ht).1,h⟩
  ·exact ih
section
variable {p:Int->Int×Int} {K n:Int} {cs:List ET} {a b c d:Int}
theorem FV (h:Fm p K n cs) {x:Int} (hx:((a,b),x)∈Fo cs):Ff (a,(b,x))∈cs/\(0<=a/\a <n)/\(0<=b/\b <n)/\(0<=x/\x <n)/\0 <EP (p a) (p b) (p x):=by
 obtain ⟨t,ht,h1⟩:=List.mem_flatMap.1 hx
 obtain ⟨lo,hb,hd,sv,q8,FY⟩:=h.cell t ht
 have c1:EP (p x) (p a) (p b)=EP (p a) (p b) (p x):=by simp only [EP];grind
 have c2:EP (p b) (p x) (p a)=EP (p a) (p b) (p x):=by simp only [EP];grind
 rcases GA.1 h1 with rfl|rfl|rfl<;>simp only at lo hb hd sv q8 FY
 ·exact ⟨by rw [show Ff (a,(b,x))=(a,(b,x)) by unfold Ff;rw [if_pos (by simp only;omega)]];exact ht,⟨by omega,by omega⟩,⟨by omega,by omega⟩,⟨by omega,by omega⟩,FY⟩
 ·exact ⟨by rw [show Ff (a,(b,x))=(x,(a,b)) by unfold Ff;rw [if_neg (by simp only;omega),if_neg (by simp only;omega)]];exact ht,⟨by omega,by omega⟩,⟨by omega,by omega⟩,⟨by omega,by omega⟩,by omega⟩
 ·exact ⟨by rw [show Ff (a,(b,x))=(b,(x,a)) by unfold Ff;rw [if_neg (by simp only;omega),if_pos (by simp only;omega)]];exact ht,⟨by omega,by omega⟩,⟨by omega,by omega⟩,⟨by omega,by omega⟩,by omega⟩
theorem IB (h:Fm p K n cs) {e:Int×Int} {x y:Int} (hx:(e,x)∈Fo cs) (hy:(e,y)∈Fo cs):x=y:=by
 obtain ⟨t,ht,h1⟩:=List.mem_flatMap.1 hx
 obtain ⟨u,hu,h2⟩:=List.mem_flatMap.1 hy
 obtain rfl:=IC h.HM ht hu (Gq h1) (Gq h2)
 obtain ⟨lo,hb,hd,sv,q8,FY⟩:=h.cell t ht
 obtain ⟨e1,e2⟩:=e
 rw [GA] at h1 h2
 obtain ⟨u,v,w⟩:=t
 simp only [Prod.mk.injEq] at h1 h2
 simp only at lo hb hd sv q8 FY
 have:v≠w:=λ z=>by subst z;have:=E3 (p u) (p v);omega
 omega
theorem L7 {a b x c d y:Int} {t f:ET} (h1:((a,b),x)∈Fu t) (h2:((c,d),y)∈Fu f) (h:GW p t f):∃e:Int×Int,(e=(a,b)\/e=(b,x)\/e=(x,a))/\EP (p e.1) (p e.2) (p c)<=0/\EP (p e.1) (p e.2) (p d)<=0/\EP (p e.1) (p e.2) (p y)<=0:=by
 obtain ⟨e,he,g1,g2,g3⟩:=h
 refine ⟨e, ?_, ?_⟩
 ·simp only [EU,List.mem_cons,List.not_mem_nil,or_false] at he
  rcases GA.1 h1 with rfl|rfl|rfl<;>simp only at he
  ·exact he
  ·rcases he with h|h|h
   ·exact .inr (.inr h)
   ·exact .inl h
   ·exact .inr (.inl h)
  ·rcases he with h|h|h
   ·exact .inr (.inl h)
   ·exact .inr (.inr h)
   ·exact .inl h
 ·rcases GA.1 h2 with rfl|rfl|rfl<;>simp only at g1 g2 g3
  ·exact ⟨g1,g2,g3⟩
  ·exact ⟨g2,g3,g1⟩
  ·exact ⟨g3,g1,g2⟩
theorem Jl (h:Fm p K n cs) (h1:((a,b),c)∈Fo cs) (v1:0 <EP (p a) (p d) (p c)) (v2:0 <EP (p b) (p c) (p d)):(c,d)∉EX cs:=by
 intro hcd
 obtain ⟨x,hx⟩:=Gl.1 hcd
 obtain ⟨t,ht,h1⟩:=List.mem_flatMap.1 h1
 obtain ⟨f,hf,hx⟩:=List.mem_flatMap.1 hx
 have FY:0 <EP (p a) (p b) (p c):=(FV h (List.mem_flatMap.2 ⟨t,ht,h1⟩)).2.2.2.2
 have U8:0 <EP (p c) (p d) (p x):=(FV h (List.mem_flatMap.2 ⟨f,hf,hx⟩)).2.2.2.2
 have dc:d≠c:=λ z=>by subst z;have:=E3 (p a) (p d);omega
 have da:d≠a:=λ z=>by subst z;have:EP (p d) (p d) (p c)=0:=by { simp only [EP];grind };omega
 have db:d≠b:=λ z=>by subst z;have:=E3 (p d) (p c);omega
 have hne:t≠f:=λ z=>by
  subst z
  rcases GA.1 h1 with rfl|rfl|rfl<;>rw [GA] at hx<;>simp only [Prod.mk.injEq] at hx<;>omega
 rcases h.Qj ht hf hne with g|g
 ·obtain ⟨e,he,g1,g2,g3⟩:=L7 h1 hx g
  rcases he with rfl|rfl|rfl<;>simp only at g1 g2 g3
  ·omega
  ·omega
  ·have:EP (p c) (p a) (p d)=EP (p a) (p d) (p c):=by simp only [EP];grind
   omega
 ·obtain ⟨e,he,g1,g2,g3⟩:=L7 hx h1 g
  rcases he with rfl|rfl|rfl<;>simp only at g1 g2 g3
  ·have:EP (p c) (p d) (p b)=EP (p b) (p c) (p d):=by simp only [EP];grind
   omega
  ·have:EP (p d) (p x) (p c)=EP (p c) (p d) (p x):=by simp only [EP];grind
   omega
  ·have hid:EP (p a) (p b) (p c) * EP (p c) (p d) (p x)=EP (p b) (p c) (p d) * EP (p x) (p c) (p a)+EP (p a) (p d) (p c) * EP (p x) (p c) (p b):=by simp only [EP];grind
   have m1:=Int.mul_pos FY U8
   have m2:=Int.mul_nonneg (Int.le_of_lt v2) (show 0<= - EP (p x) (p c) (p a) by omega)
   have m3:=Int.mul_nonneg (Int.le_of_lt v1) (show 0<= - EP (p x) (p c) (p b) by omega)
   rw [Int.mul_neg] at m2 m3
   omega
theorem O0 {x y z:Int} (hx:0<=x/\x <n) (hy:0<=y/\y <n) (hz:0<=z/\z <n) (FY:0 <EP (p x) (p y) (p z)):FX p n (Ff (x,(y,z))):=by
 have EK:x≠y:=λ q=>by subst q;have:EP (p x) (p x) (p z)=0:=by { simp only [EP];grind };omega
 have EM:y≠z:=λ q=>by subst q;have:=E3 (p x) (p y);omega
 have EL:x≠z:=λ q=>by subst q;have:=E3 (p x) (p y);omega
 have c1:EP (p z) (p x) (p y)=EP (p x) (p y) (p z):=by simp only [EP];grind
 have c2:EP (p y) (p z) (p x)=EP (p x) (p y) (p z):=by simp only [EP];grind
 unfold Ff
 split
 ·rename_i g;simp only at g;exact ⟨by simp only;omega,by simp only;omega,by simp only;omega,by simp only;omega,by simp only;omega,by simp only;omega⟩
 ·split
  ·rename_i g1 g;simp only at g g1;exact ⟨by simp only;omega,by simp only;omega,by simp only;omega,by simp only;omega,by simp only;omega,by simp only;omega⟩
  ·rename_i g1 g;simp only at g g1;exact ⟨by simp only;omega,by simp only;omega,by simp only;omega,by simp only;omega,by simp only;omega,by simp only;omega⟩
def GP (cs:List ET) (a b c d:Int):List ET:=(cs.filter λ t=>decide (t≠Ff (a,(b,c))/\t≠Ff (b,(a,d))))++[Ff (a,(d,c)),Ff (b,(c,d))]
theorem GB (h:Fm p K n cs) (h1:((a,b),c)∈Fo cs) (h2:((b,a),d)∈Fo cs) {e:Int×Int} {x:Int}:(e,x)∈Fo (GP cs a b c d)↔
 ((e,x)∈Fo cs/\e≠(a,b)/\e≠(b,c)/\e≠(c,a)/\e≠(b,a)/\e≠(a,d)/\e≠(d,b))\/(e,x)∈Fu (a,(d,c))\/(e,x)∈Fu (b,(c,d)):=by
 have k1:=(FV h h1).1
 have k2:=(FV h h2).1
 have e1:∀{t:ET} {e:Int×Int} {x:Int},(e,x)∈Fu t->t∈cs->(t=Ff (a,(b,c))↔e=(a,b)\/e=(b,c)\/e=(c,a)):=λ {t e x} hx ht=>by
  constructor
  ·rintro rfl
   have:=Gq ((Gf _).1 hx)
   simpa [EU] using this
  ·intro z
   have hc:∃y,(e,y)∈Fu (a,(b,c)):=by
    rcases z with rfl|rfl|rfl
    ·exact ⟨c,by simp [Fu]⟩
    ·exact ⟨a,by simp [Fu]⟩
    ·exact ⟨b,by simp [Fu]⟩
   obtain ⟨y,hy⟩:=hc
   exact IC h.HM ht k1 (Gq hx) (Gq ((Gf _).2 hy))
 have e2:∀{t:ET} {e:Int×Int} {x:Int},(e,x)∈Fu t->t∈cs->(t=Ff (b,(a,d))↔e=(b,a)\/e=(a,d)\/e=(d,b)):=λ {t e x} hx ht=>by
  constructor
  ·rintro rfl
   have:=Gq ((Gf _).1 hx)
   simpa [EU] using this
  ·intro z
   have hc:∃y,(e,y)∈Fu (b,(a,d)):=by
    rcases z with rfl|rfl|rfl
    ·exact ⟨d,by simp [Fu]⟩
    ·exact ⟨b,by simp [Fu]⟩
    ·exact ⟨a,by simp [Fu]⟩
   obtain ⟨y,hy⟩:=hc
   exact IC h.HM ht k2 (Gq hx) (Gq ((Gf _).2 hy))
 unfold GP Fo
 rw [List.flatMap_append,List.mem_append]
 refine or_congr ?_ ?_
 ·simp only [List.mem_flatMap,List.mem_filter,decide_eq_true_eq]
  constructor
  ·rintro ⟨t,⟨ht,g1,g2⟩,hx⟩
   have q1:=λ z=>g1 ((e1 hx ht).2 z)
   have q2:=λ z=>g2 ((e2 hx ht).2 z)
   exact ⟨⟨t,ht,hx⟩,λ z=>q1 (.inl z),λ z=>q1 (.inr (.inl z)),λ z=>q1 (.inr (.inr z)),λ z=>q2 (.inl z),λ z=>q2 (.inr (.inl z)),λ z=>q2 (.inr (.inr z))⟩
  ·rintro ⟨⟨t,ht,hx⟩,n1,n2,n3,n4,Ef,n6⟩
   refine ⟨t,⟨ht,λ z=> ?_,λ z=> ?_⟩,hx⟩
   ·rcases (e1 hx ht).1 z with g|g|g
    ·exact n1 g
    ·exact n2 g
    ·exact n3 g
   ·rcases (e2 hx ht).1 z with g|g|g
    ·exact n4 g
    ·exact Ef g
    ·exact n6 g
 ·simp only [List.flatMap_cons,List.flatMap_nil,List.append_nil,List.mem_append,Gf]
theorem Pg (h:Fm p K n cs) (h1:((a,b),c)∈Fo cs) (h2:((b,a),d)∈Fo cs) {e:Int×Int}:e∈EX (GP cs a b c d)↔(e∈EX cs/\e≠(a,b)/\e≠(b,a))\/e=(c,d)\/e=(d,c):=by
 have ab:a≠b:=λ z=>by
  have:=(FV h h1).2.2.2.2
  subst z;have:EP (p a) (p a) (p c)=0:=by { simp only [EP];grind }
  omega
 have ca:c≠a/\c≠b:=by
  have:=(FV h h1).2.2.2.2
  exact ⟨λ z=>by subst z;have:=E3 (p c) (p b);omega,λ z=>by subst z;have:=E3 (p a) (p c);omega⟩
 have da:d≠a/\d≠b:=by
  have:=(FV h h2).2.2.2.2
  exact ⟨λ z=>by subst z;have:=E3 (p b) (p d);omega,λ z=>by subst z;have:=E3 (p d) (p a);omega⟩
 have k1:∀e y,(e,y)∈Fu (a,(b,c))->e∈EX cs:=λ e y hy=>Gl.2 ⟨y,List.mem_flatMap.2 ⟨_,(FV h h1).1,(Gf _).2 hy⟩⟩
 have k2:∀e y,(e,y)∈Fu (b,(a,d))->e∈EX cs:=λ e y hy=>Gl.2 ⟨y,List.mem_flatMap.2 ⟨_,(FV h h2).1,(Gf _).2 hy⟩⟩
 rw [Gl]
 constructor
 ·rintro ⟨x,hx⟩
  rcases (GB h h1 h2).1 hx with ⟨g,n1,n2,n3,n4,Ef,n6⟩|g|g
  ·exact .inl ⟨Gl.2 ⟨x,g⟩,n1,n4⟩
  ·simp only [Fu,List.mem_cons,List.not_mem_nil,or_false,Prod.mk.injEq] at g
   rcases g with ⟨rfl,_⟩|⟨rfl,_⟩|⟨rfl,_⟩
   ·exact .inl ⟨k2 _ b (by simp [Fu]),λ z=>by simp only [Prod.mk.injEq] at z;omega,λ z=>by simp only [Prod.mk.injEq] at z;omega⟩
   ·exact .inr (.inr rfl)
   ·exact .inl ⟨k1 _ b (by simp [Fu]),λ z=>by simp only [Prod.mk.injEq] at z;omega,λ z=>by simp only [Prod.mk.injEq] at z;omega⟩
  ·simp only [Fu,List.mem_cons,List.not_mem_nil,or_false,Prod.mk.injEq] at g
   rcases g with ⟨rfl,_⟩|⟨rfl,_⟩|⟨rfl,_⟩
   ·exact .inl ⟨k1 _ a (by simp [Fu]),λ z=>by simp only [Prod.mk.injEq] at z;omega,λ z=>by simp only [Prod.mk.injEq] at z;omega⟩
   ·exact .inr (.inl rfl)
   ·exact .inl ⟨k2 _ a (by simp [Fu]),λ z=>by simp only [Prod.mk.injEq] at z;omega,λ z=>by simp only [Prod.mk.injEq] at z;omega⟩
 ·rintro (⟨g,n1,n4⟩|rfl|rfl)
  ·by_cases g1:e=(b,c)
   ·exact ⟨d,(GB h h1 h2).2 (.inr (.inr (by subst g1;simp [Fu])))⟩
   ·by_cases g2:e=(c,a)
    ·exact ⟨d,(GB h h1 h2).2 (.inr (.inl (by subst g2;simp [Fu])))⟩
    ·by_cases g3:e=(a,d)
     ·exact ⟨c,(GB h h1 h2).2 (.inr (.inl (by subst g3;simp [Fu])))⟩
     ·by_cases g4:e=(d,b)
      ·exact ⟨c,(GB h h1 h2).2 (.inr (.inr (by subst g4;simp [Fu])))⟩
      ·obtain ⟨x,hx⟩:=Gl.1 g
       exact ⟨x,(GB h h1 h2).2 (.inl ⟨hx,n1,g1,g2,n4,g3,g4⟩)⟩
  ·exact ⟨b,(GB h h1 h2).2 (.inr (.inr (by simp [Fu])))⟩
  ·exact ⟨a,(GB h h1 h2).2 (.inr (.inl (by simp [Fu])))⟩
theorem Fm.flip (h:Fm p K n cs) (h1:((a,b),c)∈Fo cs) (h2:((b,a),d)∈Fo cs) (v1:0 <EP (p a) (p d) (p c)) (v2:0 <EP (p b) (p c) (p d)):Fm p K n (GP cs a b c d):=by
 obtain ⟨k1,a0,b0,c0,J9⟩:=FV h h1
 obtain ⟨k2,_,_,d0,Ka⟩:=FV h h2
 have Qd:=Jl h h1 v1 v2
 have v1':0 <EP (p b) (p c) (p d):=v2
 have Qe:(d,c)∉EX cs:=Jl h h2 v2 v1
 have E:=λ {e}=>Pg h h1 h2 (e:=e)
 have TY:∀x y z:Int,0<=z->z <n->0 <EP (p y) (p x) (p z)-> ¬E6 p n (x,y):=λ x y z z0 z1 hc ho=>by
  have l:=ho.left z z0 z1
  simp only at l
  have:EP (p x) (p y) (p z)= - EP (p y) (p x) (p z):=by simp only [EP];grind
  omega
 have T0:=O0 (p:=p) a0 d0 c0 v1
 have T1:=O0 (p:=p) b0 c0 d0 v2
 refine ⟨h.kpos,h.Fg,λ t ht=> ?_, ?_,λ e he=> ?_,λ i i0 i1=> ?_⟩
 ·rcases List.mem_append.1 ht with ht|ht
  ·exact h.cell t (List.mem_filter.1 ht).1
  ·simp only [List.mem_cons,List.not_mem_nil,or_false] at ht
   rcases ht with rfl|rfl
   ·exact T0
   ·exact T1
 ·have Cl:∀e∈EU (Ff (a,(d,c))),e=(a,d)\/e=(d,c)\/e=(c,a):=λ e he=>by
   obtain ⟨x,hx⟩:=(Gl (cs:=[Ff (a,(d,c))])).1 (by unfold EX;simpa using he)
   unfold Fo at hx
   rw [List.flatMap_cons,List.flatMap_nil,List.append_nil,Gf] at hx
   have:=Gq hx
   simpa [EU] using this
  have Dy:∀e∈EU (Ff (b,(c,d))),e=(b,c)\/e=(c,d)\/e=(d,b):=λ e he=>by
   obtain ⟨x,hx⟩:=(Gl (cs:=[Ff (b,(c,d))])).1 (by unfold EX;simpa using he)
   unfold Fo at hx
   rw [List.flatMap_cons,List.flatMap_nil,List.append_nil,Gf] at hx
   have:=Gq hx
   simpa [EU] using this
  have Eg:∀{t:ET},FX p n t->(EU t).Nodup:=λ {t} ok=>by
   obtain ⟨lo,hb,hd,sv,q8,FY⟩:=ok
   have:t.2.1≠t.2.2:=λ z=>by rw [z] at FY;have:=E3 (p t.1) (p t.2.2);omega
   simp only [EU,List.nodup_cons,List.mem_cons,List.not_mem_nil,or_false,Prod.mk.injEq,not_or,not_false_eq_true,List.nodup_nil,and_true]
   omega
  have Vc:∀e∈EX (cs.filter λ t=>decide (t≠Ff (a,(b,c))/\t≠Ff (b,(a,d)))),e∈EX cs/\e≠(a,d)/\e≠(c,a)/\e≠(b,c)/\e≠(d,b):=λ e he=>by
   obtain ⟨t,ht,he⟩:=List.mem_flatMap.1 he
   obtain ⟨ht,hn⟩:=List.mem_filter.1 ht
   have hn:=of_decide_eq_true hn
   have own:∀x,(e,x)∉Fu (a,(b,c)):=λ x hx=>hn.1 (IC h.HM ht k1 he (Gq ((Gf _).2 hx)))
   have Tb:∀x,(e,x)∉Fu (b,(a,d)):=λ x hx=>hn.2 (IC h.HM ht k2 he (Gq ((Gf _).2 hx)))
   refine ⟨List.mem_flatMap.2 ⟨t,ht,he⟩,λ z=>Tb b (by subst z;simp [Fu]),λ z=>own b (by subst z;simp [Fu]),λ z=>own a (by subst z;simp [Fu]),λ z=>Tb a (by subst z;simp [Fu])⟩
  unfold GP
  rw [Jb,List.nodup_append]
  refine ⟨?_, ?_,λ x hx y hy hxy=> ?_⟩
  ·exact LJ _ h.HM
  ·have:EX [Ff (a,(d,c)),Ff (b,(c,d))]=EU (Ff (a,(d,c)))++EU (Ff (b,(c,d))):=by simp [EX]
   rw [this,List.nodup_append]
   refine ⟨Eg T0,Eg T1,λ x hx y hy hxy=> ?_⟩
   subst hxy
   have ab:a≠b:=λ z=>by subst z;have:EP (p a) (p a) (p c)=0:=by { simp only [EP];grind };omega
   have dc:d≠c:=λ z=>by subst z;have:=E3 (p a) (p d);omega
   have da:d≠a:=λ z=>by subst z;have:EP (p d) (p d) (p c)=0:=by { simp only [EP];grind };omega
   have ca:c≠a:=λ z=>by subst z;have:=E3 (p c) (p d);omega
   have db:d≠b:=λ z=>by subst z;have:=E3 (p d) (p c);omega
   have cb:c≠b:=λ z=>by subst z;have:EP (p c) (p c) (p d)=0:=by { simp only [EP];grind };omega
   rcases Cl x hx with rfl|rfl|rfl<;>rcases Dy _ hy with z|z|z<;>simp only [Prod.mk.injEq] at z<;>omega
  ·subst hxy
   obtain ⟨g,g1,g2,g3,g4⟩:=Vc x hx
   have hy:x∈EU (Ff (a,(d,c)))\/x∈EU (Ff (b,(c,d))):=by simpa [EX] using hy
   rcases hy with hy|hy
   ·rcases Cl x hy with rfl|rfl|rfl
    ·exact g1 rfl
    ·exact Qe g
    ·exact g2 rfl
   ·rcases Dy x hy with rfl|rfl|rfl
    ·exact g3 rfl
    ·exact Qd g
    ·exact g4 rfl
 ·rcases E.1 he with ⟨g,n1,n2⟩|rfl|rfl
  ·rw [h.I7 e g,not_congr]
   constructor
   ·intro z
    exact E.2 (.inl ⟨z,λ q=>n2 (by simp only [Prod.mk.injEq] at q;exact Prod.ext q.2 q.1),λ q=>n1 (by simp only [Prod.mk.injEq] at q;exact Prod.ext q.2 q.1)⟩)
   ·intro z
    rcases E.1 z with ⟨z,_⟩|z|z
    ·exact z
    ·simp only [Prod.mk.injEq] at z
     exact absurd (show (d,c)∈EX cs by rw [<-z.1, <-z.2];exact g) Qe
    ·simp only [Prod.mk.injEq] at z
     exact absurd (show (c,d)∈EX cs by rw [<-z.1, <-z.2];exact g) Qd
  ·refine ⟨λ z=>absurd z (TY c d a a0.1 a0.2 ?_),λ z=>absurd (E.2 (.inr (.inr rfl))) z⟩
   have:EP (p d) (p c) (p a)=EP (p a) (p d) (p c):=by simp only [EP];grind
   omega
  ·refine ⟨λ z=>absurd z (TY d c b b0.1 b0.2 ?_),λ z=>absurd (E.2 (.inr (.inl rfl))) z⟩
   have:EP (p c) (p d) (p b)=EP (p b) (p c) (p d):=by simp only [EP];grind
   omega
 ·have key:∀{t:ET},t∈GP cs a b c d->∀e x,(e,x)∈Fu t->i=e.1\/i=e.2\/i=x->∃u∈GP cs a b c d,i=u.1\/i=u.2.1\/i=u.2.2:=λ {t} ht e x hx hi=>by
   refine ⟨t,ht, ?_⟩
   simp only [Fu,List.mem_cons,List.not_mem_nil,or_false,Prod.mk.injEq] at hx
   obtain ⟨e1,e2⟩:=e
   simp only [Prod.mk.injEq] at hx hi
   omega
  have A:Ff (a,(d,c))∈GP cs a b c d:=List.mem_append_right _ (by simp)
  have B:Ff (b,(c,d))∈GP cs a b c d:=List.mem_append_right _ (by simp)
  have DJ:((a,d),c)∈Fu (Ff (a,(d,c))):=(Gf _).2 (by simp [Fu])
  have DZ:((b,c),d)∈Fu (Ff (b,(c,d))):=(Gf _).2 (by simp [Fu])
  obtain ⟨t,ht,hi⟩:=h.used i i0 i1
  by_cases q1:t=Ff (a,(b,c))
  ·have:i=a\/i=b\/i=c:=by
    rw [q1] at hi
    rcases H8 (a,(b,c)) with z|z|z<;>rw [z] at hi<;>simp only at hi<;>omega
   rcases this with z|z|z
   ·exact key A _ _ DJ (.inl z)
   ·exact key B _ _ DZ (.inl z)
   ·exact key A _ _ DJ (.inr (.inr z))
  ·by_cases q2:t=Ff (b,(a,d))
   ·have:i=b\/i=a\/i=d:=by
     rw [q2] at hi
     rcases H8 (b,(a,d)) with z|z|z<;>rw [z] at hi<;>simp only at hi<;>omega
    rcases this with z|z|z
    ·exact key B _ _ DZ (.inl z)
    ·exact key A _ _ DJ (.inl z)
    ·exact key A _ _ DJ (.inr (.inl z))
   ·exact ⟨t,List.mem_append_left _ (List.mem_filter.2 ⟨ht,decide_eq_true ⟨q1,q2⟩⟩),hi⟩
end
end Go.Proofs.YtollcjadobpfdaaGreat.Rw
namespace Go.Proofs.YtollcjadobpfdaaGreat.Rw
open Go.Rx
theorem Iq (n:Int):IntKind.u64.wrap n=n % 18446744073709551616:=by simp [IntKind.wrap,IntKind.bits,IntKind.signed]
theorem HZ {n:Int} (h0:0<=n) (h1:n <18446744073709551616):IntKind.u64.wrap n=n:=by rw [Iq];omega
theorem O6 (n:Int):∃q:Int,AJ n=n+q * 18446744073709551616/\ -9223372036854775808<=AJ n/\AJ n<=9223372036854775807:=by
 have e:AJ n=if n % 18446744073709551616 ≥ 9223372036854775808 then n % 18446744073709551616 - 18446744073709551616 else n % 18446744073709551616:=by
  simp [AJ,IntKind.wrap,IntKind.bits,IntKind.signed]
 refine ⟨(AJ n - n) / 18446744073709551616, ?_⟩
 rw [e]
 split<;>omega
theorem ND {x:Int} (h0:0<=x) (h1:x <18446744073709551616):qj .and .u64 x 4294967295=x % 4294967296:=by
 obtain ⟨n,rfl⟩:=Int.eq_ofNat_of_zero_le h0
 have g1:(BitVec.ofInt 64 (n:Int)).toNat=n:=by
  rw [BitVec.ofInt_natCast,BitVec.toNat_ofNat];exact Nat.mod_eq_of_lt (by omega)
 have g2:(BitVec.ofInt 64 (4294967295:Int)).toNat=4294967295:=by rfl
 have e:n &&& 4294967295=n % 4294967296:=Nat.and_two_pow_sub_one_eq_mod n 32
 show IntKind.u64.wrap (((BitVec.ofInt 64 (n:Int) &&& BitVec.ofInt 64 (4294967295:Int)).toNat:Nat):Int)=_
 rw [BitVec.toNat_and,g1,g2,e,HZ (by omega) (by omega)]
 omega
theorem TN (x:Int):x.fdiv (2 ^ min (32:Int).toNat (IntKind.bits .u64))=x / 4294967296:=by
 have:(2:Int) ^ min (32:Int).toNat (IntKind.bits .u64)=4294967296:=rfl
 rw [this,Int.fdiv_eq_ediv_of_nonneg _ (by omega)]
theorem K6 {a b:Int} {m:Int} (ha:0<=a/\a<=m) (hb:0<=b/\b<=m):0<=a * b/\a * b<=m * m:=
 ⟨Int.mul_nonneg ha.1 hb.1,Int.mul_le_mul ha.2 hb.2 hb.1 (by omega)⟩
theorem NH (k:Nat) {x y:Int} (hx:0<=x/\x <18446744073709551616) (hy:0<=y/\y <18446744073709551616):f130 k x y=some (x * y / 18446744073709551616,x * y % 18446744073709551616,()):=by
 obtain ⟨a,a',ha,ha',rfl⟩:∃a a':Int,(0<=a/\a<=4294967295)/\(0<=a'/\a'<=4294967295)/\x=a * 4294967296+a':=⟨x / 4294967296,x % 4294967296,by omega,by omega,by omega⟩
 obtain ⟨b,b',hb,hb',rfl⟩:∃a a':Int,(0<=a/\a<=4294967295)/\(0<=a'/\a'<=4294967295)/\y=a * 4294967296+a':=⟨y / 4294967296,y % 4294967296,by omega,by omega,by omega⟩
 have e1:(a * 4294967296+a') / 4294967296=a:=by omega
 have e2:(b * 4294967296+b') / 4294967296=b:=by omega
 have e3:(a * 4294967296+a') % 4294967296=a':=by omega
 have e4:(b * 4294967296+b') % 4294967296=b':=by omega
 have hxy:(a * 4294967296+a') * (b * 4294967296+b')=a * b * 18446744073709551616+(a * b'+a' * b) * 4294967296+a' * b':=by grind
 simp only [f130,f130.ES,TN,ND hx.1 hx.2,ND hy.1 hy.2,e1,e2,e3,e4,hxy]
 have p1:=K6 ha hb
 have p2:=K6 ha hb'
 have p3:=K6 ha' hb
 have Ds:=K6 ha' hb'
 generalize a * b=p at *
 generalize a * b'=q at *
 generalize a' * b=r at *
 generalize a' * b'=s at *
 have m1:IntKind.u64.wrap s=s:=HZ (by omega) (by omega)
 have m2:IntKind.u64.wrap q=q:=HZ (by omega) (by omega)
 have m3:IntKind.u64.wrap r=r:=HZ (by omega) (by omega)
 have m4:IntKind.u64.wrap p=p:=HZ (by omega) (by omega)
 simp only [m1,m2,m3,m4]
 have m5:IntKind.u64.wrap (q+s / 4294967296)=q+s / 4294967296:=HZ (by omega) (by omega)
 simp only [m5]
 have hm:=ND (x:=q+s / 4294967296) (by omega) (by omega)
 simp only [hm]
 have m6:IntKind.u64.wrap ((q+s / 4294967296) % 4294967296+r)=(q+s / 4294967296) % 4294967296+r:=HZ (by omega) (by omega)
 simp only [m6]
 have m7:IntKind.u64.wrap (p+(q+s / 4294967296) / 4294967296)=p+(q+s / 4294967296) / 4294967296:=HZ (by omega) (by omega)
 simp only [m7]
 rw [HZ (by omega) (by omega),Iq]
 congr 2
 omega
def Gj (a:Int×Int):Int:=a.1 * 18446744073709551616+a.2
def Is (a:Int×Int):Prop:=(-9223372036854775808<=a.1/\a.1<=9223372036854775807)/\0<=a.2/\a.2 <18446744073709551616
theorem Mv (k:Nat) {x y:Int} (hx: -4611686018427387904<=x/\x<=4611686018427387904) (hy: -4611686018427387904<=y/\y<=4611686018427387904):∃a,f79 k x y=some (a,())/\Is a/\Gj a=x * y:=by
 obtain ⟨X,hX,Ve,hX1⟩:∃X,IntKind.u64.wrap x=X/\(0<=X/\X <18446744073709551616)/\X=if x <0 then x+18446744073709551616 else x:=⟨_,rfl,by rw [Iq];omega,by rw [Iq];split<;>omega⟩
 obtain ⟨Y,hY,Vg,Vh⟩:∃X,IntKind.u64.wrap y=X/\(0<=X/\X <18446744073709551616)/\X=if y <0 then y+18446744073709551616 else y:=⟨_,rfl,by rw [Iq];omega,by rw [Iq];split<;>omega⟩
 have hp: -21267647932558653966460912964485513216<=x * y/\x * y<=21267647932558653966460912964485513216:=by
  have h1:(x * y).natAbs<=4611686018427387904 * 4611686018427387904:=by
   rw [Int.natAbs_mul];exact Nat.mul_le_mul (by omega) (by omega)
  omega
 have key:∀hi:Int,(∃q:Int,hi=x * y / 18446744073709551616+q * 18446744073709551616)->Is (AJ hi,x * y % 18446744073709551616)/\Gj (AJ hi,x * y % 18446744073709551616)=x * y:=λ hi ⟨q,hq⟩=>by
  obtain ⟨q',g1,g2,g3⟩:=O6 hi
  unfold Is Gj
  simp only
  generalize x * y=m at *
  omega
 have Vf:∃t:Int,X * Y=x * y+t * 18446744073709551616/\t=(if x <0 then y else 0)+(if y <0 then x else 0)+(if x <0 then (if y <0 then 18446744073709551616 else 0) else 0):=by
  refine ⟨_, ?_,rfl⟩
  rw [hX1,Vh]
  split<;>split<;>grind
 obtain ⟨t,ht,ht'⟩:=Vf
 have hlo:X * Y % 18446744073709551616=x * y % 18446744073709551616:=by rw [ht];omega
 have hhi:X * Y / 18446744073709551616=x * y / 18446744073709551616+t:=by rw [ht];omega
 simp only [f79,f79.ES,f79.c3,f79.Pb,f79.c5,f79.QO,hX,hY,NH k Ve Vg,Option.bind_some,hlo,hhi]
 refine ⟨(AJ (if y <0 then IntKind.u64.wrap ((if x <0 then IntKind.u64.wrap (x * y / 18446744073709551616+t - Y) else x * y / 18446744073709551616+t) - X) else (if x <0 then IntKind.u64.wrap (x * y / 18446744073709551616+t - Y) else x * y / 18446744073709551616+t)),x * y % 18446744073709551616), ?_,key _ ?_⟩
 ·split<;>split<;>rfl
 ·simp only [Iq]
  generalize x * y / 18446744073709551616=m at *
  by_cases c1:x <0<;>by_cases c2:y <0<;>simp only [c1,c2,if_true,if_false] at *
  ·exact ⟨((((m+t - Y) % 18446744073709551616 - X) % 18446744073709551616) - m) / 18446744073709551616,by omega⟩
  ·exact ⟨(((m+t - Y) % 18446744073709551616) - m) / 18446744073709551616,by omega⟩
  ·exact ⟨(((m+t - X) % 18446744073709551616) - m) / 18446744073709551616,by omega⟩
  ·exact ⟨0,by omega⟩
theorem Mu (k:Nat) {a b:Int×Int} (ha:Is a) (hb:Is b) (hr: -170141183460469231731687303715884105728<=Gj a+Gj b/\Gj a+Gj b <170141183460469231731687303715884105728):∃c,f78 k a b=some (c,())/\Is c/\Gj c=Gj a+Gj b:=by
 obtain ⟨a1,a2⟩:=a
 obtain ⟨b1,b2⟩:=b
 unfold Is Gj at *
 simp only at *
 have n1:((a2.toNat:Nat):Int)=a2:=by omega
 have n2:((b2.toNat:Nat):Int)=b2:=by omega
 simp only [f78,f78.ES,f129,v8,Iq]
 rw [if_pos (by decide)]
 simp only [Option.bind_some]
 rw [if_pos (by omega)]
 simp only [Option.bind_some]
 refine ⟨_,rfl, ?_⟩
 simp only
 generalize hh:((((a1 % 18446744073709551616).toNat+(b1 % 18446744073709551616).toNat+((((a2.toNat+b2.toNat+(0:Int).toNat) / 18446744073709551616:Nat):Int)).toNat) % 18446744073709551616:Nat):Int)=hi
 obtain ⟨q,g1,g2,g3⟩:=O6 hi
 omega
theorem R3 (k:Nat) {a:Int×Int} (ha:Is a):f80 k a=some (if Gj a <0 then -1 else if Gj a=0 then 0 else 1,()):=by
 obtain ⟨a1,a2⟩:=a
 unfold Is at ha
 unfold Gj
 simp only [f80,f80.ES,f131,f131.ES,f131.r3,f131.JB,f131.c2,f131.KG] at *
 by_cases c0:a1=0/\a2=0
 ·rw [if_pos c0,if_neg (by omega),if_pos (by omega)];rfl
 ·rw [if_neg c0]
  by_cases c1:a1 <0
  ·rw [if_pos c1,if_pos trivial,if_pos (by omega)];rfl
  ·rw [if_neg c1]
   by_cases c2:a1=0
   ·rw [if_pos c2,decide_eq_false (by omega),if_neg (by simp),if_neg (by omega),if_neg (by omega)];rfl
   ·rw [if_neg c2,if_neg (by simp),if_neg (by omega),if_neg (by omega)];rfl
end Go.Proofs.YtollcjadobpfdaaGreat.Rw
namespace Go.Proofs.YtollcjadobpfdaaGreat.Rw
open Go.Rx
def Gw (a b c d:Int×Int):Int:=
 ((a.1 - d.1) * (a.1 - d.1)+(a.2 - d.2) * (a.2 - d.2)) * ((b.1 - d.1) * (c.2 - d.2) - (c.1 - d.1) * (b.2 - d.2))+
 ((b.1 - d.1) * (b.1 - d.1)+(b.2 - d.2) * (b.2 - d.2)) * ((c.1 - d.1) * (a.2 - d.2) - (a.1 - d.1) * (c.2 - d.2))+
 ((c.1 - d.1) * (c.1 - d.1)+(c.2 - d.2) * (c.2 - d.2)) * ((a.1 - d.1) * (b.2 - d.2) - (b.1 - d.1) * (a.2 - d.2))
def JY (n:Int):Int:=if n <0 then -1 else if n=0 then 0 else 1
def Ir (p:Int×Int):Prop:=(-1048576<=p.1/\p.1<=1048576)/\ -1048576<=p.2/\p.2<=1048576
theorem H6 {a b m n:Int} (ha: -m<=a/\a<=m) (hb: -n<=b/\b<=n) (hm:0<=m) (hn:0<=n): -(m * n)<=a * b/\a * b<=m * n:=by
 have h1:(a * b).natAbs<=m.natAbs * n.natAbs:=by rw [Int.natAbs_mul];exact Nat.mul_le_mul (by omega) (by omega)
 have h2:((m.natAbs * n.natAbs:Nat):Int)=m * n:=by rw [Int.natCast_mul,Int.natAbs_of_nonneg hm,Int.natAbs_of_nonneg hn]
 omega
theorem T5:AJ 1=1:=by decide
theorem Tk:AJ 2=2:=by decide
theorem Tl:AJ 3=3:=by decide
theorem Vw:AJ 4=4:=by decide
theorem Sk (k n:Nat) {a b c d:Int×Int} (ha:Ir a) (hb:Ir b) (hc:Ir c) (hd:Ir d):
 f38.l0 k (n+4) 0 0 0 0 0 0 [(a.1,a.2),(b.1,b.2),(c.1,c.2)] d.1 d.2 0 0 0 3 0=
 (f77 k 0).bind λ r1=>f38.l2 k k (a.2 - d.2) (b.2 - d.2) (c.2 - d.2) ((a.1 - d.1) * (a.1 - d.1)+(a.2 - d.2) * (a.2 - d.2)) ((b.1 - d.1) * (b.1 - d.1)+(b.2 - d.2) * (b.2 - d.2)) ((c.1 - d.1) * (c.1 - d.1)+(c.2 - d.2) * (c.2 - d.2)) r1.1.1 r1.1.2 (a.1 - d.1) (b.1 - d.1) (c.1 - d.1) 0:=by
 unfold Ir at *
 have w:∀{x y:Int},(-1048576<=x/\x<=1048576)->(-1048576<=y/\y<=1048576)->AJ (x - y)=x - y/\ -2097152<=x - y/\x - y<=2097152:=λ h1 h2=>⟨CV (by omega) (by omega),by omega,by omega⟩
 have DA:∀{x:Int},(-2097152<=x/\x<=2097152)->AJ (x * x)=x * x/\ -4398046511104<=x * x/\x * x<=4398046511104:=λ h=>by
  have:=H6 h h (by decide) (by decide)
  exact ⟨CV (by omega) (by omega),by omega,by omega⟩
 obtain ⟨a1,US⟩:=w ha.1 hd.1
 obtain ⟨a2,UT⟩:=w ha.2 hd.2
 obtain ⟨b1,UZ⟩:=w hb.1 hd.1
 obtain ⟨b2,U1⟩:=w hb.2 hd.2
 obtain ⟨c1,U5⟩:=w hc.1 hd.1
 obtain ⟨c2,SK⟩:=w hc.2 hd.2
 obtain ⟨s1,s1'⟩:=DA US
 obtain ⟨s2,s2'⟩:=DA UT
 obtain ⟨s3,VL⟩:=DA UZ
 obtain ⟨s4,VM⟩:=DA U1
 obtain ⟨s5,VN⟩:=DA U5
 obtain ⟨EC,VO⟩:=DA SK
 have t1:=CV (n:=(a.1 - d.1) * (a.1 - d.1)+(a.2 - d.2) * (a.2 - d.2)) (by omega) (by omega)
 have t2:=CV (n:=(b.1 - d.1) * (b.1 - d.1)+(b.2 - d.2) * (b.2 - d.2)) (by omega) (by omega)
 have t3:=CV (n:=(c.1 - d.1) * (c.1 - d.1)+(c.2 - d.2) * (c.2 - d.2)) (by omega) (by omega)
 simp [f38.l0,f38.E0,a1,a2,b1,b2,c1,c2,s1,s2,s3,s4,s5,EC,t1,t2,t3,T5,Tk,Tl]
theorem OF (k:Nat) {a b c d:Int×Int} (ha:Ir a) (hb:Ir b) (hc:Ir c) (hd:Ir d):f38 (k+4) a b c d=some (JY (Gw a b c d),()):=by
 have h0:=Sk (k+4) k ha hb hc hd
 unfold Ir at *
 have w:∀{x y:Int},(-1048576<=x/\x<=1048576)->(-1048576<=y/\y<=1048576)-> -2097152<=x - y/\x - y<=2097152:=λ h1 h2=>by omega
 have pr:∀{x y:Int},(-2097152<=x/\x<=2097152)->(-2097152<=y/\y<=2097152)-> -4398046511104<=x * y/\x * y<=4398046511104:=λ h1 h2=>by
  have:=H6 h1 h2 (by decide) (by decide)
  omega
 have a1:=w ha.1 hd.1
 have a2:=w ha.2 hd.2
 have b1:=w hb.1 hd.1
 have b2:=w hb.2 hd.2
 have c1:=w hc.1 hd.1
 have c2:=w hc.2 hd.2
 simp only [f38,f38.ES]
 have hlen:(([(a.1,a.2),(b.1,b.2),(c.1,c.2)]:List (Int×Int)).length:Int)=3:=rfl
 rw [hlen,h0]
 have CB:f77 (k+4) 0=some ((0,0),()):=by
  simp only [f77,f77.ES]
  rfl
 rw [CB]
 simp only [Option.bind_some]
 unfold Gw
 generalize a.1 - d.1=x1 at *
 generalize a.2 - d.2=y1 at *
 generalize b.1 - d.1=x2 at *
 generalize b.2 - d.2=y2 at *
 generalize c.1 - d.1=e9 at *
 generalize c.2 - d.2=ox at *
 have q1: -8796093022208<=x1 * x1+y1 * y1/\x1 * x1+y1 * y1<=8796093022208:=by have:=pr a1 a1;have:=pr a2 a2;omega
 have q2: -8796093022208<=x2 * x2+y2 * y2/\x2 * x2+y2 * y2<=8796093022208:=by have:=pr b1 b1;have:=pr b2 b2;omega
 have q3: -8796093022208<=e9 * e9+ox * ox/\e9 * e9+ox * ox<=8796093022208:=by have:=pr c1 c1;have:=pr c2 c2;omega
 generalize x1 * x1+y1 * y1=Bv at *
 generalize x2 * x2+y2 * y2=Az at *
 generalize e9 * e9+ox * ox=Bw at *
 have DC:∀{x y x' y':Int},(-2097152<=x/\x<=2097152)->(-2097152<=y/\y<=2097152)->(-2097152<=x'/\x'<=2097152)->(-2097152<=y'/\y'<=2097152)->AJ (AJ (x * y') - AJ (x' * y))=x * y' - x' * y/\ -8796093022208<=x * y' - x' * y/\x * y' - x' * y<=8796093022208:=λ h1 h2 h3 h4=>by
  have g1:=pr h1 h4
  have g2:=pr h3 h2
  rw [CV (n:=_ * _) (by omega) (by omega),CV (n:=_ * _) (by omega) (by omega),CV (by omega) (by omega)]
  omega
 obtain ⟨e1,SN⟩:=DC b1 b2 c1 c2
 obtain ⟨e2,SO⟩:=DC c1 c2 a1 a2
 obtain ⟨e3,SP⟩:=DC a1 a2 b1 b2
 have big:∀{q e:Int},(-8796093022208<=q/\q<=8796093022208)->(-8796093022208<=e/\e<=8796093022208)-> -77371252455336267181195264<=q * e/\q * e<=77371252455336267181195264:=λ h1 h2=>by
  have:=H6 h1 h2 (by decide) (by decide)
  omega
 obtain ⟨m1,g1,g2,g3⟩:=Mv (k+4) (x:=Bv) (y:=x2 * ox - e9 * y2) (by omega) (by omega)
 obtain ⟨m2,g4,g5,g6⟩:=Mv (k+4) (x:=Az) (y:=e9 * y1 - x1 * ox) (by omega) (by omega)
 obtain ⟨m3,g7,g8,g9⟩:=Mv (k+4) (x:=Bw) (y:=x1 * y2 - x2 * y1) (by omega) (by omega)
 have z0:Is (0,0):=by unfold Is;omega
 have v0:Gj (0,0)=0:=rfl
 have n1:=big q1 SN
 have n2:=big q2 SO
 have n3:=big q3 SP
 obtain ⟨s1,h1,h2,h3⟩:=Mu (k+4) z0 g2 (by rw [v0,g3];omega)
 obtain ⟨s2,h4,h5,h6⟩:=Mu (k+4) h2 g5 (by rw [h3,v0,g3,g6];omega)
 obtain ⟨s3,h7,h8,Ex⟩:=Mu (k+4) h5 g8 (by rw [h6,h3,v0,g3,g6,g9];omega)
 have hs:=R3 (k+4) h8
 have hv:Gj s3=Bv * (x2 * ox - e9 * y2)+Az * (e9 * y1 - x1 * ox)+Bw * (x1 * y2 - x2 * y1):=by rw [Ex,h6,h3,v0,g3,g6,g9];omega
 have t0:((1:Int).tmod 3)=1:=rfl
 have t1:((2:Int).tmod 3)=2:=rfl
 have t2:((3:Int).tmod 3)=0:=rfl
 have t3:((4:Int).tmod 3)=1:=rfl
 have f1:f38.l2 (k+4) (k+4) y1 y2 ox Bv Az Bw 0 0 x1 x2 e9 0=f38.l2 (k+4) (k+3) y1 y2 ox Bv Az Bw s1.1 s1.2 x1 x2 e9 1:=by
  rw [f38.l2,f38.FG]
  simp [T5,Tk,t0,t1,e1,g1,h1]
 have f2:f38.l2 (k+4) (k+3) y1 y2 ox Bv Az Bw s1.1 s1.2 x1 x2 e9 1=f38.l2 (k+4) (k+2) y1 y2 ox Bv Az Bw s2.1 s2.2 x1 x2 e9 2:=by
  rw [f38.l2,f38.FG]
  simp [Tk,Tl,t1,t2,e2,g4,h4]
 have f3:f38.l2 (k+4) (k+2) y1 y2 ox Bv Az Bw s2.1 s2.2 x1 x2 e9 2=f38.l2 (k+4) (k+1) y1 y2 ox Bv Az Bw s3.1 s3.2 x1 x2 e9 3:=by
  rw [f38.l2,f38.FG]
  simp [Tl,Vw,t2,t3,e3,g7,h7]
 rw [f1,f2,f3,f38.l2,f38.FG,if_neg (by decide)]
 show ((f80 (k+4) s3).bind λ r3=>some (r3.1,()))=_
 rw [hs,hv]
 rfl
end Go.Proofs.YtollcjadobpfdaaGreat.Rw
namespace Go.Proofs.YtollcjadobpfdaaGreat.Rw
def JD (a b:Int×Int):Int:=(a.1 - b.1) * (a.1 - b.1)+(a.2 - b.2) * (a.2 - b.2)
theorem IS (x:Int):0<=x * x:=by
 rcases Int.le_total 0 x with g|g
 ·exact Int.mul_nonneg g g
 ·have:=Int.mul_nonneg (show 0<= -x by omega) (show 0<= -x by omega)
  rwa [Int.neg_mul_neg] at this
theorem Jj (a b:Int×Int):0<=JD a b:=Int.add_nonneg (IS _) (IS _)
theorem SB {a b:Int×Int} (h:a≠b):0 <JD a b:=by
 have h0:=Jj a b
 rcases Int.lt_or_eq_of_le h0 with g|g
 ·exact g
 ·unfold JD at g
  have h1:=IS (a.1 - b.1)
  have h2:=IS (a.2 - b.2)
  have e1:(a.1 - b.1) * (a.1 - b.1)=0:=by omega
  have e2:(a.2 - b.2) * (a.2 - b.2)=0:=by omega
  have e1:=(Int.mul_eq_zero.1 e1).elim id id
  have e2:=(Int.mul_eq_zero.1 e2).elim id id
  exact absurd (Prod.ext (by omega) (by omega)) h
theorem PX (a b c d:Int×Int):Gw a b c d=EP b c d * JD a b - EP b a d * JD c b - EP a b c * JD b d:=by
 simp only [Gw,EP,JD];grind
theorem Nf (a b c d:Int×Int):Gw b a d c=Gw a b c d:=by
 simp only [Gw];grind
theorem Pf (a b c d:Int×Int):Gw c d b a= - Gw a b c d:=by
 simp only [Gw];grind
theorem JV {a b c d:Int×Int} (h1:0 <EP a b c) (h2:0 <EP b a d) (h:0<=Gw a b c d):0 <EP a d c/\0 <EP b c d:=by
 have key:∀{a b c d:Int×Int},0 <EP a b c->0 <EP b a d->0<=Gw a b c d->0 <EP b c d:=λ {a b c d} h1 h2 h=>by
  have hb:b≠d:=λ z=>by subst z;have:EP b a b=0:=(E3 _ _).1;omega
  have s:=PX a b c d
  rcases Int.lt_or_le 0 (EP b c d) with g|g
  ·exact g
  ·have m1:=Int.mul_nonneg (show 0<= - EP b c d by omega) (Jj a b)
   have m2:=Int.mul_nonneg (show 0<=EP b a d by omega) (Jj c b)
   have m3:=Int.mul_pos h1 (SB hb)
   rw [Int.neg_mul] at m1
   omega
 refine ⟨?_,key h1 h2 h⟩
 have h3:=key (a:=b) (b:=a) (c:=d) (d:=c) h2 h1 (by rw [Nf];exact h)
 exact h3
def HS (p:Int->Int×Int) (o:Int×Int) (t:ET):Int:=EP (p t.1) (p t.2.1) (p t.2.2) * (JD (p t.1) o+JD (p t.2.1) o+JD (p t.2.2) o)
def IZ (t:ET):Int:=min t.1 t.2.1+min t.2.1 t.2.2+min t.2.2 t.1
theorem R2 (p:Int->Int×Int) (o:Int×Int) (a b c d:Int):HS p o (a,(d,c))+HS p o (b,(c,d))=HS p o (a,(b,c))+HS p o (b,(a,d)) - Gw (p a) (p b) (p c) (p d):=by
 simp only [HS,Gw,EP,JD];grind
theorem SG (p:Int->Int×Int) (o:Int×Int) (t:ET):HS p o (Ff t)=HS p o t:=by
 rcases H8 t with h|h|h<;>rw [h]<;>simp only [HS,EP,JD]<;>grind
theorem Sv (t:ET):IZ (Ff t)=IZ t:=by
 rcases H8 t with h|h|h<;>rw [h]<;>simp only [IZ]<;>omega
theorem Rq (a b c d:Int):IZ (a,(d,c))+IZ (b,(c,d))=IZ (a,(b,c))+IZ (b,(a,d))+2 * min c d - 2 * min a b:=by
 simp only [IZ];omega
def Gb (p:Int->Int×Int) (a b c d:Int):Prop:=0 <Gw (p a) (p b) (p c) (p d)\/Gw (p a) (p b) (p c) (p d)=0/\min c d <min a b
theorem MY {p:Int->Int×Int} {a b c d:Int}:Gb p b a d c↔Gb p a b c d:=by
 unfold Gb
 rw [Nf,show min d c=min c d by omega,show min b a=min a b by omega]
theorem OD {p:Int->Int×Int} {a b c d:Int} (h:Gb p a b c d): ¬Gb p c d b a:=by
 unfold Gb at *
 rw [Pf]
 omega
def KC (p:Int->Int×Int) (o:Int×Int) (n:Int) (t:ET):Int:=2 * n * HS p o t+IZ t
theorem RM {f:ET->Int} {x y:ET} (hxy:x≠y):∀{l:List ET},l.Nodup->x∈l->y∈l->FB f (l.filter λ t=> !decide (t≠x/\t≠y))=f x+f y:=by
 have none:∀{l:List ET},x∉l->y∉l->l.filter (λ t=> !decide (t≠x/\t≠y))=[]:=λ {l} hx hy=>by
  rw [List.filter_eq_nil_iff]
  intro t ht
  have h1:t≠x:=λ z=>hx (z▸ht)
  have h2:t≠y:=λ z=>hy (z▸ht)
  simp [h1,h2]
 have one:∀{w:ET},(w=x\/w=y)->∀{l:List ET},l.Nodup->w∈l->(∀t∈l,t=x\/t=y->t=w)->FB f (l.filter λ t=> !decide (t≠x/\t≠y))=f w:=λ {w} hw {l}=>by
  induction l with
  |nil=>intro _ h;cases h
  |cons t l ih=>
   intro hn hm ho
   obtain ⟨n1,n2⟩:=List.nodup_cons.1 hn
   rcases List.mem_cons.1 hm with rfl|hm
   ·have hx:x∉l:=λ z=>n1 (ho x (List.mem_cons_of_mem _ z) (.inl rfl)▸z)
    have hy:y∉l:=λ z=>n1 (ho y (List.mem_cons_of_mem _ z) (.inr rfl)▸z)
    rw [List.filter_cons,none hx hy,if_pos (by rcases hw with h|h<;>simp [h])]
    simp [FB]
   ·have ht: ¬(t=x\/t=y):=λ z=>n1 (ho t (List.mem_cons_self ..) z▸hm)
    rw [List.filter_cons,if_neg (by simp;exact ⟨λ z=>ht (.inl z),λ z=>ht (.inr z)⟩)]
    exact ih n2 hm λ t h=>ho t (List.mem_cons_of_mem _ h)
 intro l
 induction l with
 |nil=>intro _ h;cases h
 |cons t l ih=>
  intro hn hx hy
  obtain ⟨n1,n2⟩:=List.nodup_cons.1 hn
  rw [List.filter_cons]
  rcases List.mem_cons.1 hx with rfl|kx
  ·rcases List.mem_cons.1 hy with h|ky
   ·exact absurd h.symm hxy
   ·rw [if_pos (by simp)]
    simp only [FB]
    rw [one (.inr rfl) n2 ky λ t ht h=>h.elim (λ z=>absurd (z▸ht) n1) id]
  ·rcases List.mem_cons.1 hy with rfl|ky
   ·rw [if_pos (by simp)]
    simp only [FB]
    rw [one (.inl rfl) n2 kx λ t ht h=>h.elim id λ z=>absurd (z▸ht) n1]
    omega
   ·have h1:t≠x:=λ z=>n1 (z▸kx)
    have h2:t≠y:=λ z=>n1 (z▸ky)
    rw [if_neg (by simp [h1,h2])]
    exact ih n2 kx ky
section
variable {p:Int->Int×Int} {K n:Int} {cs:List ET} {a b c d:Int}
theorem Q6 (h:Fm p K n cs) (h1:((a,b),c)∈Fo cs) (h2:((b,a),d)∈Fo cs) {f:ET->Int} (hf:∀t,f (Ff t)=f t):FB f (GP cs a b c d)=FB f cs+f (a,(d,c))+f (b,(c,d)) - f (a,(b,c)) - f (b,(a,d)):=by
 obtain ⟨k1,_,_,_,J9⟩:=FV h h1
 obtain ⟨k2,_,_,_,Ka⟩:=FV h h2
 have hne:Ff (a,(b,c))≠Ff (b,(a,d)):=λ z=>by
  have m1:((a,b),c)∈Fu (Ff (b,(a,d))):=by rw [<-z,Gf];simp [Fu]
  rw [Gf,GA] at m1
  simp only [Prod.mk.injEq] at m1
  have hab:a=b\/d=b\/d=a:=by omega
  rcases hab with z|z|z<;>subst z
  ·have:EP (p a) (p a) (p c)=0:=by simp only [EP];grind
   omega
  ·have:=E3 (p d) (p a);omega
  ·have:=E3 (p b) (p d);omega
 have nd:cs.Nodup:=Hh h.HM
 have s:=Kt f (λ t=>decide (t≠Ff (a,(b,c))/\t≠Ff (b,(a,d)))) cs
 rw [RM hne nd k1 k2,hf,hf] at s
 unfold GP
 rw [JZ,s]
 simp only [FB,hf]
 omega
theorem Sw (o:Int×Int) (h:Fm p K n cs) (h1:((a,b),c)∈Fo cs) (h2:((b,a),d)∈Fo cs) (hw:Gb p a b c d):FB (KC p o n) (GP cs a b c d) <FB (KC p o n) cs:=by
 obtain ⟨k1,a0,b0,c0,J9⟩:=FV h h1
 obtain ⟨k2,_,_,d0,Ka⟩:=FV h h2
 rw [Q6 h h1 h2 (λ t=>by unfold KC;rw [SG,Sv])]
 have e1:=R2 p o a b c d
 have e2:=Rq a b c d
 have hn:0<=n:=by omega
 unfold KC
 have e3:2 * n * HS p o (a,(d,c))+2 * n * HS p o (b,(c,d))=2 * n * HS p o (a,(b,c))+2 * n * HS p o (b,(a,d)) - 2 * n * Gw (p a) (p b) (p c) (p d):=by
  rw [<-Int.mul_add,e1,Int.mul_sub,Int.mul_add]
 rcases hw with g|⟨g1,g2⟩
 ·have:=Int.mul_le_mul_of_nonneg_left (show 1<=Gw (p a) (p b) (p c) (p d) by omega) (show 0<=2 * n by omega)
  omega
 ·rw [g1,Int.mul_zero] at e3
  omega
end
end Go.Proofs.YtollcjadobpfdaaGreat.Rw
namespace Go.Proofs.YtollcjadobpfdaaGreat.Rw
open Go.Rx
section
variable {β:Type}
theorem KR (k:Int×Int):∀l:List ((Int×Int)×β),(jU q7 l k).map Prod.fst=(l.map Prod.fst).erase k
 | []=>rfl
 | (k',v)::r=>by
   by_cases h:k=k'
   ·subst h;simp [jU,HO]
   ·have h': ¬k'=k:=λ z=>h z.symm
    simp [jU,Ix h,KR k r,List.erase_cons,h']
theorem KS (k e:Int×Int):∀{l:List ((Int×Int)×β)},(l.map Prod.fst).Nodup->dA q7 (jU q7 l k) e=if e=k then none else dA q7 l e
 | [],_=>by simp [jU,dA]
 | (k',v)::r,hn=>by
   obtain ⟨n1,n2⟩:=List.nodup_cons.1 hn
   by_cases h:k=k'
   ·subst h
    simp only [jU,HO]
    by_cases g:e=k
    ·subst g
     rw [if_pos rfl]
     have: ¬(dA q7 r e).isSome=true:=λ z=>n1 (Kj.1 z)
     simpa using this
    ·rw [if_neg g]
     simp [dA,Ix g]
   ·simp only [jU,Ix h]
    by_cases g:e=k'
    ·subst g
     have: ¬e=k:=λ z=>h z.symm
     simp [dA,HO,this]
    ·simp only [dA,Ix g]
     exact KS k e n2
theorem Ln:∀{l:List ((Int×Int)×β)} {e:Int×Int} {x:β},(l.map Prod.fst).Nodup->(dA q7 l e=some x↔(e,x)∈l)
 | [],e,x,_=>by simp [dA]
 | (k',v)::r,e,x,hn=>by
   obtain ⟨n1,n2⟩:=List.nodup_cons.1 hn
   by_cases g:e=k'
   ·subst g
    simp only [dA,HO,Option.some.injEq,List.mem_cons,Prod.mk.injEq,true_and]
    constructor
    ·intro h;exact .inl h.symm
    ·rintro (h|h)
     ·exact h.symm
     ·exact absurd (List.mem_map.2 ⟨_,h,rfl⟩) n1
   ·simp only [dA,Ix g,List.mem_cons,Prod.mk.injEq,g,false_and,false_or]
    exact Ln n2
end
structure Ij (m:List ((Int×Int)×Int)) (cs:List ET):Prop where
 keys:(m.map Prod.fst).Nodup
 get:∀e x,dA q7 m e=some x↔(e,x)∈Fo cs
theorem Ij.some {m:List ((Int×Int)×Int)} {cs:List ET} (h:Ij m cs) (e:Int×Int):(dA q7 m e).isSome=true↔e∈EX cs:=by
 rw [Gl]
 constructor
 ·intro z
  obtain ⟨x,hx⟩:=Option.isSome_iff_exists.1 z
  exact ⟨x,(h.get _ _).1 hx⟩
 ·rintro ⟨x,hx⟩
  rw [(h.get _ _).2 hx];rfl
theorem Ma {m:List ((Int×Int)×Int)} {c:ET} (h:(m.map Prod.fst).Nodup):((Gr m c).map Prod.fst).Nodup:=by
 simp only [Gr,KT]
 exact Je (Je (Je h))
theorem Kq {m:List ((Int×Int)×Int)} {c:ET} (e:Int×Int):dA q7 (Gr m c) e=if e=(c.2.2,c.1) then some c.2.1 else if e=(c.2.1,c.2.2) then some c.1 else if e=(c.1,c.2.1) then some c.2.2 else dA q7 m e:=by
 simp only [Gr,JL]
theorem Np:∀{cs:List ET} {m:List ((Int×Int)×Int)},(EX cs).Nodup->∀e,(∀x,(e,x)∈Fo cs->dA q7 (cs.foldl Gr m) e=some x)/\(e∉EX cs->dA q7 (cs.foldl Gr m) e=dA q7 m e)
 | [],m,_,e=>⟨λ x hx=>by simp [Fo] at hx,λ _=>rfl⟩
 |c::cs,m,hn,e=>by
  have hn:(EU c++EX cs).Nodup:=hn
  obtain ⟨n1,n2,n3⟩:=List.nodup_append.1 hn
  obtain ⟨i1,i2⟩:=Np (m:=Gr m c) n2 e
  rw [List.foldl_cons]
  refine ⟨λ x hx=> ?_,λ hx=> ?_⟩
  ·have hx:(e,x)∈Fu c\/(e,x)∈Fo cs:=by
    unfold Fo at hx ⊢
    rwa [List.flatMap_cons,List.mem_append] at hx
   rcases hx with hx|hx
   ·have he:=Gq hx
    rw [i2 (λ z=>n3 e he e z rfl),Kq]
    obtain ⟨u,v,w⟩:=c
    simp only [EU,List.nodup_cons,List.mem_cons,List.not_mem_nil,or_false,not_or,Prod.mk.injEq] at n1
    simp only [Fu,List.mem_cons,List.not_mem_nil,or_false,Prod.mk.injEq] at hx
    obtain ⟨⟨a1,a2⟩,a3,_⟩:=n1
    rcases hx with ⟨rfl,rfl⟩|⟨rfl,rfl⟩|⟨rfl,rfl⟩
    ·rw [if_neg (by simpa using a2),if_neg (by simpa using a1),if_pos rfl]
    ·rw [if_neg (by simpa using a3),if_pos rfl]
    ·rw [if_pos rfl]
   ·exact i1 x hx
  ·have h1:e∉EU c:=λ z=>hx (List.mem_append_left _ z)
   have h2:e∉EX cs:=λ z=>hx (List.mem_append_right _ z)
   rw [i2 h2,Kq]
   simp only [EU,List.mem_cons,List.not_mem_nil,or_false,not_or] at h1
   rw [if_neg h1.2.2,if_neg h1.2.1,if_neg h1.1]
theorem Q3 {cs:List ET} {x:(Int×Int)×Int}:x∈Fo (cs.map Ff)↔x∈Fo cs:=by
 unfold Fo
 rw [List.flatMap_map]
 simp only [List.mem_flatMap,Gf]
theorem Oy (t:ET):(EU (Ff t)).Perm (EU t):=by
 rcases H8 t with h|h|h<;>rw [h]
 ·show ([(t.2.1,t.2.2),(t.2.2,t.1),(t.1,t.2.1)]:List (Int×Int)).Perm [(t.1,t.2.1),(t.2.1,t.2.2),(t.2.2,t.1)]
  exact (List.perm_append_comm (l₁:=[(t.2.1,t.2.2),(t.2.2,t.1)]) (l₂:=[(t.1,t.2.1)]))
 ·show ([(t.2.2,t.1),(t.1,t.2.1),(t.2.1,t.2.2)]:List (Int×Int)).Perm [(t.1,t.2.1),(t.2.1,t.2.2),(t.2.2,t.1)]
  exact (List.perm_append_comm (l₁:=[(t.2.2,t.1)]) (l₂:=[(t.1,t.2.1),(t.2.1,t.2.2)]))
theorem LK:∀cs:List ET,(EX (cs.map Ff)).Perm (EX cs)
 | []=>.refl _
 |c::cs=>by
  show (EU (Ff c)++EX (cs.map Ff)).Perm (EU c++EX cs)
  exact (Oy c).append (LK cs)
theorem MM {cs:List ET} (h:(EX (cs.map Ff)).Nodup):Ij (cs.foldl Gr []) (cs.map Ff):=by
 have hn:(EX cs).Nodup:=(LK cs).nodup_iff.1 h
 refine ⟨?_,λ e x=> ?_⟩
 ·rw [K0];exact Lg (by simp)
 ·rw [Q3]
  obtain ⟨i1,i2⟩:=Np (m:=[]) hn e
  refine ⟨λ z=> ?_,i1 x⟩
  by_cases g:e∈EX cs
  ·obtain ⟨y,hy⟩:=Gl.1 g
   have:=i1 y hy
   rw [this] at z;cases z;exact hy
  ·rw [i2 g] at z;simp [dA] at z
section
variable {p:Int->Int×Int} {K n:Int} {cs:List ET} {m:List ((Int×Int)×Int)} {a b c d:Int}
def M7 (m:List ((Int×Int)×Int)) (a b c d:Int):List ((Int×Int)×Int):=Gr (Gr (jU q7 (jU q7 m (a,b)) (b,a)) (a,(d,c))) (b,(c,d))
theorem RN (h:Fm p K n cs) (h1:((a,b),c)∈Fo cs) (h2:((b,a),d)∈Fo cs) (v1:0 <EP (p a) (p d) (p c)) (v2:0 <EP (p b) (p c) (p d)) (hm:Ij m cs):Ij (M7 m a b c d) (GP cs a b c d):=by
 obtain ⟨k1,a0,b0,c0,J9⟩:=FV h h1
 obtain ⟨k2,_,_,d0,Ka⟩:=FV h h2
 have n1:((jU q7 m (a,b)).map Prod.fst).Nodup:=by rw [KR];exact hm.keys.erase _
 have n2:((jU q7 (jU q7 m (a,b)) (b,a)).map Prod.fst).Nodup:=by rw [KR];exact n1.erase _
 have ab:a≠b:=λ z=>by subst z;have:EP (p a) (p a) (p c)=0:=by { simp only [EP];grind };omega
 have dc:d≠c:=λ z=>by subst z;have:=E3 (p a) (p d);omega
 have da:d≠a:=λ z=>by subst z;have:EP (p d) (p d) (p c)=0:=by { simp only [EP];grind };omega
 have ca:c≠a:=λ z=>by subst z;have:=E3 (p c) (p d);omega
 have db:d≠b:=λ z=>by subst z;have:=E3 (p d) (p c);omega
 have cb:c≠b:=λ z=>by subst z;have:EP (p c) (p c) (p d)=0:=by { simp only [EP];grind };omega
 refine ⟨Ma (Ma n2),λ e x=> ?_⟩
 rw [GB h h1 h2]
 obtain ⟨u,v⟩:=e
 unfold M7
 rw [Kq,Kq,KS _ _ n1,KS _ _ hm.keys,GA,GA]
 have hg:=hm.get (u,v) x
 have Qd:=Jl h h1 v1 v2
 have Qe:=Jl h h2 v2 v1
 have gcd:(u,v)=(c,d)-> ¬((u,v),x)∈Fo cs:=λ z g=>Qd (by rw [<-z];exact Gl.2 ⟨x,g⟩)
 have KL:(u,v)=(d,c)-> ¬((u,v),x)∈Fo cs:=λ z g=>Qe (by rw [<-z];exact Gl.2 ⟨x,g⟩)
 simp only [Prod.mk.injEq,ne_eq] at *
 generalize (((u,v),x)∈Fo cs)=Q at *
 by_cases e1:u=d/\v=b
 ·rw [if_pos e1];simp only [Option.some.injEq];clear hg gcd KL;constructor
  ·intro z;right;right;omega
  ·intro z;rcases z with ⟨_,z⟩|z<;>omega
 ·rw [if_neg e1]
  by_cases e2:u=c/\v=d
  ·rw [if_pos e2];have gcd:=gcd e2;clear hg KL;simp only [Option.some.injEq];constructor
   ·intro z;right;right;omega
   ·rintro (⟨z,_⟩|z)
    ·exact absurd z gcd
    ·omega
  ·rw [if_neg e2]
   by_cases e3:u=b/\v=c
   ·rw [if_pos e3];simp only [Option.some.injEq];clear hg gcd KL;constructor
    ·intro z;right;right;omega
    ·intro z;rcases z with ⟨_,z⟩|z<;>omega
   ·rw [if_neg e3]
    by_cases e4:u=c/\v=a
    ·rw [if_pos e4];simp only [Option.some.injEq];clear hg gcd KL;constructor
     ·intro z;right;left;omega
     ·intro z;rcases z with ⟨_,z⟩|z<;>omega
    ·rw [if_neg e4]
     by_cases e5:u=d/\v=c
     ·rw [if_pos e5];have KL:=KL e5;clear hg gcd;simp only [Option.some.injEq];constructor
      ·intro z;right;left;omega
      ·rintro (⟨z,_⟩|z)
       ·exact absurd z KL
       ·omega
     ·rw [if_neg e5]
      by_cases e6:u=a/\v=d
      ·rw [if_pos e6];simp only [Option.some.injEq];clear hg gcd KL;constructor
       ·intro z;right;left;omega
       ·intro z;rcases z with ⟨_,z⟩|z<;>omega
      ·rw [if_neg e6]
       by_cases D1:u=b/\v=a
       ·rw [if_pos D1];clear hg gcd KL;constructor
        ·intro z;cases z
        ·intro z;rcases z with ⟨_,z⟩|z<;>omega
       ·rw [if_neg D1]
        by_cases D2:u=a/\v=b
        ·rw [if_pos D2];clear hg gcd KL;constructor
         ·intro z;cases z
         ·intro z;rcases z with ⟨_,z⟩|z<;>omega
        ·rw [if_neg D2,hg]
         constructor
         ·intro z;exact .inl ⟨z,D2,e3,e4,D1,e6,e1⟩
         ·rintro (⟨z,_⟩|z)
          ·exact z
          ·clear hg gcd KL;omega
end
section
variable {m:List ((Int×Int)×Int)} {k:Nat}
theorem SD {sk:f163.E1} (l:List ET) (a b c I8:Int) (i n:Nat) (hi:i <4611686018427387904) (hn:4<=n):f163.l2 k sk n m a b c l I8 i 0=sk (Gr m (a,(b,c))) l I8 ((i+1:Nat):Int):=by
 obtain ⟨n,rfl⟩:∃m,n=m+4:=⟨n - 4,by omega⟩
 have w1:AJ 1=1:=CV (by omega) (by omega)
 have w2:AJ 2=2:=CV (by omega) (by omega)
 have w3:AJ 3=3:=CV (by omega) (by omega)
 have w4:AJ 4=4:=CV (by omega) (by omega)
 have wi:AJ ((i:Int)+1)=(i:Int)+1:=CV (by omega) (by omega)
 have t1:Int.tmod 3 3=0:=by decide
 have t2:Int.tmod 4 3=1:=by decide
 have t3:Int.tmod 1 3=1:=by decide
 have t4:Int.tmod 2 3=2:=by decide
 simp [f163.l2,f163.FG,w1,w2,w3,w4,wi,t1,t2,t3,t4,Gr]
theorem SC (hk:10<=k) (a b c d:Int):f163 k m a b c d=some ((M7 m a b c d,()),()):=by
 obtain ⟨k,rfl⟩:∃j,k=j+10:=⟨k - 10,by omega⟩
 have s:=λ (sk:f163.E1) (m:List ((Int×Int)×Int)) (a b c x:Int) (l:List ET) (i:Nat) (h:i <10)=>SD (k:=k+10) (m:=m) (sk:=sk) l a b c x i (k+10) (by omega) (by omega)
 simp only [f163,f163.ES]
 rw [f163.l0,f163.E0,if_pos (by simp),if_pos (by simp),if_pos (by simp)]
 have e0:=s (f163.l0 (k+10) (k+9)) (jU q7 (jU q7 m (a,b)) (b,a)) a d c 2 [(a,(d,c)),(b,(c,d))] 0 (by omega)
 have e1:=s (f163.l0 (k+10) (k+8)) (Gr (jU q7 (jU q7 m (a,b)) (b,a)) (a,(d,c))) b c d 2 [(a,(d,c)),(b,(c,d))] 1 (by omega)
 refine Eq.trans e0 ?_
 rw [f163.l0,f163.E0,if_pos (by simp),if_pos (by simp),if_pos (by simp)]
 refine Eq.trans e1 ?_
 rw [f163.l0,f163.E0,if_neg (by simp)]
 rfl
end
end Go.Proofs.YtollcjadobpfdaaGreat.Rw
namespace Go.Proofs.YtollcjadobpfdaaGreat.Rw
open Go.Rx
section
variable {ps:List (Int×Int)} {k:Nat}
theorem Om (hk:4<=k) (ho:∀x∈ps,FJ x) {a b c d:Int} (ha:0<=a/\a <ps.length) (hb:0<=b/\b <ps.length) (hc:0<=c/\c <ps.length) (hd:0<=d/\d <ps.length):∃r,f72 k ps a b c d=some (r,())/\(r=true↔Gb (EZ ps) a b c d):=by
 obtain ⟨k,rfl⟩:∃j,k=j+4:=⟨k - 4,by omega⟩
 have J3:∀i,Ir (EZ ps i):=λ i=>by have:=G9 ho i;unfold FJ at this;unfold Ir;omega
 have h:=OF k (J3 a) (J3 b) (J3 c) (J3 d)
 simp only [f72,f72.ES]
 rw [if_pos ha.1,if_pos ha.2,if_pos hb.1,if_pos hb.2,if_pos hc.1,if_pos hc.2,if_pos hd.1,if_pos hd.2]
 unfold EZ at h
 rw [h,Option.bind_some,Ca,Ca]
 unfold Gb EZ
 generalize Gw _ _ _ _=D
 rcases Int.lt_trichotomy D 0 with g|g|g
 ·rw [if_neg (by unfold JY;rw [if_pos g];decide),if_neg (by unfold JY;rw [if_pos g];decide)]
  exact ⟨_,rfl,by simp;omega⟩
 ·rw [if_neg (by unfold JY;rw [if_neg (by omega),if_pos g];decide),if_pos (by unfold JY;rw [if_neg (by omega),if_pos g])]
  exact ⟨_,rfl,by rw [decide_eq_true_iff];omega⟩
 ·rw [if_pos (by unfold JY;rw [if_neg (by omega),if_neg (by omega)])]
  exact ⟨_,rfl,by simp;omega⟩
end
def Open (p:Int->Int×Int) (cs:List ET) (op:List (Int×Int)):Prop:=∀a b c d,((a,b),c)∈Fo cs->((b,a),d)∈Fo cs->Gb p a b c d->(a,b)∈op\/(b,a)∈op
section
variable {p:Int->Int×Int} {K n:Int} {cs:List ET} {a b c d:Int} {op:List (Int×Int)}
theorem Qh (h:Open p cs (op++[(a,b)])) (hn:∀c d,((a,b),c)∈Fo cs->((b,a),d)∈Fo cs-> ¬Gb p a b c d):Open p cs op:=by
 intro a' b' c' d' h1 h2 hw
 rcases h a' b' c' d' h1 h2 hw with g|g
 ·rcases List.mem_append.1 g with g|g
  ·exact .inl g
  ·simp only [List.mem_singleton,Prod.mk.injEq] at g
   obtain ⟨rfl,rfl⟩:=g
   exact absurd hw (hn _ _ h1 h2)
 ·rcases List.mem_append.1 g with g|g
  ·exact .inr g
  ·simp only [List.mem_singleton,Prod.mk.injEq] at g
   obtain ⟨rfl,rfl⟩:=g
   exact absurd (MY.2 hw) (hn _ _ h2 h1)
theorem Qg (h:Fm p K n cs) (h1:((a,b),c)∈Fo cs) (h2:((b,a),d)∈Fo cs) (hw:Gb p a b c d) (ho:Open p cs (op++[(a,b)])):Open p (GP cs a b c d) (op++[(b,c),(c,a),(a,d),(d,b)]):=by
 obtain ⟨_,a0,b0,c0,J9⟩:=FV h h1
 obtain ⟨_,_,_,d0,Ka⟩:=FV h h2
 obtain ⟨v1,v2⟩:=JV J9 Ka (show 0<=Gw (p a) (p b) (p c) (p d) by unfold Gb at hw;omega)
 have hF:=h.flip h1 h2 v1 v2
 have Qd:=Jl h h1 v1 v2
 have Qe:=Jl h h2 v2 v1
 have Eb:((c,d),b)∈Fo (GP cs a b c d):=(GB h h1 h2).2 (.inr (.inr (by simp [Fu])))
 have fd:((d,c),a)∈Fo (GP cs a b c d):=(GB h h1 h2).2 (.inr (.inl (by simp [Fu])))
 have Ei:=OD hw
 have new:∀{u v x:Int},((u,v),x)∈Fu (a,(d,c))\/((u,v),x)∈Fu (b,(c,d))->(u,v)∈op++[(b,c),(c,a),(a,d),(d,b)]\/(u,v)=(c,d)\/(u,v)=(d,c):=λ {u v x} g=>by
  rw [GA,GA] at g
  simp only [Prod.mk.injEq] at g
  have g':(u=a/\v=d)\/(u=d/\v=c)\/(u=c/\v=a)\/(u=b/\v=c)\/(u=c/\v=d)\/(u=d/\v=b):=by omega
  rcases g' with ⟨rfl,rfl⟩|⟨rfl,rfl⟩|⟨rfl,rfl⟩|⟨rfl,rfl⟩|⟨rfl,rfl⟩|⟨rfl,rfl⟩
  ·exact .inl (by simp)
  ·exact .inr (.inr rfl)
  ·exact .inl (by simp)
  ·exact .inl (by simp)
  ·exact .inr (.inl rfl)
  ·exact .inl (by simp)
 have diag:∀{u v x y:Int},((u,v),x)∈Fo (GP cs a b c d)->((v,u),y)∈Fo (GP cs a b c d)->Gb p u v x y->(u,v)=(c,d)\/(u,v)=(d,c)->False:=λ {u v x y} g1 g2 w g=>by
  rcases g with g|g<;>simp only [Prod.mk.injEq] at g<;>obtain ⟨rfl,rfl⟩:=g
  ·obtain rfl:=IB hF g1 Eb
   obtain rfl:=IB hF g2 fd
   exact Ei w
  ·obtain rfl:=IB hF g1 fd
   obtain rfl:=IB hF g2 Eb
   exact Ei (MY.2 w)
 intro a' b' c' d' k1 k2 w
 rcases (GB h h1 h2).1 k1 with ⟨g1,q1,q2,q3,q4,q5,q6⟩|g1
 ·rcases (GB h h1 h2).1 k2 with ⟨g2,r1,r2,r3,r4,r5,r6⟩|g2
  ·rcases ho a' b' c' d' g1 g2 w with z|z
   ·rcases List.mem_append.1 z with z|z
    ·exact .inl (List.mem_append_left _ z)
    ·exact absurd (List.mem_singleton.1 z) q1
   ·rcases List.mem_append.1 z with z|z
    ·exact .inr (List.mem_append_left _ z)
    ·exact absurd (List.mem_singleton.1 z) r1
  ·rcases new g2 with z|z
   ·exact .inr z
   ·refine (diag k1 k2 w ?_).elim
    rcases z with z|z<;>simp only [Prod.mk.injEq] at z
    ·exact .inr (by rw [z.1,z.2])
    ·exact .inl (by rw [z.1,z.2])
 ·rcases new g1 with z|z
  ·exact .inl z
  ·exact (diag k1 k2 w z).elim
end
section
variable {ps:List (Int×Int)} {k:Nat} {K:Int} {Dv:List ET->Nat}
theorem Q7 (ho:∀x∈ps,FJ x) (S2:∀cs a b c d,Fm (EZ ps) K ps.length cs->((a,b),c)∈Fo cs->((b,a),d)∈Fo cs->Gb (EZ ps) a b c d->Dv (GP cs a b c d) <Dv cs):
 ∀(M:Nat) (cs:List ET) (m:List ((Int×Int)×Int)) (op:List (Int×Int)),Fm (EZ ps) K ps.length cs->Ij m cs->op.length+4 * Dv cs<=M->M<=8000000000000->Open (EZ ps) cs op->
 ∃m' cs',(∀k n,10<=k->M <n->f115.l2 k n m op ps=(f164 k m').bind (λ r3=>some (r3.2.1,())))/\Fm (EZ ps) K ps.length cs'/\Ij m' cs'/\(∀a b c d,((a,b),c)∈Fo cs'->((b,a),d)∈Fo cs'-> ¬Gb (EZ ps) a b c d):=by
 classical
 intro M
 induction M with
 |zero=>
  intro cs m op oy hm hl hb hop
  have:op=[]:=List.length_eq_zero_iff.1 (by omega)
  subst this
  refine ⟨m,cs,λ k n hk hn=> ?_,oy,hm,λ a b c d h1 h2 hw=> ?_⟩
  ·obtain ⟨n,rfl⟩:∃j,n=j+1:=⟨n - 1,by omega⟩
   rw [f115.l2,f115.FG,if_neg (by simp)]
  ·rcases hop a b c d h1 h2 hw with z|z<;>cases z
 |succ M ih=>
  intro cs m op oy hm hl hb hop
  rcases List.eq_nil_or_concat op with rfl|⟨op,⟨a,b⟩,rfl⟩
  ·refine ⟨m,cs,λ k n hk hn=> ?_,oy,hm,λ a b c d h1 h2 hw=> ?_⟩
   ·obtain ⟨n,rfl⟩:∃j,n=j+1:=⟨n - 1,by omega⟩
    rw [f115.l2,f115.FG,if_neg (by simp)]
   ·rcases hop a b c d h1 h2 hw with z|z<;>cases z
  ·rw [List.concat_eq_append] at *
   have hlen:(op++[(a,b)]).length=op.length+1:=by simp
   have hw:AJ (((op++[(a,b)]).length:Int) - 1)=(op.length:Int):=by rw [hlen,CV (by omega) (by omega)];omega
   have bG:(op++[(a,b)]).getD op.length (0,0)=(a,b):=by rw [List.getD_eq_getElem?_getD,List.getElem?_append_right (Nat.le_refl _)];simp
   have Tv:(op++[(a,b)]).take op.length=op:=by simp
   rw [hlen] at hl
   have one:=λ k n=>show f115.l2 k (n+1) m (op++[(a,b)]) ps=_ by
    rw [f115.l2,f115.FG,if_pos (by omega),hw,if_pos (by omega),if_pos (by omega),if_pos (by omega),if_pos (by omega),Int.toNat_natCast,bG,Tv]
   have skip:(∀c d,((a,b),c)∈Fo cs->((b,a),d)∈Fo cs-> ¬Gb (EZ ps) a b c d)->(∀k n,10<=k->∃c d,f115.l2 k (n+1) m (op++[(a,b)]) ps=f115.KD k (f115.l2 k n) m op ps a b c d true)->∃m' cs',(∀k n,10<=k->M+1 <n->f115.l2 k n m (op++[(a,b)]) ps=(f164 k m').bind (λ r3=>some (r3.2.1,())))/\Fm (EZ ps) K ps.length cs'/\Ij m' cs'/\(∀a b c d,((a,b),c)∈Fo cs'->((b,a),d)∈Fo cs'-> ¬Gb (EZ ps) a b c d):=λ hno hs=>by
    obtain ⟨m',cs',e1,e2⟩:=ih cs m op oy hm (by omega) (by omega) (Qh hop hno)
    refine ⟨m',cs',λ k n hk hn=> ?_,e2⟩
    obtain ⟨n,rfl⟩:∃j,n=j+1:=⟨n - 1,by omega⟩
    obtain ⟨c,d,hs⟩:=hs k n hk
    rw [hs,f115.KD,f115.IQ,if_pos rfl,f115.b3,f115.O8]
    exact e1 k n hk (by omega)
   by_cases g1:(dA q7 m (a,b)).isSome=true
   ·by_cases g2:(dA q7 m (b,a)).isSome=true
    ·obtain ⟨c,hc⟩:=Option.isSome_iff_exists.1 g1
     obtain ⟨d,hd⟩:=Option.isSome_iff_exists.1 g2
     have h1:=(hm.get _ _).1 hc
     have h2:=(hm.get _ _).1 hd
     obtain ⟨_,a0,b0,c0,J9⟩:=FV oy h1
     obtain ⟨_,_,_,d0,Ka⟩:=FV oy h2
     have two:∀k n,10<=k->∃r,f115.l2 k (n+1) m (op++[(a,b)]) ps=f115.KD k (f115.l2 k n) m op ps a b c d (decide (¬(r=true)))/\(r=true↔Gb (EZ ps) a b c d):=λ k n hk=>by
      obtain ⟨r,er,hr⟩:=Om (show 4<=k by omega) ho a0 b0 c0 d0
      refine ⟨r, ?_,hr⟩
      rw [one k n,if_neg (by exact not_not_intro g1),if_neg (by exact not_not_intro g2)]
      rw [show dA (kB (.pair (.int .i64) (.int .i64))) m (a,b)=some c from hc,show dA (kB (.pair (.int .i64) (.int .i64))) m (b,a)=some d from hd]
      simp only [Option.getD_some,er,f116,f116.ES,Option.bind_some]
      rw [if_neg (by decide)]
     by_cases w:Gb (EZ ps) a b c d
     ·obtain ⟨v1,v2⟩:=JV J9 Ka (show 0<=Gw (EZ ps a) (EZ ps b) (EZ ps c) (EZ ps d) by unfold Gb at w;omega)
      have hlt:=S2 cs a b c d oy h1 h2 w
      obtain ⟨m',cs',e1,e2⟩:=ih (GP cs a b c d) (M7 m a b c d) (op++[(b,c),(c,a),(a,d),(d,b)]) (oy.flip h1 h2 v1 v2) (RN oy h1 h2 v1 v2 hm) (by simp;omega) (by omega) (Qg oy h1 h2 w hop)
      refine ⟨m',cs',λ k n hk hn=> ?_,e2⟩
      obtain ⟨n,rfl⟩:∃j,n=j+1:=⟨n - 1,by omega⟩
      obtain ⟨r,er,hr⟩:=two k n hk
      rw [er,hr.2 w,f115.KD,f115.IQ,if_neg (by simp),SC hk,Option.bind_some,if_pos (by simp;omega),f115.b3,f115.O8]
      exact e1 k n hk (by omega)
     ·refine skip (λ c' d' k1 k2 w'=> ?_) λ k n hk=> ?_
      ·obtain rfl:=IB oy k1 h1
       obtain rfl:=IB oy k2 h2
       exact w w'
      ·obtain ⟨r,er,hr⟩:=two k n hk
       rw [show r=false by rcases Bool.eq_false_or_eq_true r with z|z;exact absurd (hr.1 z) w;exact z] at er
       exact ⟨c,d,er⟩
    ·refine skip (λ c' d' k1 k2 _=>g2 ((hm.some _).2 (Gl.2 ⟨_,k2⟩))) λ k n hk=> ?_
     rw [one k n,if_neg (by exact not_not_intro g1),if_pos (by exact g2)]
     exact ⟨_,_,rfl⟩
   ·refine skip (λ c' d' k1 k2 _=>g1 ((hm.some _).2 (Gl.2 ⟨_,k1⟩))) λ k n hk=> ?_
    rw [one k n,if_pos (by exact g1)]
    exact ⟨_,_,rfl⟩
end
end Go.Proofs.YtollcjadobpfdaaGreat.Rw
namespace Go.Proofs.YtollcjadobpfdaaGreat.Rw
open Go.Rx Go.Sort
def Iw (x y:Int×Int):Int:=if x.1 <y.1 then -1 else if y.1 <x.1 then 1 else if x.2 <y.2 then -1 else if y.2 <x.2 then 1 else 0
def G8 (x y:Int×Int):Prop:=x.1 <y.1\/x.1=y.1/\x.2 <y.2
theorem OG {x y:Int×Int}:Iw x y <0↔G8 x y:=by
 unfold Iw G8
 split
 ·constructor<;>intro<;>omega
 ·split
  ·constructor<;>intro<;>omega
  ·split
   ·constructor<;>intro<;>omega
   ·split<;>constructor<;>intro<;>omega
theorem M3 (k:Nat) (a b:Int):f63 k a b=some (if a <b then -1 else if b <a then 1 else 0,()):=by
 simp only [f63,f63.ES,f108,f108.ES]
 by_cases h1:a <b<;>by_cases h2:b <a<;>simp [h1,h2]
theorem Un (k:Nat) (a b c d:Int):f14 (k+3) [a,b] [c,d]=some (Iw (a,b) (c,d),()):=by
 have w1:AJ 1=1:=CV (by omega) (by omega)
 have w2:AJ 2=2:=CV (by omega) (by omega)
 simp only [f14,f14.ES]
 simp [f14.l0,f14.E0,M3,w1,w2,Iw]
 by_cases h1:a <c
 ·simp [h1]
 ·by_cases h2:c <a
  ·simp [h1,h2]
  ·by_cases h3:b <d
   ·simp [h1,h2,h3]
   ·by_cases h4:d <b<;>simp [h1,h2,h3,h4]
theorem OS (x y:Int×Int):nX (λ x y=>some (Iw x y,())) x y=true↔G8 x y:=decide_eq_true_iff.trans OG
theorem Mk (x y:Int×Int):nX (λ x y=>some (Iw x y,())) x y=false↔ ¬G8 x y:=by rw [<-OS];simp
theorem UQ:SWO (nX λ x y:Int×Int=>some (Iw x y,())) where
 irrefl x:=by rw [Mk];simp [G8]
 trans x y z h1 h2:=by rw [OS] at *; unfold G8 at *; omega
 ntrans x y z h1 h2:=by rw [Mk] at *; unfold G8 at *; omega
theorem PE (l:List (Int×Int)) (hl:l.length<=1000000000000000):∃m:List (Int×Int),qe (e:=.pair (.int .i64) (.int .i64)) (λ x y=>some (Iw x y,())) l=some ((m,()),())/\m.Perm l/\m.Pairwise λ x y=>¬G8 y x:=by
 obtain ⟨m,h1,h2,h3⟩:=vW (e:=.pair (.int .i64) (.int .i64)) (f:=λ x y=>some (Iw x y,())) (l:=l) (λ _ _=>rfl) UQ (Nat.lt_of_le_of_lt hl (by decide))
 refine ⟨m,h1,h2,List.Pairwise.imp (λ h=>(Mk _ _).1 h) h3⟩
end Go.Proofs.YtollcjadobpfdaaGreat.Rw
namespace Go.Proofs.YtollcjadobpfdaaGreat.Rw
open Go.Rx Go.Sort
theorem Kn {α:Type} {lt:α->α->Prop} (asym:∀x y,lt x y-> ¬lt y x):∀{l m:List α},l.Pairwise lt->m.Pairwise lt->(∀x,x∈l↔x∈m)->l=m
 | [],[],_,_,_=>rfl
 | [],y::m,_,_,h=>by have:=(h y).2 (by simp);simp at this
 |x::l,[],_,_,h=>by have:=(h x).1 (by simp);simp at this
 |x::l,y::m,h1,h2,h=>by
  rw [List.pairwise_cons] at h1 h2
  have hxy:x=y:=by
   rcases List.mem_cons.1 ((h x).1 (by simp)) with e|e
   ·exact e
   ·rcases List.mem_cons.1 ((h y).2 (by simp)) with e2|e2
    ·exact e2.symm
    ·exact absurd (h2.1 _ e) (asym _ _ (h1.1 _ e2))
  subst hxy
  have TW: ¬lt x x:=λ z=>asym _ _ z z
  congr 1
  refine Kn asym h1.2 h2.2 λ z=>⟨λ hz=> ?_,λ hz=> ?_⟩
  ·rcases List.mem_cons.1 ((h z).1 (List.mem_cons_of_mem _ hz)) with rfl|e
   ·exact absurd (h1.1 _ hz) TW
   ·exact e
  ·rcases List.mem_cons.1 ((h z).2 (List.mem_cons_of_mem _ hz)) with rfl|e
   ·exact absurd (h2.1 _ hz) TW
   ·exact e
def IY (x y:ET):Int:=if x.1 <y.1 then -1 else if y.1 <x.1 then 1 else Iw x.2 y.2
theorem Sn {x y:ET}:IY x y <0↔F8 x y:=by
 unfold IY F8
 have:=OG (x:=x.2) (y:=y.2)
 unfold G8 at this
 split
 ·constructor<;>intro<;>omega
 ·split
  ·constructor<;>intro<;>omega
  ·rw [this];constructor<;>intro<;>omega
theorem Q0 (k:Nat) (a b c d e f:Int):f14 (k+4) [a,b,c] [d,e,f]=some (IY (a,(b,c)) (d,(e,f)),()):=by
 have w1:AJ 1=1:=CV (by omega) (by omega)
 have w2:AJ 2=2:=CV (by omega) (by omega)
 have w3:AJ 3=3:=CV (by omega) (by omega)
 simp only [f14,f14.ES]
 simp [f14.l0,f14.E0,M3,w1,w2,w3,IY,Iw]
 by_cases h1:a <d
 ·simp [h1]
 ·by_cases h2:d <a
  ·simp [h1,h2]
  ·by_cases h3:b <e
   ·simp [h1,h2,h3]
   ·by_cases h4:e <b
    ·simp [h1,h2,h3,h4]
    ·by_cases h5:c <f
     ·simp [h1,h2,h3,h4,h5]
     ·by_cases h6:f <c<;>simp [h1,h2,h3,h4,h5,h6]
theorem OT (x y:ET):nX (λ x y=>some (IY x y,())) x y=true↔F8 x y:=decide_eq_true_iff.trans Sn
theorem Ml (x y:ET):nX (λ x y=>some (IY x y,())) x y=false↔ ¬F8 x y:=by rw [<-OT];simp
theorem UR:SWO (nX λ x y:ET=>some (IY x y,())) where
 irrefl x:=by rw [Ml];unfold F8;omega
 trans x y z h1 h2:=by rw [OT] at *; unfold F8 at *; omega
 ntrans x y z h1 h2:=by rw [Ml] at *; unfold F8 at *; omega
theorem Si (l:List ET) (hl:l.length<=1000000000000000):∃m:List ET,qe (e:=.pair (.int .i64) (.pair (.int .i64) (.int .i64))) (λ x y=>some (IY x y,())) l=some ((m,()),())/\m.Perm l/\m.Pairwise λ x y=>¬F8 y x:=by
 obtain ⟨m,h1,h2,h3⟩:=vW (e:=.pair (.int .i64) (.pair (.int .i64) (.int .i64))) (f:=λ x y=>some (IY x y,())) (l:=l) (λ _ _=>rfl) UR (Nat.lt_of_le_of_lt hl (by decide))
 refine ⟨m,h1,h2,List.Pairwise.imp (λ h=>(Ml _ _).1 h) h3⟩
theorem P9 (x y:ET) (h:F8 x y): ¬F8 y x:=by unfold F8 at *; omega
theorem NC (x y:Int×Int) (h:G8 x y): ¬G8 y x:=by unfold G8 at *; omega
theorem Mc {k:Nat} (hk:4<=k) (l:List ET) (hl:l.length<=1000000000000000):∃m:List ET,f30 k l ()=some ((m,()),())/\m.Perm l/\m.Pairwise λ x y=>¬F8 y x:=by
 obtain ⟨m,h1,h2,h3⟩:=Si l hl
 refine ⟨m, ?_,h2,h3⟩
 have he:(λ x y=>f76 k x y)=λ x y=>some (IY x y,()):=by
  obtain ⟨k,rfl⟩:∃m,k=m+4:=⟨k - 4,by omega⟩
  funext x y
  simp only [f76,f76.ES,Q0]
  rfl
 show qe (e:=.pair (.int .i64) (.pair (.int .i64) (.int .i64))) (λ x y=>f76 k x y) l=_
 exact (congrArg (λ f=>qe (e:=.pair (.int .i64) (.pair (.int .i64) (.int .i64))) f l) he).trans h1
theorem PG {k:Nat} (hk:4<=k) (l:List (Int×Int)) (hl:l.length<=1000000000000000):∃m:List (Int×Int),f95 k l ()=some ((m,()),())/\m.Perm l/\m.Pairwise λ x y=>¬G8 y x:=by
 obtain ⟨m,h1,h2,h3⟩:=PE l hl
 refine ⟨m, ?_,h2,h3⟩
 have he:(λ x y=>f162 k x y)=λ x y=>some (Iw x y,()):=by
  obtain ⟨k,rfl⟩:∃m,k=m+3:=⟨k - 3,by omega⟩
  funext x y
  simp only [f162,f162.ES,Un]
  rfl
 show qe (e:=.pair (.int .i64) (.int .i64)) (λ x y=>f162 k x y) l=_
 exact (congrArg (λ f=>qe (e:=.pair (.int .i64) (.int .i64)) f l) he).trans h1
theorem Ko {α:Type} {lt:α->α->Prop} (tot:∀x y,¬lt y x->x≠y->lt x y) {m:List α} (h:m.Pairwise λ x y=>¬lt y x) (hn:m.Nodup):m.Pairwise lt:=
 (List.pairwise_and_iff.2 ⟨h,hn⟩).imp λ h=>tot _ _ h.1 h.2
theorem Tj (x y:ET) (h: ¬F8 y x) (hn:x≠y):F8 x y:=by
 obtain ⟨a,b,c⟩:=x
 obtain ⟨d,e,f⟩:=y
 simp only [ne_eq,Prod.mk.injEq] at hn
 unfold F8 at *
 simp only at *
 omega
theorem Ti (x y:Int×Int) (h: ¬G8 y x) (hn:x≠y):G8 x y:=by
 obtain ⟨a,b⟩:=x
 obtain ⟨d,e⟩:=y
 simp only [ne_eq,Prod.mk.injEq] at hn
 unfold G8 at *
 simp only at *
 omega
def IN (c:ET):Prop:=c.1≠c.2.1/\c.2.1≠c.2.2/\c.1≠c.2.2
theorem QV {k n:Nat} (hn:3<=n) {sk:f35.E1} (y:List ET) (hy:y.length<=5864062014634) (c:ET) (hc:IN c) (mm:List ET) (nk:Int) (i:Nat) (hi:i <4611686018427387904):f35.l2 k sk n y c.1 c.2.1 c.2.2 mm nk (i:Int)=sk (y++[Ff c]) mm nk ((i+1:Nat):Int):=by
 obtain ⟨n,rfl⟩:∃j,n=j+3:=⟨n - 3,by omega⟩
 have wi:AJ ((i:Int)+1)=((i+1:Nat):Int):=by rw [CV (by omega) (by omega)];omega
 have stop:∀(n:Nat) (u v w:Int),u <v->u <w->f35.l2 k sk (n+1) y u v w mm nk (i:Int)=sk (y++[(u,(v,w))]) mm nk ((i+1:Nat):Int):=λ n u v w h1 h2=>by
  rw [f35.l2,f35.FG,if_neg (by omega),decide_eq_false (by omega),f35.r5,f35.JC,if_neg (by simp),if_pos (by omega),wi]
 have go:∀(n:Nat) (u v w:Int),v <u\/w <u->f35.l2 k sk (n+1) y u v w mm nk (i:Int)=f35.l2 k sk n y v w u mm nk (i:Int):=λ n u v w h=>by
  rw [f35.l2,f35.FG]
  by_cases h1:v <u
  ·rw [if_pos h1,f35.r5,f35.JC,if_pos rfl]
  ·rw [if_neg h1,decide_eq_true (by omega),f35.r5,f35.JC,if_pos rfl]
 obtain ⟨u,v,w⟩:=c
 obtain ⟨d1,d2,d3⟩:=hc
 simp only at d1 d2 d3 ⊢
 unfold Ff
 simp only
 by_cases c1:u <v/\u <w
 ·rw [stop _ _ _ _ c1.1 c1.2,if_pos (by omega)]
 ·rw [go _ _ _ _ (by omega),if_neg (by omega)]
  by_cases c2:v <w/\v <u
  ·rw [stop _ _ _ _ c2.1 c2.2,if_pos (by omega)]
  ·rw [go _ _ _ _ (by omega),if_neg (by omega),stop _ _ _ _ (by omega) (by omega)]
theorem Lj {k:Nat} (hk:10<=k) {l:List ET} (hd:∀c∈l,IN c) (hl:l.length<=5864062014634):∀(d i n:Nat) (y:List ET),i+d=l.length->d <n->y.length=i->
 f35.l0 k n y l (l.length:Int) (i:Int)=(f30 k (y++(l.drop i).map Ff) ()).bind λ r1=>some (r1.1.1,())
 |d,i,0,y,hi,hn,hy=>by omega
 | 0,i,n+1,y,hi,hn,hy=>by
   rw [f35.l0,f35.E0,if_neg (by omega),List.drop_of_length_le (by omega)]
   simp
 |d+1,i,n+1,y,hi,hn,hy=>by
  have h:i <l.length:=by omega
  have e:l.getD (i:Int).toNat (0,(0,0))=l[i]:=by simp [List.getD_eq_getElem?_getD,List.getElem?_eq_getElem h]
  have s:=QV (k:=k) (n:=k) (by omega) (sk:=f35.l0 k n) y (by omega) l[i] (hd _ (List.getElem_mem h)) l (l.length:Int) i (by omega)
  rw [f35.l0,f35.E0,if_pos (by omega),if_pos (by omega),if_pos (by omega),e]
  refine Eq.trans s ?_
  rw [Lj hk hd hl d (i+1) n _ (by omega) (by omega) (by simp;omega),List.drop_eq_getElem_cons h,List.map_cons,List.append_assoc]
  rfl
theorem QU {k:Nat} {l:List ET} (hk:l.length+10<=k) (hd:∀c∈l,IN c) (hl:l.length<=5864062014634):∃m,f35 k l=some (m,())/\m.Perm (l.map Ff)/\m.Pairwise λ x y=>¬F8 y x:=by
 obtain ⟨m,h1,h2,h3⟩:=Mc (k:=k) (by omega) (l.map Ff) (by simp;omega)
 refine ⟨m, ?_,h2,h3⟩
 simp only [f35,f35.ES]
 have:=Lj (k:=k) (by omega) hd hl l.length 0 k [] (by omega) (by omega) rfl
 refine Eq.trans this ?_
 rw [List.nil_append,List.drop_zero,h1]
 rfl
end Go.Proofs.YtollcjadobpfdaaGreat.Rw
namespace Go.Proofs.YtollcjadobpfdaaGreat.Rw
open Go.Rx Go.Sort
section
variable {β:Type}
theorem LM {α:Type}:∀{l:List α} {i:Nat} (hi:i <l.length),l.Perm (l[i]::l.eraseIdx i)
 |y::l,0,hi=>.refl _
 |y::l,i+1,hi=>by
  rw [List.eraseIdx_cons_succ,List.getElem_cons_succ]
  exact ((LM (l:=l) (i:=i) (by simpa using hi)).cons y).trans (List.Perm.swap ..)
theorem LL {l:List ((Int×Int)×β)} (hn:(l.map Prod.fst).Nodup) {i:Nat} (hi:i <l.length):((l.eraseIdx i).map Prod.fst).Nodup/\∀kv∈l.eraseIdx i,kv.1≠l[i].1:=by
 have h:=((LM hi).map Prod.fst).nodup_iff.1 hn
 rw [List.map_cons,List.nodup_cons] at h
 exact ⟨h.2,λ kv hk z=>h.1 (List.mem_map.2 ⟨kv,hk,z⟩)⟩
end
def vU (kv:(Int×Int)×Int):Prop:=kv.1.1 <kv.1.2/\kv.1.1 <kv.2
def LH (kv:(Int×Int)×Int):ET:=(kv.1.1,(kv.1.2,kv.2))
def I9 (c:ET):Prop:=c.1 <c.2.1/\c.1 <c.2.2/\c.2.1≠c.2.2
theorem I9.Vr {c:ET} (h:I9 c):Ff c=c:=by
 unfold I9 at h;unfold Ff;rw [if_pos (by omega)]
theorem I9.Uo {c:ET} (h:I9 c):IN c:=by
 unfold I9 at h;unfold IN;omega
theorem Lo:∀{l:List ET},(∀c∈l,I9 c)->l.map Ff=l
 | [],_=>rfl
 |c::l,h=>by rw [List.map_cons,(h c (List.mem_cons_self ..)).Vr,Lo λ d hd=>h d (List.mem_cons_of_mem _ hd)]
section
variable {k:Nat} {m:List ((Int×Int)×Int)} {R:List ET}
theorem KQ (hk:200000<=k) (hR:R.Pairwise F8):∀(n:Nat) (cur:Option ((Int×Int)×Int)) (left:List ((Int×Int)×Int)) (y:List ET),left.length <n->left.length+y.length<=100000->y.Nodup->(∀c∈y,I9 c)->(left.map Prod.fst).Nodup->(∀kv∈left,vU kv->kv.1.2≠kv.2)->(∀kv∈left,LH kv∉y)->(∀c,c∈R↔c∈y\/∃kv∈left,vU kv/\LH kv=c)->
 f164.l0 k n m cur left y=some ((m,()),(R,()))
 | 0,cur,left,y,hn,hl,yn,yo,ln,lo,dj,hm=>by omega
 |n+1,cur,left,y,hn,hl,yn,yo,ln,lo,dj,hm=>by
  rw [f164.l0,f164.E0]
  refine AK (λ h=> ?_) (λ i hi=> ?_)
  ·subst h
   obtain ⟨s,h1,h2,h3⟩:=QU (k:=k) (l:=y) (by omega) (λ c hc=>(yo c hc).Uo) (by omega)
   rw [Lo yo] at h2
   have e:s=R:=Kn P9 (Ko Tj h3 (h2.nodup_iff.2 yn)) hR λ c=>by
    rw [h2.mem_iff,hm];simp
   rw [h1,Option.bind_some,e]
  ·have hx:=List.getElem_mem hi
   obtain ⟨k1,k2⟩:=LL ln hi
   have hlen:(left.eraseIdx i).length+1=left.length:=by rw [List.length_eraseIdx_of_lt hi];omega
   have drop: ¬vU left[i]->f164.DF k (f164.l0 k n) m left[i] (left.eraseIdx i) y=some ((m,()),(R,())):=λ g=>by
    rw [f164.DF,f164.Pc]
    refine KQ hk hR n _ _ y (by omega) (by omega) yn yo k1 (λ kv h=>lo kv ((F6 hi kv).2 (.inr h))) (λ kv h=>dj kv ((F6 hi kv).2 (.inr h))) λ c=> ?_
    rw [hm]
    refine or_congr Iff.rfl ⟨λ ⟨kv,a,b,c⟩=> ?_,λ ⟨kv,a,b,c⟩=>⟨kv,(F6 hi kv).2 (.inr a),b,c⟩⟩
    rcases (F6 hi kv).1 a with rfl|a
    ·exact absurd b g
    ·exact ⟨kv,a,b,c⟩
   have take:vU left[i]->f164.DF k (f164.l0 k n) m left[i] (left.eraseIdx i) (y++[LH left[i]])=some ((m,()),(R,())):=λ g=>by
    rw [f164.DF,f164.Pc]
    refine KQ hk hR n _ _ _ (by omega) (by simp;omega) ?_ ?_ k1 (λ kv h=>lo kv ((F6 hi kv).2 (.inr h))) ?_ λ c=> ?_
    ·rw [List.nodup_append]
     refine ⟨yn,by simp,λ a ha b hb=> ?_⟩
     rw [List.mem_singleton] at hb;subst hb
     exact λ z=>dj _ hx (z▸ha)
    ·intro c hc
     rcases List.mem_append.1 hc with hc|hc
     ·exact yo c hc
     ·rw [List.mem_singleton] at hc;subst hc
      exact ⟨g.1,g.2,lo _ hx g⟩
    ·intro kv h z
     rcases List.mem_append.1 z with z|z
     ·exact dj kv ((F6 hi kv).2 (.inr h)) z
     ·rw [List.mem_singleton] at z
      simp only [LH,Prod.mk.injEq] at z
      exact k2 kv h (Prod.ext z.1 z.2.1)
    ·rw [hm,List.mem_append,List.mem_singleton]
     constructor
     ·rintro (h|⟨kv,a,b,h⟩)
      ·exact .inl (.inl h)
      ·rcases (F6 hi kv).1 a with rfl|a
       ·exact .inl (.inr h.symm)
       ·exact .inr ⟨kv,a,b,h⟩
     ·rintro ((h|h)|⟨kv,a,b,h⟩)
      ·exact .inl h
      ·exact .inr ⟨left[i],hx,g,h.symm⟩
      ·exact .inr ⟨kv,(F6 hi kv).2 (.inr a),b,h⟩
   by_cases g1:left[i].1.1 <left[i].1.2
   ·rw [if_pos g1,f164.r5,f164.JC]
    by_cases g2:left[i].1.1 <left[i].2
    ·rw [if_pos (decide_eq_true g2),if_pos (by omega)]
     exact take ⟨g1,g2⟩
    ·rw [if_neg (by simpa using g2)]
     exact drop λ z=>g2 z.2
   ·rw [if_neg g1,f164.r5,f164.JC,if_neg (by simp)]
    exact drop λ z=>g1 z.1
end
theorem PW (N:Nat):∃D:List (Int×Int),D.length=N * N/\∀e:Int×Int,0<=e.1->e.1 <N->0<=e.2->e.2 <N->e∈D:=by
 refine ⟨(List.range N).flatMap λ (i:Nat)=>(List.range N).map λ (j:Nat)=>((i:Int),(j:Int)), ?_,λ e h1 h2 h3 h4=> ?_⟩
 ·have:∀M:Nat,((List.range M).flatMap λ (i:Nat)=>(List.range N).map λ (j:Nat)=>((i:Int),(j:Int))).length=M * N:=λ M=>by
   induction M with
   |zero=>simp
   |succ M ih=>rw [List.range_succ,List.flatMap_append,List.length_append,ih];simp [Nat.succ_mul]
  exact this N
 ·rw [List.mem_flatMap]
  refine ⟨e.1.toNat,List.mem_range.2 (by omega),List.mem_map.2 ⟨e.2.toNat,List.mem_range.2 (by omega),Prod.ext (by simp only;omega) (by simp only;omega)⟩⟩
section
variable {p:Int->Int×Int} {K:Int} {N:Nat} {cs:List ET} {m:List ((Int×Int)×Int)} {k:Nat}
theorem IG (h:Fm p K N cs):3 * cs.length<=N * N:=by
 obtain ⟨D,h1,h2⟩:=PW N
 have:=Gm h.HM λ e he=>by
  obtain ⟨a,b,c⟩:=Jk h he
  exact h2 e a.1 a.2 b.1 b.2
 rw [Jc,h1] at this
 exact this
theorem Mm (h:Fm p K N cs) (hm:Ij m cs):m.length<=N * N:=by
 have h1:=Gm hm.keys λ e he=>(hm.some e).1 (Kj.2 he)
 rw [List.length_map,Jc] at h1
 exact Nat.le_trans h1 (IG h)
theorem My (h:Fm p K N cs) {c:ET} (hc:c∈cs):I9 c:=by
 obtain ⟨lo,hb,hd,sv,q8,FY⟩:=h.cell c hc
 exact ⟨hb,hd,λ z=>by rw [z] at FY;have:=E3 (p c.1) (p c.2.2);omega⟩
theorem P8 (hN:N<=200) (h:Fm p K N cs) (hm:Ij m cs):∃R,(∀k,200000<=k->f164 k m=some ((m,()),(R,())))/\R.Perm cs/\R.Pairwise F8:=by
 obtain ⟨R,_,h2,h3⟩:=Si cs (by have:=IG h;have:=Nat.mul_le_mul hN hN;omega)
 have hn:cs.Nodup:=Hh h.HM
 have hR:=Ko Tj h3 (h2.nodup_iff.2 hn)
 refine ⟨R,λ k hk=> ?_,h2,hR⟩
 have hlen:=Mm h hm
 have:=Nat.mul_le_mul hN hN
 have Q2:∀kv,kv∈m↔kv∈Fo cs:=λ kv=>by
  rw [<-hm.get kv.1 kv.2,Ln hm.keys]
 simp only [f164,f164.ES]
 refine KQ hk hR k none m [] (by omega) (by simp;omega) (by simp) (by simp) hm.keys (λ kv hkv g=> ?_) (by simp) λ c=> ?_
 ·have:=FV h (a:=kv.1.1) (b:=kv.1.2) (x:=kv.2) ((Q2 kv).1 hkv)
  intro z
  have FY:=this.2.2.2.2
  rw [<-z] at FY
  have:=E3 (p kv.1.1) (p kv.1.2);omega
 ·rw [h2.mem_iff]
  simp only [List.not_mem_nil,false_or]
  constructor
  ·intro hc
   have nc:=My h hc
   refine ⟨((c.1,c.2.1),c.2.2),(Q2 _).2 (List.mem_flatMap.2 ⟨c,hc,by simp [Fu]⟩),⟨nc.1,nc.2.1⟩,rfl⟩
  ·rintro ⟨kv,hkv,g,rfl⟩
   have:=(FV h (a:=kv.1.1) (b:=kv.1.2) (x:=kv.2) ((Q2 kv).1 hkv)).1
   have e:Ff (kv.1.1,(kv.1.2,kv.2))=LH kv:=by
    unfold Ff;rw [if_pos (by simp only;have:=g.1;have:=g.2;omega)];rfl
   rw [<-e];exact this
theorem MB {cs:List ET} (hl:cs.length<=1000000):∀(d:Nat) (i n:Nat) (m:List ((Int×Int)×Int)),4<=k->i+d=cs.length->d <n->f69.l0 k n m (i:Int) cs (cs.length:Int)=some (((cs.drop i).foldl Gr m,()),())
 | 0,i,n+1,m,hk,hd,hn=>by
   rw [f69.l0,f69.E0,if_neg (by omega),List.drop_of_length_le (by omega)]
   rfl
 |d+1,i,n+1,m,hk,hd,hn=>by
  have hi:i <cs.length:=by omega
  rw [f69.l0,f69.E0,if_pos (by omega),if_pos (by omega),if_pos (by omega)]
  rw [Nk _ _ _ _ _ i k (by omega) (by omega),MB hl d (i+1) n _ hk (by omega) (by omega)]
  rw [List.drop_eq_getElem_cons hi,List.foldl_cons]
  simp [List.getD_eq_getElem?_getD,List.getElem?_eq_getElem hi]
end
section
variable {ps:List (Int×Int)} {k:Nat} {K:Int} {m:List ((Int×Int)×Int)} {S:List (Int×Int)} {v:List ET×Unit}
theorem OJ (hk:200000<=k) (hS:S.Pairwise G8) (hV:f115.l2 k k m S ps=some v):∀(n:Nat) (cur:Option ((Int×Int)×Int)) (left:List ((Int×Int)×Int)) (y:List (Int×Int)),left.length <n->left.length+y.length<=100000->y.Nodup->(left.map Prod.fst).Nodup->(∀kv∈left,kv.1∉y)->(∀e,e∈S↔e∈y\/∃kv∈left,kv.1=e)->
 f115.l0 k n m cur left y ps=some v
 | 0,cur,left,y,hn,hl,yn,ln,dj,hm=>by omega
 |n+1,cur,left,y,hn,hl,yn,ln,dj,hm=>by
  rw [f115.l0,f115.E0]
  refine AK (λ h=> ?_) (λ i hi=> ?_)
  ·subst h
   obtain ⟨s,h1,h2,h3⟩:=PG (k:=k) (by omega) y (by omega)
   have e:s=S:=Kn NC (Ko Ti h3 (h2.nodup_iff.2 yn)) hS λ c=>by
    rw [h2.mem_iff,hm];simp
   rw [h1,Option.bind_some,e]
   exact hV
  ·have hx:=List.getElem_mem hi
   obtain ⟨k1,k2⟩:=LL ln hi
   have hlen:(left.eraseIdx i).length+1=left.length:=by rw [List.length_eraseIdx_of_lt hi];omega
   rw [if_pos (by omega)]
   refine OJ hk hS hV n _ _ _ (by omega) (by simp;omega) ?_ k1 ?_ λ e=> ?_
   ·rw [List.nodup_append]
    refine ⟨yn,by simp,λ a ha b hb=> ?_⟩
    rw [List.mem_singleton] at hb;subst hb
    intro z
    have z:a=left[i].1:=z
    exact dj _ hx (z▸ha)
   ·intro kv h z
    rcases List.mem_append.1 z with z|z
    ·exact dj kv ((F6 hi kv).2 (.inr h)) z
    ·rw [List.mem_singleton] at z
     exact k2 kv h z
   ·rw [hm,List.mem_append,List.mem_singleton]
    constructor
    ·rintro (h|⟨kv,a,h⟩)
     ·exact .inl (.inl h)
     ·rcases (F6 hi kv).1 a with rfl|a
      ·exact .inl (.inr h.symm)
      ·exact .inr ⟨kv,a,h⟩
    ·rintro ((h|h)|⟨kv,a,h⟩)
     ·exact .inl h
     ·exact .inr ⟨left[i],hx,h.symm⟩
     ·exact .inr ⟨kv,(F6 hi kv).2 (.inr a),h⟩
theorem Sq {Dv:List ET->Nat} {raw:List ET} (ho:∀x∈ps,FJ x) (hl:ps.length<=200) (oy:Fm (EZ ps) K ps.length (raw.map Ff)) (S2:∀cs a b c d,Fm (EZ ps) K ps.length cs->((a,b),c)∈Fo cs->((b,a),d)∈Fo cs->Gb (EZ ps) a b c d->Dv (GP cs a b c d) <Dv cs)
 (h2:40000+4 * Dv (raw.map Ff)<=8000000000000):∃R,(∀k,200000<=k->40000+4 * Dv (raw.map Ff) <k->f115 k ps raw ()=some (R,()))/\Fm (EZ ps) K ps.length R/\R.Pairwise F8/\∀a b c d,((a,b),c)∈Fo R->((b,a),d)∈Fo R-> ¬Gb (EZ ps) a b c d:=by
 have hm:=MM oy.HM
 have len:=IG oy
 have lm:=Mm oy hm
 have DA:=Nat.mul_le_mul hl hl
 rw [List.length_map] at len
 obtain ⟨S,s1,s2,s3⟩:=PE ((raw.foldl Gr []).map Prod.fst) (by rw [List.length_map];omega)
 have hS:=Ko Ti s3 (s2.nodup_iff.2 hm.keys)
 have EI:S.length=(raw.foldl Gr []).length:=by rw [s2.length_eq,List.length_map]
 obtain ⟨m',cs',e1,e2,e3,e4⟩:=Q7 (Dv:=Dv) ho S2 (40000+4 * Dv (raw.map Ff)) (raw.map Ff) (raw.foldl Gr []) S oy hm (by omega) (by omega) λ a b c d h1 h2 _=>.inl ((s2.mem_iff).2 (Kj.1 ((hm.some _).2 (Gl.2 ⟨_,h1⟩))))
 obtain ⟨R,r1,r2,r3⟩:=P8 hl e2 e3
 have Ea:∀x,x∈Fo R↔x∈Fo cs':=λ x=>by
  unfold Fo;simp only [List.mem_flatMap,r2.mem_iff]
 refine ⟨R,λ k hk h1=> ?_, ?_,r3,λ a b c d g1 g2=>e4 a b c d ((Ea _).1 g1) ((Ea _).1 g2)⟩
 ·have e1:=e1 k k (by omega) h1
  rw [r1 k hk,Option.bind_some] at e1
  have f0:=MB (k:=k) (cs:=raw) (by omega) raw.length 0 k [] (by omega) (by omega) (by omega)
  have fe:f69 k raw=some ((raw.foldl Gr [],()),()):=by
   simp only [f69,f69.ES]
   exact f0
  simp only [f115,f115.ES,fe,Option.bind_some]
  exact OJ hk hS e1 k none _ [] (by omega) (by simp;omega) (by simp) hm.keys (by simp) λ e=>by
   rw [s2.mem_iff,List.mem_map];simp
 ·have D9:(EX R).Perm (EX cs'):=r2.flatMap_right _
  exact ⟨e2.kpos,e2.Fg,λ c hc=>e2.cell c (r2.mem_iff.1 hc),D9.nodup_iff.2 e2.HM,λ e he=>by rw [e2.I7 e (D9.mem_iff.1 he),D9.mem_iff],λ i i0 i1=>by
   obtain ⟨c,hc,h⟩:=e2.used i i0 i1
   exact ⟨c,r2.mem_iff.2 hc,h⟩⟩
end
end Go.Proofs.YtollcjadobpfdaaGreat.Rw
namespace Go.Proofs.YtollcjadobpfdaaGreat.Rw
open Go.Rx
def Gp (a:List (Int×Int)):Nat->List (Int×Int)
 | 0=>[]
 |i+1=>if i≠0/\a.getD i (0,0)=a.getD (i - 1) (0,0) then Gp a i else Gp a i++[a.getD i (0,0)]
theorem Ng (a:List (Int×Int)):∀i,(Gp a i).length<=i
 | 0=>Nat.le_refl _
 |i+1=>by
  have:=Ng a i
  unfold Gp
  split
  ·omega
  ·simp;omega
theorem HL {a:List (Int×Int)} {i:Nat} (h:i <a.length):a.take (i+1)=a.take i++[a.getD i (0,0)]:=by
 rw [List.take_add_one,List.getElem?_eq_getElem h,List.getD_eq_getElem?_getD,List.getElem?_eq_getElem h];rfl
theorem Jo {a:List (Int×Int)} (ha:a.length<=1000000000000000) {k0:Nat} (hk:k0 <a.length):∀(d m:Nat) (y:List (Int×Int)) (i:Nat),k0+m+d=a.length->1<=m->y.length=a.length->i=(Gp a (k0+m)).length->y.take i=Gp a (k0+m)->(∀q,k0+m<=q+1->y.getD q (0,0)=a.getD q (0,0))->i <k0+m->
 qN (λ k n l=>f135.l2 k (f135.l0 k n) l y (i:Int) ((k0:Int)).toNat ((a.length:Int).toNat - ((k0:Int)).toNat) (m:Int)) ((Gp a a.length,()),())
 | 0,m,y,i,hd,hm,hy,hi,ht,hq,hlt=>by
   have e:k0+m=a.length:=by omega
   rw [e] at hi ht hlt
   refine qN.step (g:=λ _ _ _=>some ((Gp a a.length,()),())) (λ k n l=> ?_) (gb.pure _).three
   have hcl:(xV y ((0,0):Int×Int) i (y.length - i)).length=y.length:=by simp [xV];omega
   have Vm:(xV y ((0,0):Int×Int) i (y.length - i)).take i=y.take i:=by
    unfold xV
    rw [List.append_assoc,List.take_append_of_le_length (by rw [List.length_take];omega),List.take_take,Nat.min_self]
   rw [f135.l2,f135.FG,if_neg (by simp only [Int.toNat_natCast];omega),if_pos (by omega),if_pos (by omega),if_pos (by omega)]
   simp only [Int.toNat_natCast]
   rw [if_pos (by rw [hcl];omega),Vm,ht]
 |d+1,m,y,i,hd,hm,hy,hi,ht,hq,hlt=>by
  have m0:(0:Int)<=(m:Int):=by omega
  have m1:(m:Int) <(((a.length:Int).toNat - ((k0:Int)).toNat:Nat):Int):=by simp only [Int.toNat_natCast];omega
  have hw:AJ ((m:Int)+1)=((m+1:Nat):Int):=by rw [CV (by omega) (by omega)];omega
  have P5:AJ ((m:Int) - 1)=((m - 1:Nat):Int):=by rw [CV (by omega) (by omega)];omega
  have hwi:AJ ((i:Int)+1)=((i+1:Nat):Int):=by rw [CV (by omega) (by omega)];omega
  have q1:=hq (k0+m) (by omega)
  have q2:=hq (k0+(m - 1)) (by omega)
  have e2:k0+m - 1=k0+(m - 1):=by omega
  have e3:k0+(m+1)=k0+m+1:=by omega
  by_cases c:a.getD (k0+m) (0,0)=a.getD (k0+(m - 1)) (0,0)
  ·have hn:Gp a (k0+(m+1))=Gp a (k0+m):=by rw [e3,Gp,if_pos ⟨by omega,by rw [e2];exact c⟩]
   have ih:=Jo ha hk d (m+1) y i (by omega) (by omega) hy (by rw [hn];exact hi) (by rw [hn];exact ht) (λ q h=>hq q (by omega)) (by omega)
   refine qN.step (λ k n l=> ?_) ih
   rw [f135.l2,f135.FG,if_pos m1,if_pos m0,if_pos m1,P5,if_pos (by omega),if_pos (by simp only [Int.toNat_natCast];omega)]
   simp only [Int.toNat_natCast]
   rw [q1,q2,if_neg (λ z=>z (Prod.ext_iff.1 c)),f135.R6,f135.M0,hw]
  ·have hn:Gp a (k0+(m+1))=Gp a (k0+m)++[a.getD (k0+m) (0,0)]:=by rw [e3,Gp,if_neg (λ z=>c (by rw [e2] at z;exact z.2))]
   have hil:i <y.length:=by omega
   have ih:=Jo ha hk d (m+1) (y.set i (a.getD (k0+m) (0,0))) (i+1) (by omega) (by omega) (by simpa using hy) (by rw [hn];simp;exact hi) (by
    rw [hn,HL (by simpa using hil),List.take_set_of_le (Nat.le_refl _),ht]
    congr 1
    rw [List.getD_eq_getElem?_getD,List.getElem?_set_self hil];rfl) (λ q h=>by
     rw [List.getD_eq_getElem?_getD,List.getElem?_set_ne (by omega), <-List.getD_eq_getElem?_getD];exact hq q (by omega)) (by omega)
   refine qN.step (λ k n l=> ?_) ih
   rw [f135.l2,f135.FG,if_pos m1,if_pos m0,if_pos m1,P5,if_pos (by omega),if_pos (by simp only [Int.toNat_natCast];omega)]
   simp only [Int.toNat_natCast] at m1 ⊢
   rw [q1,q2,if_pos (λ z=>c (Prod.ext_iff.2 z)),if_pos m0,if_pos m1,if_pos (by omega),if_pos (by omega),f135.R6,f135.M0,hw,hwi]
theorem KH {a:List (Int×Int)} (ha:a.length<=1000000000000000):∀(d i:Nat),i+d=a.length->1<=i->Gp a i=a.take i->
 gb (λ k n=>f135.l0 k n a (i:Int)) ((Gp a a.length,()),())
 | 0,i,hd,h1,hc=>by
   have e:i=a.length:=by omega
   subst e
   rw [List.take_length] at hc
   refine gb.step (g:=λ _ _=>some ((a,()),())) (λ k n=> ?_) (by rw [hc];exact gb.pure _)
   rw [f135.l0,f135.E0,if_neg (by omega)]
 |d+1,i,hd,h1,hc=>by
  have i0:(0:Int)<=(i:Int):=by omega
  have i1:(i:Int) <(a.length:Int):=by omega
  have hw:AJ ((i:Int)+1)=((i+1:Nat):Int):=by rw [CV (by omega) (by omega)];omega
  have P5:AJ ((i:Int) - 1)=((i - 1:Nat):Int):=by rw [CV (by omega) (by omega)];omega
  by_cases c:a.getD i (0,0)=a.getD (i - 1) (0,0)
  ·have hn:Gp a (i+1)=Gp a i:=by rw [Gp,if_pos ⟨by omega,c⟩]
   have hl:(Gp a i).length=i:=by rw [hc,List.length_take];omega
   have h2:=Jo ha (k0:=i) (by omega) d 1 a i (by omega) (by omega) rfl (by rw [hn];exact hl.symm) (by rw [hn];exact hc.symm) (λ q _=>rfl) (by omega)
   refine gb.step (λ k n=> ?_) h2.Dm
   rw [f135.l0,f135.E0,if_pos i1,if_pos i0,if_pos i1,P5,if_pos (by omega),if_pos (by omega)]
   rw [show ((i:Int)).toNat=i from Int.toNat_natCast i,show (((i - 1:Nat):Int)).toNat=i - 1 from Int.toNat_natCast _,if_pos (Prod.ext_iff.1 c),if_pos i0,if_pos (by omega)]
   rfl
  ·have ih:=KH ha d (i+1) (by omega) (by omega) (by rw [Gp,if_neg (λ z=>c z.2),hc,HL (by omega)])
   refine gb.step (λ k n=> ?_) ih
   rw [f135.l0,f135.E0,if_pos i1,if_pos i0,if_pos i1,P5,if_pos (by omega),if_pos (by omega)]
   rw [show ((i:Int)).toNat=i from Int.toNat_natCast i,show (((i - 1:Nat):Int)).toNat=i - 1 from Int.toNat_natCast _,if_neg (λ z=>c (Prod.ext_iff.2 z)),f135.DY,f135.QS,hw]
theorem Ov (a:List (Int×Int)) (ha:a.length<=1000000000000000):Ev (λ k=>f135 k a) ((Gp a a.length,()),()):=by
 simp only [f135,f135.ES]
 by_cases c:(a.length:Int) <2
 ·refine Ev.of (g:=λ _=>some ((Gp a a.length,()),())) (λ k=> ?_) (Ev.pure _)
  rw [if_pos c]
  match a,c with
  | [],_=>rfl
  | [x],_=>simp [Gp]
  |_::_::_,c=>simp at c;omega
 ·refine Ev.of (λ k=>by rw [if_neg c];rfl) (KH ha (a.length - 1) 1 (by omega) (by omega) ?_).diag
  rw [HL (by omega),Gp,if_neg (λ z=>z.1 rfl)]
  rfl
theorem MA {a:List (Int×Int)} (hs:a.Pairwise (λ x y=>¬G8 y x)):∀i,i<=a.length->(Gp a i).Pairwise G8/\(∀x,x∈Gp a i↔x∈a.take i)/\(∀x∈Gp a i,i=0\/ ¬G8 (a.getD (i - 1) (0,0)) x)
 | 0,_=>⟨List.Pairwise.nil,λ x=>by simp [Gp],λ x h=>by simp [Gp] at h⟩
 |i+1,hi=>by
  obtain ⟨h1,h2,h3⟩:=MA hs i (by omega)
  have hle:∀x∈a.take i,¬G8 (a.getD i (0,0)) x:=λ x hx=>by
   obtain ⟨j,hj,rfl⟩:=List.mem_iff_getElem.1 hx
   rw [List.length_take] at hj
   rw [List.getElem_take,List.getD_eq_getElem?_getD,List.getElem?_eq_getElem (by omega:i <a.length)]
   exact List.pairwise_iff_getElem.1 hs j i (by omega) (by omega) (by omega)
  have hir:∀x:Int×Int,¬G8 x x:=λ x h=>by unfold G8 at h;omega
  rw [Gp]
  split
  ·rename_i hc
   obtain ⟨hc0,hc⟩:=hc
   refine ⟨h1,λ x=> ?_,λ x hx=>.inr ?_⟩
   ·rw [h2,HL (by omega),List.mem_append,List.mem_singleton]
    refine ⟨.inl,λ h=>h.elim id λ e=> ?_⟩
    subst e
    rw [hc]
    have:a.take i=a.take (i - 1)++[a.getD (i - 1) (0,0)]:=by rw [<-HL (by omega),show i - 1+1=i by omega]
    rw [this];simp
   ·rw [Nat.add_sub_cancel,hc]
    exact (h3 x hx).resolve_left hc0
  ·rename_i hc
   refine ⟨List.pairwise_append.2 ⟨h1,List.pairwise_singleton _ _,λ x hx y hy=> ?_⟩,λ x=> ?_,λ x hx=>.inr ?_⟩
   ·rw [List.mem_singleton] at hy
    subst hy
    rcases h3 x hx with rfl|h
    ·simp [Gp] at hx
    ·by_cases e:i=0
     ·subst e;simp [Gp] at hx
     ·have g1:=hle (a.getD (i - 1) (0,0)) (by
       have:a.take i=a.take (i - 1)++[a.getD (i - 1) (0,0)]:=by rw [<-HL (by omega),show i - 1+1=i by omega]
       rw [this];simp)
      have g2: ¬((a.getD i (0,0)).1=(a.getD (i - 1) (0,0)).1/\(a.getD i (0,0)).2=(a.getD (i - 1) (0,0)).2):=λ z=>hc ⟨e,Prod.ext z.1 z.2⟩
      unfold G8 at *
      omega
   ·rw [HL (by omega),List.mem_append,List.mem_append,h2]
   ·rw [Nat.add_sub_cancel]
    rcases List.mem_append.1 hx with hx|hx
    ·exact hle x ((h2 x).1 hx)
    ·rw [List.mem_singleton] at hx;subst hx;exact hir _
end Go.Proofs.YtollcjadobpfdaaGreat.Rw
namespace Go.Proofs.YtollcjadobpfdaaGreat.Rw
open Go.Rx Go.Sort
theorem PY (k:Nat) (l:List (Int×Int)) (hl:l.length<=1000000):f133u k l=some (l,()):=by
 cases l with
 |nil=>rfl
 |cons a l=>
  show (if false=true then some (([]:List (Int×Int)),()) else if (([]:List (Int×Int)).length+(a::l).length) * 16<=140737488355328 then some (([]:List (Int×Int))++(a::l),()) else none)=some (a::l,())
  rw [if_neg (by simp),if_pos (by simp at hl ⊢; omega)]
  rfl
theorem N8 {k:Nat} (l:List (Int×Int)) (hl:l.length<=1000000000000000):∃m:List (Int×Int),f134 k l ()=some ((m,()),())/\m.Perm l/\m.Pairwise λ x y=>¬G8 y x:=by
 obtain ⟨m,h1,h2,h3⟩:=PE l hl
 refine ⟨m, ?_,h2,h3⟩
 have he:(λ x y=>f117 k x y)=λ x y=>some (Iw x y,()):=by
  funext x y
  simp only [f117,f117.ES,M3,Option.bind_some]
  unfold Iw
  by_cases h1:x.1 <y.1
  ·simp [h1]
  ·by_cases h2:y.1 <x.1<;>simp [h1,h2]
 show qe (e:=.pair (.int .i64) (.int .i64)) (λ x y=>f117 k x y) l=_
 exact (congrArg (λ f=>qe (e:=.pair (.int .i64) (.int .i64)) f l) he).trans h1
theorem Qw (l:List (Int×Int)) (hl:l.length<=1000000):∃p:List (Int×Int),Ev (λ k=>f113 k l) (p,())/\p.Pairwise G8/\(∀x,x∈p↔x∈l)/\p.length<=l.length:=by
 obtain ⟨m,h1,h2,h3⟩:=N8 (k:=0) l (by omega)
 have lm:=h2.length_eq
 obtain ⟨K,hc⟩:=Ov m (by omega)
 obtain ⟨s1,s2,_⟩:=MA h3 m.length (Nat.le_refl _)
 refine ⟨Gp m m.length,⟨K,λ k hk=> ?_⟩,s1,λ x=>by rw [s2,List.take_length,h2.mem_iff],by have:=Ng m m.length;omega⟩
 obtain ⟨m',g1,g2,g3⟩:=N8 (k:=k) l (by omega)
 have e:f134 k l ()=some ((m,()),()):=by
  rw [<-h1]
  have he:(λ x y=>f117 k x y)=λ x y=>f117 0 x y:=by
   funext x y
   simp only [f117,f117.ES,M3]
  show qe (e:=.pair (.int .i64) (.int .i64)) (λ x y=>f117 k x y) l=qe (e:=.pair (.int .i64) (.int .i64)) (λ x y=>f117 0 x y) l
  exact congrArg (λ f=>qe (e:=.pair (.int .i64) (.int .i64)) f l) he
 simp only [f113,f113.ES]
 rw [PY k l (by omega),Option.bind_some,e,Option.bind_some,show f135 k ((m,()),()).1.1=_ from hc k hk,Option.bind_some]
theorem MR {p:List (Int×Int)} (h:p.Pairwise G8):IK p:=λ i h0 h1=>by
 have:=List.pairwise_iff_getElem.1 h (i - 1).toNat i.toNat (by omega) (by omega) (by omega)
 unfold EZ
 rw [List.getD_eq_getElem?_getD,List.getElem?_eq_getElem (by omega:(i - 1).toNat <p.length),List.getD_eq_getElem?_getD,List.getElem?_eq_getElem (by omega:i.toNat <p.length)]
 exact this
theorem N9 {α:Type} {f:α->Int} {B:Int}:∀{l:List α},(∀x∈l,0<=f x/\f x<=B)->0<=FB f l/\FB f l<=B * l.length
 | [],_=>by simp [FB]
 |x::l,h=>by
  have a:=h x (List.mem_cons_self ..)
  have b:=N9 (l:=l) λ y hy=>h y (List.mem_cons_of_mem _ hy)
  simp only [FB,List.length_cons]
  have:B * ((l.length+1:Nat):Int)=B * l.length+B:=by rw [Int.natCast_add,Int.mul_add];simp
  omega
section
variable {p:Int->Int×Int} {K:Int} {N:Nat} {o:Int×Int} {cs:List ET}
theorem Qc (h:Fm p K N cs) (hN:N<=10) (hp:∀i:Int,0<=i->i <N->(-64<=(p i).1 - o.1/\(p i).1 - o.1<=64)/\ -64<=(p i).2 - o.2/\(p i).2 - o.2<=64):0<=FB (KC p o N) cs/\FB (KC p o N) cs<=600000000000:=by
 have len:=IG h
 have DA:=Nat.mul_le_mul hN hN
 have each:∀c∈cs,0<=KC p o N c/\KC p o N c<=16106127390:=λ c hc=>by
  obtain ⟨lo,hb,hd,sv,q8,FY⟩:=h.cell c hc
  have pa:=hp c.1 lo (by omega)
  have pb:=hp c.2.1 (by omega) sv
  have pd:=hp c.2.2 (by omega) q8
  have s:∀i:Int,(-64<=(p i).1 - o.1/\(p i).1 - o.1<=64)/\ -64<=(p i).2 - o.2/\(p i).2 - o.2<=64->0<=JD (p i) o/\JD (p i) o<=8192:=λ i hi=>by
   refine ⟨Jj _ _, ?_⟩
   have a:=H6 hi.1 hi.1 (by omega) (by omega)
   have b:=H6 hi.2 hi.2 (by omega) (by omega)
   unfold JD;omega
  have s1:=s _ pa
  have s2:=s _ pb
  have s3:=s _ pd
  have hx:EP (p c.1) (p c.2.1) (p c.2.2)<=32768:=by
   have a:=H6 (a:=(p c.2.1).1 - (p c.1).1) (b:=(p c.2.2).2 - (p c.1).2) (m:=128) (n:=128) (by omega) (by omega) (by omega) (by omega)
   have b:=H6 (a:=(p c.2.2).1 - (p c.1).1) (b:=(p c.2.1).2 - (p c.1).2) (m:=128) (n:=128) (by omega) (by omega) (by omega) (by omega)
   unfold EP;omega
  have v:0<=HS p o c/\HS p o c<=32768 * 24576:=by
   unfold HS
   refine ⟨Int.mul_nonneg (by omega) (by omega), ?_⟩
   exact Int.mul_le_mul hx (by omega) (by omega) (by omega)
  have m:0<=IZ c/\IZ c<=30:=by unfold IZ;omega
  have w:0<=2 * (N:Int) * HS p o c/\2 * (N:Int) * HS p o c<=20 * (32768 * 24576):=⟨Int.mul_nonneg (by omega) v.1,Int.mul_le_mul (by omega) v.2 v.1 (by omega)⟩
  unfold KC;omega
 obtain ⟨a,b⟩:=N9 each
 refine ⟨a, ?_⟩
 have:(cs.length:Int)<=33:=by omega
 have:=Int.mul_le_mul_of_nonneg_left this (show (0:Int)<=16106127390 by omega)
 omega
theorem Sx (h:Fm p K N cs) (hN:N<=10) (hp:∀i:Int,0<=i->i <N->(-64<=(p i).1 - o.1/\(p i).1 - o.1<=64)/\ -64<=(p i).2 - o.2/\(p i).2 - o.2<=64) {a b c d:Int} (h1:((a,b),c)∈Fo cs) (h2:((b,a),d)∈Fo cs) (hw:Gb p a b c d):(FB (KC p o N) (GP cs a b c d)).toNat <(FB (KC p o N) cs).toNat:=by
 have hlt:=Sw o h h1 h2 hw
 obtain ⟨_,_,_,_,J9⟩:=FV h h1
 obtain ⟨_,_,_,_,Ka⟩:=FV h h2
 obtain ⟨v1,v2⟩:=JV J9 Ka (show 0<=Gw (p a) (p b) (p c) (p d) by unfold Gb at hw;omega)
 have:=Qc (h.flip h1 h2 v1 v2) hN hp
 omega
end
end Go.Proofs.YtollcjadobpfdaaGreat.Rw
