/- Plain laws for TriCircles. No condition. -/
import Derived.Test.YtollcjadobpfdaaGreatRwTriCirclesa
set_option linter.unusedVariables false
set_option linter.unusedSimpArgs false
set_option linter.unusedSectionVars false
namespace Go.Proofs.YtollcjadobpfdaaGreat.Rw
def E4 (h v:Int×Int×Int):Int:=h.1 * v.1+h.2.1 * v.2.1+h.2.2 * v.2.2
theorem sq_nonneg (a:Int):0<=a * a:=by
 rcases Int.le_total 0 a with h|h
 ·exact Int.mul_nonneg h h
 ·exact Int.mul_nonneg_of_nonpos_of_nonpos h h
theorem JF {p1 p2 p3 Ds d1 d2 d3 d4:Int} (h1:0<=p1) (h2:0<=p2) (h3:0<=p3) (h4:0<=Ds) (g1:p1=0\/0 <d1) (g2:p2=0\/0 <d2) (g3:p3=0\/0 <d3) (g4:Ds=0\/0 <d4)
 (h:0 <p1\/0 <p2\/0 <p3\/0 <Ds):0 <p1 * d1+p2 * d2+p3 * d3+Ds * d4:=by
 have key:∀{p d:Int},0<=p->(p=0\/0 <d)->0<=p * d/\(0 <p->0 <p * d):=λ {p d} a b=>by
  rcases b with rfl|b
  ·simp
  ·exact ⟨Int.mul_nonneg a (by omega),λ c=>Int.mul_pos c b⟩
 have a1:=key h1 g1;have a2:=key h2 g2;have a3:=key h3 g3;have a4:=key h4 g4
 rcases h with h|h|h|h
 ·have:=a1.2 h;omega
 ·have:=a2.2 h;omega
 ·have:=a3.2 h;omega
 ·have:=a4.2 h;omega
theorem Sp (a1 b1 a2 b2 a3 b3:Int):∃m1 m2 m3:Int,(m1≠0\/m2≠0\/m3≠0)/\m1 * a1+m2 * a2+m3 * a3=0/\m1 * b1+m2 * b2+m3 * b3=0:=by
 by_cases h:a2 * b3 - a3 * b2=0/\a3 * b1 - a1 * b3=0/\a1 * b2 - a2 * b1=0
 ·by_cases g:a1=0/\b1=0
  ·obtain ⟨rfl,rfl⟩:=g
   exact ⟨1,0,0,.inl (by decide),by simp,by simp⟩
  ·refine ⟨a2 * a1+b2 * b1, -(a1 * a1+b1 * b1),0,.inr (.inl ?_), ?_, ?_⟩
   ·have h1:=sq_nonneg a1
    have h2:=sq_nonneg b1
    intro z
    have e1:a1 * a1=0:=by omega
    have e2:b1 * b1=0:=by omega
    exact g ⟨(Int.mul_eq_zero.1 e1).elim id id,(Int.mul_eq_zero.1 e2).elim id id⟩
   ·have:=h.2.2;grind
   ·have:=h.2.2;grind
 ·refine ⟨a2 * b3 - a3 * b2,a3 * b1 - a1 * b3,a1 * b2 - a2 * b1, ?_,by grind,by grind⟩
  omega
theorem Kr (l:Int):∃a b:Int,l=a - b/\0<=a/\0<=b/\(a=0\/b=0)/\(0 <l->0 <a)/\(0 < -l->0 <b):=⟨max l 0,max (-l) 0,by omega,by omega,by omega,by omega,by omega,by omega⟩
def GU (L:List (Int×Int×Int)):Prop:=∃v:Int×Int×Int,0 <v.2.2/\∀h∈L,0 <E4 h v
theorem Pj {A B C D:Int×Int×Int} {R:List (Int×Int×Int)} (m1:GU (B::C::D::R)) (m2:GU (A::C::D::R)) (m3:GU (A::B::D::R)) (m4:GU (A::B::C::R)):GU (A::B::C::D::R):=by
 obtain ⟨⟨x1,y1,w1⟩,p1,q1⟩:=m1
 obtain ⟨⟨x2,y2,w2⟩,p2,q2⟩:=m2
 obtain ⟨⟨e9,ox,w3⟩,p3,q3⟩:=m3
 obtain ⟨⟨k5,Ad,w4⟩,Ds,q4⟩:=m4
 simp only [List.mem_cons,forall_eq_or_imp] at q1 q2 q3 q4
 simp only at p1 p2 p3 Ds
 obtain ⟨m1,m2,m3,hm,e1,e2⟩:=Sp (w4 * x1 - w1 * k5) (w4 * y1 - w1 * Ad) (w4 * x2 - w2 * k5) (w4 * y2 - w2 * Ad) (w4 * e9 - w3 * k5) (w4 * ox - w3 * Ad)
 obtain ⟨l1,l2,l3,l4,hl,r1,r2,r3⟩:∃l1 l2 l3 l4:Int,(l1≠0\/l2≠0\/l3≠0\/l4≠0)/\l1 * x1+l2 * x2+l3 * e9+l4 * k5=0/\l1 * y1+l2 * y2+l3 * ox+l4 * Ad=0/\l1 * w1+l2 * w2+l3 * w3+l4 * w4=0:=by
  refine ⟨m1 * w4,m2 * w4,m3 * w4, -(m1 * w1+m2 * w2+m3 * w3), ?_,by grind,by grind,by grind⟩
  have hz:∀m:Int,m≠0->m * w4≠0:=λ m h z=>(Int.mul_eq_zero.1 z).elim h (by omega)
  rcases hm with h|h|h
  ·exact .inl (hz _ h)
  ·exact .inr (.inl (hz _ h))
  ·exact .inr (.inr (.inl (hz _ h)))
 have hpos:0 <l1\/0 <l2\/0 <l3\/0 <l4:=by
  apply Classical.byContradiction
  intro z
  have:=JF (p1:= -l1) (p2:= -l2) (p3:= -l3) (Ds:= -l4) (d1:=w1) (d2:=w2) (d3:=w3) (d4:=w4) (by omega) (by omega) (by omega) (by omega) (.inr p1) (.inr p2) (.inr p3) (.inr Ds) (by omega)
  grind
 have hneg:0 < -l1\/0 < -l2\/0 < -l3\/0 < -l4:=by
  apply Classical.byContradiction
  intro z
  have:=JF (p1:=l1) (p2:=l2) (p3:=l3) (Ds:=l4) (d1:=w1) (d2:=w2) (d3:=w3) (d4:=w4) (by omega) (by omega) (by omega) (by omega) (.inr p1) (.inr p2) (.inr p3) (.inr Ds) (by omega)
  omega
 obtain ⟨a1,b1,s1,TP,U0,UU,u1,t1⟩:=Kr l1
 obtain ⟨a2,b2,s2,a20,U2,UW,u2,t2⟩:=Kr l2
 obtain ⟨a3,b3,s3,TQ,U3,UX,u3,t3⟩:=Kr l3
 obtain ⟨a4,b4,s4,a40,U4,UY,u4,t4⟩:=Kr l4
 have pa:0 <a1\/0 <a2\/0 <a3\/0 <a4:=hpos.imp u1 (Or.imp u2 (Or.imp u3 u4))
 have pb:0 <b1\/0 <b2\/0 <b3\/0 <b4:=hneg.imp t1 (Or.imp t2 (Or.imp t3 t4))
 clear u1 u2 u3 u4 t1 t2 t3 t4 hpos hneg hl hm e1 e2
 subst s1 s2 s3 s4
 have En:∀h:Int×Int×Int,E4 h (a1 * x1+a2 * x2+a3 * e9+a4 * k5,a1 * y1+a2 * y2+a3 * ox+a4 * Ad,a1 * w1+a2 * w2+a3 * w3+a4 * w4)=a1 * E4 h (x1,y1,w1)+a2 * E4 h (x2,y2,w2)+a3 * E4 h (e9,ox,w3)+a4 * E4 h (k5,Ad,w4):=λ h=>by
  simp only [E4];grind
 have Eo:∀h:Int×Int×Int,E4 h (a1 * x1+a2 * x2+a3 * e9+a4 * k5,a1 * y1+a2 * y2+a3 * ox+a4 * Ad,a1 * w1+a2 * w2+a3 * w3+a4 * w4)=b1 * E4 h (x1,y1,w1)+b2 * E4 h (x2,y2,w2)+b3 * E4 h (e9,ox,w3)+b4 * E4 h (k5,Ad,w4):=λ h=>by
  simp only [E4];grind
 have one:∀{h:Int×Int×Int},(a1=0\/0 <E4 h (x1,y1,w1))->(a2=0\/0 <E4 h (x2,y2,w2))->(a3=0\/0 <E4 h (e9,ox,w3))->(a4=0\/0 <E4 h (k5,Ad,w4))->0 <E4 h (a1 * x1+a2 * x2+a3 * e9+a4 * k5,a1 * y1+a2 * y2+a3 * ox+a4 * Ad,a1 * w1+a2 * w2+a3 * w3+a4 * w4):=λ {h} c1 c2 c3 c4=>by
  rw [En];exact JF TP a20 TQ a40 c1 c2 c3 c4 pa
 have two:∀{h:Int×Int×Int},(b1=0\/0 <E4 h (x1,y1,w1))->(b2=0\/0 <E4 h (x2,y2,w2))->(b3=0\/0 <E4 h (e9,ox,w3))->(b4=0\/0 <E4 h (k5,Ad,w4))->0 <E4 h (a1 * x1+a2 * x2+a3 * e9+a4 * k5,a1 * y1+a2 * y2+a3 * ox+a4 * Ad,a1 * w1+a2 * w2+a3 * w3+a4 * w4):=λ {h} c1 c2 c3 c4=>by
  rw [Eo];exact JF U0 U2 U3 U4 c1 c2 c3 c4 pb
 refine ⟨(a1 * x1+a2 * x2+a3 * e9+a4 * k5,a1 * y1+a2 * y2+a3 * ox+a4 * Ad,a1 * w1+a2 * w2+a3 * w3+a4 * w4),JF TP a20 TQ a40 (.inr p1) (.inr p2) (.inr p3) (.inr Ds) pa, ?_⟩
 simp only [List.mem_cons,forall_eq_or_imp]
 refine ⟨?_, ?_, ?_, ?_,λ h hh=>one (.inr (q1.2.2.2 h hh)) (.inr (q2.2.2.2 h hh)) (.inr (q3.2.2.2 h hh)) (.inr (q4.2.2.2 h hh))⟩
 ·exact UU.elim (λ z=>one (.inl z) (.inr q2.1) (.inr q3.1) (.inr q4.1)) λ z=>two (.inl z) (.inr q2.1) (.inr q3.1) (.inr q4.1)
 ·exact UW.elim (λ z=>one (.inr q1.1) (.inl z) (.inr q3.2.1) (.inr q4.2.1)) λ z=>two (.inr q1.1) (.inl z) (.inr q3.2.1) (.inr q4.2.1)
 ·exact UX.elim (λ z=>one (.inr q1.2.1) (.inr q2.2.1) (.inl z) (.inr q4.2.2.1)) λ z=>two (.inr q1.2.1) (.inr q2.2.1) (.inl z) (.inr q4.2.2.1)
 ·exact UY.elim (λ z=>one (.inr q1.2.2.1) (.inr q2.2.2.1) (.inr q3.2.2.1) (.inl z)) λ z=>two (.inr q1.2.2.1) (.inr q2.2.2.1) (.inr q3.2.2.1) (.inl z)
theorem Sd:∀(n:Nat) (L:List (Int×Int×Int)),L.length=n->(∀a∈L,∀b∈L,∀c∈L,GU [a,b,c])->GU L
 |_,[],_,_=>⟨(0,0,1),by decide,λ h hh=>by cases hh⟩
 |_,[a],_,h=>by
  obtain ⟨v,h1,h2⟩:=h a (by simp) a (by simp) a (by simp)
  exact ⟨v,h1,λ x hx=>h2 x (by simp at hx;simp [hx])⟩
 |_,[a,b],_,h=>by
  obtain ⟨v,h1,h2⟩:=h a (by simp) b (by simp) b (by simp)
  exact ⟨v,h1,λ x hx=>h2 x (by simp at hx;simp [hx])⟩
 |_,[a,b,c],_,h=>h a (by simp) b (by simp) c (by simp)
 | 0,_::_::_::_::_,hn,_=>by cases hn
 |n+1,A::B::C::D::R,hn,h=>by
  have sub:∀L':List (Int×Int×Int),L'.length=n->(∀x∈L',x∈A::B::C::D::R)->GU L':=λ L' h1 h2=>Sd n L' h1 λ a ha b hb c hc=>h a (h2 a ha) b (h2 b hb) c (h2 c hc)
  simp only [List.length_cons] at hn
  refine Pj (sub _ (by simp;omega) ?_) (sub _ (by simp;omega) ?_) (sub _ (by simp;omega) ?_) (sub _ (by simp;omega) ?_)<;> · intro x hx;simp only [List.mem_cons] at hx ⊢; grind
end Go.Proofs.YtollcjadobpfdaaGreat.Rw
namespace Go.Proofs.YtollcjadobpfdaaGreat.Rw
def EP (a b c:Int×Int):Int:=(b.1 - a.1) * (c.2 - a.2) - (c.1 - a.1) * (b.2 - a.2)
def FK (a b:Int×Int):Int×Int×Int:=(a.2 - b.2,b.1 - a.1,a.1 * b.2 - a.2 * b.1)
theorem G5 (a b c:Int×Int):E4 (FK a b) (c.1,c.2,1)=EP a b c:=by
 simp only [E4,FK,EP];grind
theorem GK (a b c:Int×Int):EP b c a=EP a b c:=by simp only [EP];grind
theorem GJ (a b c:Int×Int):EP b a c= - EP a b c:=by simp only [EP];grind
theorem E3 (a b:Int×Int):EP a b a=0/\EP a b b=0:=by simp only [EP];constructor<;>grind
def FZ (a b c:Int×Int):List (Int×Int×Int):=[FK a b,FK b c,FK c a]
theorem GU.mono {L L':List (Int×Int×Int)} (h:GU L) (hs:∀x∈L',x∈L):GU L':=by
 obtain ⟨v,h1,h2⟩:=h
 exact ⟨v,h1,λ x hx=>h2 x (hs x hx)⟩
theorem HP {a b c v:Int×Int} (hp:0 <EP a b c) (hv:v=a\/v=b\/v=c) {h:Int×Int×Int} (hh:0 <E4 h (v.1,v.2,1)):GU (h::FZ a b c):=by
 have hp2:EP b c a=EP a b c:=GK a b c
 have w6:EP c a b=EP a b c:=(GK b c a).trans hp2
 have n0:∃N:Int,0 <N/\0 <N * E4 h (v.1,v.2,1)+E4 h (a.1+b.1+c.1,a.2+b.2+c.2,3):=by
  generalize E4 h (a.1+b.1+c.1,a.2+b.2+c.2,3)=z at *
  generalize E4 h (v.1,v.2,1)=y at *
  refine ⟨max z (-z)+1,by omega, ?_⟩
  have:max z (-z)+1<=(max z (-z)+1) * y:=by
   have:=Int.mul_le_mul_of_nonneg_left (show (1:Int)<=y by omega) (show 0<=max z (-z)+1 by omega)
   omega
  omega
 obtain ⟨N,hN,hz⟩:=n0
 have NA:∀g:Int×Int×Int,E4 g (N * v.1+(a.1+b.1+c.1),N * v.2+(a.2+b.2+c.2),N+3)=N * E4 g (v.1,v.2,1)+(E4 g (a.1,a.2,1)+E4 g (b.1,b.2,1)+E4 g (c.1,c.2,1)):=λ g=>by
  simp only [E4];grind
 refine ⟨(N * v.1+(a.1+b.1+c.1),N * v.2+(a.2+b.2+c.2),N+3),by show 0 <N+3;omega, ?_⟩
 have pos:∀g:Int×Int×Int,(0<=E4 g (a.1,a.2,1)/\0<=E4 g (b.1,b.2,1)/\0<=E4 g (c.1,c.2,1))->0 <E4 g (a.1,a.2,1)+E4 g (b.1,b.2,1)+E4 g (c.1,c.2,1)->0 <E4 g (N * v.1+(a.1+b.1+c.1),N * v.2+(a.2+b.2+c.2),N+3):=λ g h1 h2=>by
  rw [NA]
  have h3:0<=E4 g (v.1,v.2,1):=by rcases hv with rfl|rfl|rfl<;>omega
  have:=Int.mul_nonneg (Int.le_of_lt hN) h3
  omega
 have s1:=E3 a b;have s2:=E3 b c;have s3:=E3 c a
 simp only [FZ,List.mem_cons,List.not_mem_nil,or_false,forall_eq_or_imp,forall_eq]
 refine ⟨?_,pos _ ?_ ?_,pos _ ?_ ?_,pos _ ?_ ?_⟩
 ·rw [NA]
  have:E4 h (a.1+b.1+c.1,a.2+b.2+c.2,3)=E4 h (a.1,a.2,1)+E4 h (b.1,b.2,1)+E4 h (c.1,c.2,1):=by simp only [E4];grind
  omega
 all_goals simp only [G5];omega
theorem Pp {a b c d e f:Int×Int} (h1:0 <EP a b c) (h2:0 <EP d e f)
 (h3:∀g∈FZ a b c,0 <E4 g (d.1,d.2,1)\/0 <E4 g (e.1,e.2,1)\/0 <E4 g (f.1,f.2,1)) (h4:∀g∈FZ d e f,0 <E4 g (a.1,a.2,1)\/0 <E4 g (b.1,b.2,1)\/0 <E4 g (c.1,c.2,1)):
 GU (FZ a b c++FZ d e f):=by
 have k1:∀g∈FZ d e f,GU (g::FZ a b c):=λ g hg=>by
  rcases h4 g hg with h|h|h
  ·exact HP h1 (.inl rfl) h
  ·exact HP h1 (.inr (.inl rfl)) h
  ·exact HP h1 (.inr (.inr rfl)) h
 have k2:∀g∈FZ a b c,GU (g::FZ d e f):=λ g hg=>by
  rcases h3 g hg with h|h|h
  ·exact HP h2 (.inl rfl) h
  ·exact HP h2 (.inr (.inl rfl)) h
  ·exact HP h2 (.inr (.inr rfl)) h
 have k0:=k1 (FK d e) (by simp [FZ])
 have Ez:=k2 (FK a b) (by simp [FZ])
 refine Sd _ _ rfl λ x hx y hy z hz=> ?_
 rw [List.mem_append] at hx hy hz
 rcases hx with hx|hx<;>rcases hy with hy|hy<;>rcases hz with hz|hz
 ·exact k0.mono (by simp only [List.mem_cons] at *; grind)
 ·exact (k1 z hz).mono (by simp only [List.mem_cons] at *; grind)
 ·exact (k1 y hy).mono (by simp only [List.mem_cons] at *; grind)
 ·exact (k2 x hx).mono (by simp only [List.mem_cons] at *; grind)
 ·exact (k1 x hx).mono (by simp only [List.mem_cons] at *; grind)
 ·exact (k2 y hy).mono (by simp only [List.mem_cons] at *; grind)
 ·exact (k2 z hz).mono (by simp only [List.mem_cons] at *; grind)
 ·exact Ez.mono (by simp only [List.mem_cons] at *; grind)
end Go.Proofs.YtollcjadobpfdaaGreat.Rw
namespace Go.Proofs.YtollcjadobpfdaaGreat.Rw
def ER (K:Int) (q:Int×Int):Int:=K * q.1+q.2
def Fx (K:Int) (v:Int×Int×Int):Int:=K * v.1+v.2.1
theorem LS (K:Int) (a b c d:Int×Int) (S W:Int):
 ((ER K b * W - S) * EP c d a+(S - ER K a * W) * EP c d b)+((ER K d * W - S) * EP a b c+(S - ER K c * W) * EP a b d)=0:=by
 simp only [ER,EP];grind
theorem LR {K:Int} {a b c d:Int×Int} {S W:Int} (h1:ER K a * W <S) (h2:S <ER K b * W) (h3:ER K c * W <S) (h4:S <ER K d * W)
 (g1:0<=EP c d a) (g2:0<=EP c d b) (g3:0<=EP a b c) (g4:0<=EP a b d):EP c d a=0/\EP c d b=0/\EP a b c=0/\EP a b d=0:=by
 have e:=LS K a b c d S W
 have k1:=Int.mul_nonneg (show 0<=ER K b * W - S by omega) g1
 have k2:=Int.mul_nonneg (show 0<=S - ER K a * W by omega) g2
 have k3:=Int.mul_nonneg (show 0<=ER K d * W - S by omega) g3
 have k4:=Int.mul_nonneg (show 0<=S - ER K c * W by omega) g4
 have z:∀{x y:Int},0 <x->x * y=0->y=0:=λ h k=>(Int.mul_eq_zero.1 k).resolve_left (by omega)
 exact ⟨z (by omega) (show (ER K b * W - S) * _=0 by omega),z (by omega) (show (S - ER K a * W) * _=0 by omega),z (by omega) (show (ER K d * W - S) * _=0 by omega),z (by omega) (show (S - ER K c * W) * _=0 by omega)⟩
theorem MF (K:Int) (a b c:Int×Int) (v:Int×Int×Int):(ER K c - ER K a) * E4 (FK a b) v - (ER K b - ER K a) * E4 (FK a c) v=EP a b c * (Fx K v - ER K a * v.2.2):=by
 simp only [ER,Fx,EP,E4,FK];grind
theorem LQ (K:Int) (a b c:Int×Int) (v:Int×Int×Int):(ER K c - ER K a) * E4 (FK b c) v - (ER K c - ER K b) * E4 (FK a c) v=EP a b c * (ER K c * v.2.2 - Fx K v):=by
 simp only [ER,Fx,EP,E4,FK];grind
theorem Pq {K:Int} (hK:0 <K) {L:List (Int×Int×Int)} (h:GU L):∃v:Int×Int×Int,0 <v.2.2/\(∀g∈L,0 <E4 g v)/\∀m:Int,Fx K v≠m * v.2.2:=by
 obtain ⟨v,h1,h2⟩:=h
 have bound:∀L:List (Int×Int×Int),(∀g∈L,0 <E4 g v)->∃B:Int,0 <B/\∀g∈L,0 <B+g.1:=λ L=>by
  induction L with
  |nil=>exact λ _=>⟨1,by decide,λ g hg=>by cases hg⟩
  |cons g L ih=>
   intro hL
   obtain ⟨B,k1,k2⟩:=ih λ x hx=>hL x (List.mem_cons_of_mem _ hx)
   refine ⟨max B (1 - g.1),by omega,λ x hx=> ?_⟩
   rcases List.mem_cons.1 hx with rfl|hx
   ·omega
   ·have:=k2 x hx;omega
 obtain ⟨B,k1,k2⟩:=bound L h2
 have hT:0 <B+K+1:=by omega
 refine ⟨((B+K+1) * v.1+1,(B+K+1) * v.2.1,(B+K+1) * v.2.2),Int.mul_pos hT h1,λ g hg=> ?_,λ m hm=> ?_⟩
 ·have e:E4 g ((B+K+1) * v.1+1,(B+K+1) * v.2.1,(B+K+1) * v.2.2)=(B+K+1) * E4 g v+g.1:=by simp only [E4];grind
  rw [e]
  have:=k2 g hg
  have h3:=Int.mul_le_mul_of_nonneg_left (show (1:Int)<=E4 g v from h2 g hg) (Int.le_of_lt hT)
  omega
 ·have e:K=(B+K+1) * (m * v.2.2 - Fx K v):=by simp only [Fx] at hm ⊢; grind
  have hd:(B+K+1) ∣ K:=⟨_,e⟩
  have:=Int.le_of_dvd hK hd
  omega
end Go.Proofs.YtollcjadobpfdaaGreat.Rw
namespace Go.Proofs.YtollcjadobpfdaaGreat.Rw
abbrev ET:=Int×Int×Int
def EU (c:ET):List (Int×Int):=[(c.1,c.2.1),(c.2.1,c.2.2),(c.2.2,c.1)]
def EX (cs:List ET):List (Int×Int):=cs.flatMap EU
theorem Gm {α:Type}:∀{U D:List α},U.Nodup->(∀x∈U,x∈D)->U.length<=D.length
 | [],_,_,_=>Nat.zero_le _
 |x::U,D,h1,h2=>by
  rw [List.nodup_cons] at h1
  obtain ⟨s,t,rfl⟩:=List.append_of_mem (h2 x (by simp))
  have:=Gm (U:=U) (D:=s++t) h1.2 λ y hy=>by
   have hne:y≠x:=λ e=>h1.1 (e▸hy)
   have:=h2 y (by simp [hy])
   simp only [List.mem_append,List.mem_cons] at this ⊢
   grind
  simp only [List.length_append,List.length_cons] at this ⊢
  omega
theorem apart_eq {α β:Type} {f:α->List β}:∀{l:List α} {a b:α} {x:β},(l.flatMap f).Nodup->a∈l->b∈l->x∈f a->x∈f b->a=b
 |c::l,a,b,x,h,ha,hb,h1,h2=>by
  rw [List.flatMap_cons,List.nodup_append] at h
  rcases List.mem_cons.1 ha with ea|Dw<;>rcases List.mem_cons.1 hb with eb|DB
  ·rw [ea,eb]
  ·subst ea;exact absurd rfl (h.2.2 x h1 x (List.mem_flatMap.2 ⟨b,DB,h2⟩))
  ·subst eb;exact absurd rfl (h.2.2 x h2 x (List.mem_flatMap.2 ⟨a,Dw,h1⟩))
  ·exact apart_eq h.2.1 Dw DB h1 h2
theorem Hh:∀{cs:List ET},(EX cs).Nodup->cs.Nodup
 | [],_=>List.nodup_nil
 |c::cs,h=>by
  unfold EX at h
  rw [List.flatMap_cons,List.nodup_append] at h
  exact List.nodup_cons.2 ⟨λ hc=>absurd rfl (h.2.2 (c.1,c.2.1) (by simp [EU]) _ (List.mem_flatMap.2 ⟨c,hc,by simp [EU]⟩)),Hh h.2.1⟩
section
variable (p:Int->Int×Int) (K:Int)
def E2 (n:Int):Prop:=∀i j,0<=i->i <j->j <n->ER K (p i) <ER K (p j)
structure FX (n:Int) (c:ET):Prop where
 lo:0<=c.1
 b:c.1 <c.2.1
 d:c.1 <c.2.2
 sv:c.2.1 <n
 q8:c.2.2 <n
 FY:0 <EP (p c.1) (p c.2.1) (p c.2.2)
def P6 (c:ET) (v:Int×Int×Int):Prop:=0 <E4 (FK (p c.1) (p c.2.1)) v/\0 <E4 (FK (p c.2.1) (p c.2.2)) v/\0 <E4 (FK (p c.2.2) (p c.1)) v
def FD (v:Int×Int×Int) (e:Int×Int):Prop:=e.1 <e.2/\ER K (p e.1) * v.2.2 <Fx K v/\Fx K v <ER K (p e.2) * v.2.2
def Gi (v:Int×Int×Int) (e:Int×Int):Prop:=0 <E4 (FK (p e.1) (p e.2)) v
end
section
variable {p:Int->Int×Int} {K n:Int} {c d:ET} {v:Int×Int×Int}
theorem GX (hr:E2 p K n) (hc:FX p n c) (hw:0 <v.2.2) (hg:∀j,0<=j->j <n->Fx K v≠ER K (p j) * v.2.2) {e:Int×Int} (he:FD p K v e) (hm:e∈EU c\/(e.2,e.1)∈EU c):
 ∃u w:Int×Int,u∈EU c/\(w.2,w.1)∈EU c/\FD p K v u/\FD p K v w/\(∀x,x∈EU c->FD p K v x->x=u)/\(∀x:Int×Int,(x.2,x.1)∈EU c->FD p K v x->x=w)/\(0<=E4 (FK (p w.1) (p w.2)) v->Gi p v u):=by
 obtain ⟨i,y,z⟩:=c
 obtain ⟨a,b⟩:=e
 obtain ⟨lo,hb,hd,sv,q8,FY⟩:=hc
 simp only at lo hb hd sv q8 FY
 obtain ⟨e1,e2,e3⟩:=he
 simp only at e1 e2 e3
 have hyz:y≠z:=λ h=>by subst h;rw [(E3 (p i) (p y)).2] at FY;omega
 have r1:=hr i y lo hb sv
 have r2:=hr i z lo hd q8
 have Eu:=hg y (by omega) sv
 have Ew:=hg z (by omega) q8
 simp only [EU,List.mem_cons,List.not_mem_nil,or_false,Prod.mk.injEq] at hm
 have L1:=MF K (p i) (p y) (p z) v
 have L2:=LQ K (p i) (p y) (p z) v
 have L3:=MF K (p i) (p z) (p y) v
 have L4:=LQ K (p i) (p z) (p y) v
 have wo:EP (p i) (p z) (p y)= - EP (p i) (p y) (p z):=by simp only [EP];grind
 rw [wo] at L3 L4
 have IT:∀{x y:Int},0 <x->0 <x * y->0 <y:=λ {x y} h1 h2=>by
  rcases Int.lt_or_le 0 y with g|g
  ·exact g
  ·have:=Int.mul_nonneg (Int.le_of_lt h1) (show 0<= -y by omega);rw [Int.mul_neg] at this;omega
 have hi:ER K (p i) * v.2.2 <Fx K v:=by
  have ha:ER K (p i)<=ER K (p a):=by
   rcases hm with (⟨rfl,rfl⟩|⟨rfl,rfl⟩|⟨rfl,rfl⟩)| (⟨rfl,rfl⟩|⟨rfl,rfl⟩|⟨rfl,rfl⟩)<;>omega
  have:=Int.mul_le_mul_of_nonneg_right ha (Int.le_of_lt hw)
  omega
 have VH:Fx K v <ER K (p y) * v.2.2\/Fx K v <ER K (p z) * v.2.2:=by
  rcases hm with (⟨rfl,rfl⟩|⟨rfl,rfl⟩|⟨rfl,rfl⟩)| (⟨rfl,rfl⟩|⟨rfl,rfl⟩|⟨rfl,rfl⟩)
  ·exact .inl e3
  ·exact .inr e3
  ·omega
  ·omega
  ·exact .inl e3
  ·exact .inr e3
 clear hm e1 e2 e3
 rcases Int.lt_or_gt_of_ne hyz with h|h
 ·
  have r3:=hr y z (by omega) h q8
  have Vq:=Int.mul_lt_mul_of_pos_right r3 hw
  have hz:Fx K v <ER K (p z) * v.2.2:=by omega
  rcases Int.lt_or_gt_of_ne Eu with g|g
  ·refine ⟨(i,y),(i,z),by simp [EU],by simp [EU],⟨hb,hi,g⟩,⟨hd,hi,hz⟩, ?_, ?_,λ q=> ?_⟩
   ·rintro ⟨x1,x2⟩ hx ⟨t1,t2,t3⟩
    simp only [EU,List.mem_cons,List.not_mem_nil,or_false,Prod.mk.injEq] at hx t1 t2 t3 ⊢
    rcases hx with ⟨rfl,rfl⟩|⟨rfl,rfl⟩|⟨rfl,rfl⟩<;>omega
   ·rintro ⟨x1,x2⟩ hx ⟨t1,t2,t3⟩
    simp only [EU,List.mem_cons,List.not_mem_nil,or_false,Prod.mk.injEq] at hx t1 t2 t3 ⊢
    rcases hx with ⟨rfl,rfl⟩|⟨rfl,rfl⟩|⟨rfl,rfl⟩<;>omega
   ·have q:0<=E4 (FK (p i) (p z)) v:=q
    have m1:=Int.mul_nonneg (show 0<=ER K (p y) - ER K (p i) by omega) q
    have m2:=Int.mul_pos FY (show 0 <Fx K v - ER K (p i) * v.2.2 by omega)
    show 0 <E4 (FK (p i) (p y)) v
    exact IT (show 0 <ER K (p z) - ER K (p i) by omega) (by omega)
  ·refine ⟨(y,z),(i,z),by simp [EU],by simp [EU],⟨h,g,hz⟩,⟨hd,hi,hz⟩, ?_, ?_,λ q=> ?_⟩
   ·rintro ⟨x1,x2⟩ hx ⟨t1,t2,t3⟩
    simp only [EU,List.mem_cons,List.not_mem_nil,or_false,Prod.mk.injEq] at hx t1 t2 t3 ⊢
    rcases hx with ⟨rfl,rfl⟩|⟨rfl,rfl⟩|⟨rfl,rfl⟩<;>omega
   ·rintro ⟨x1,x2⟩ hx ⟨t1,t2,t3⟩
    simp only [EU,List.mem_cons,List.not_mem_nil,or_false,Prod.mk.injEq] at hx t1 t2 t3 ⊢
    rcases hx with ⟨rfl,rfl⟩|⟨rfl,rfl⟩|⟨rfl,rfl⟩<;>omega
   ·have q:0<=E4 (FK (p i) (p z)) v:=q
    have m1:=Int.mul_nonneg (show 0<=ER K (p z) - ER K (p y) by omega) q
    have m2:=Int.mul_pos FY (show 0 <ER K (p z) * v.2.2 - Fx K v by omega)
    show 0 <E4 (FK (p y) (p z)) v
    exact IT (show 0 <ER K (p z) - ER K (p i) by omega) (by omega)
 ·
  have r3:=hr z y (by omega) h sv
  have Vq:=Int.mul_lt_mul_of_pos_right r3 hw
  have hy:Fx K v <ER K (p y) * v.2.2:=by omega
  rcases Int.lt_or_gt_of_ne Ew with g|g
  ·refine ⟨(i,y),(i,z),by simp [EU],by simp [EU],⟨hb,hi,hy⟩,⟨hd,hi,g⟩, ?_, ?_,λ q=> ?_⟩
   ·rintro ⟨x1,x2⟩ hx ⟨t1,t2,t3⟩
    simp only [EU,List.mem_cons,List.not_mem_nil,or_false,Prod.mk.injEq] at hx t1 t2 t3 ⊢
    rcases hx with ⟨rfl,rfl⟩|⟨rfl,rfl⟩|⟨rfl,rfl⟩<;>omega
   ·rintro ⟨x1,x2⟩ hx ⟨t1,t2,t3⟩
    simp only [EU,List.mem_cons,List.not_mem_nil,or_false,Prod.mk.injEq] at hx t1 t2 t3 ⊢
    rcases hx with ⟨rfl,rfl⟩|⟨rfl,rfl⟩|⟨rfl,rfl⟩<;>omega
   ·have q:0<=E4 (FK (p i) (p z)) v:=q
    have m1:=Int.mul_nonneg (show 0<=ER K (p y) - ER K (p i) by omega) q
    have m2:=Int.mul_pos FY (show 0 <Fx K v - ER K (p i) * v.2.2 by omega)
    rw [Int.neg_mul] at L3
    show 0 <E4 (FK (p i) (p y)) v
    exact IT (show 0 <ER K (p z) - ER K (p i) by omega) (by omega)
  ·refine ⟨(i,y),(z,y),by simp [EU],by simp [EU],⟨hb,hi,hy⟩,⟨h,g,hy⟩, ?_, ?_,λ q=> ?_⟩
   ·rintro ⟨x1,x2⟩ hx ⟨t1,t2,t3⟩
    simp only [EU,List.mem_cons,List.not_mem_nil,or_false,Prod.mk.injEq] at hx t1 t2 t3 ⊢
    rcases hx with ⟨rfl,rfl⟩|⟨rfl,rfl⟩|⟨rfl,rfl⟩<;>omega
   ·rintro ⟨x1,x2⟩ hx ⟨t1,t2,t3⟩
    simp only [EU,List.mem_cons,List.not_mem_nil,or_false,Prod.mk.injEq] at hx t1 t2 t3 ⊢
    rcases hx with ⟨rfl,rfl⟩|⟨rfl,rfl⟩|⟨rfl,rfl⟩<;>omega
   ·have q:0<=E4 (FK (p z) (p y)) v:=q
    have m1:=Int.mul_nonneg (show 0<=ER K (p y) - ER K (p i) by omega) q
    have m2:=Int.mul_pos FY (show 0 <ER K (p y) * v.2.2 - Fx K v by omega)
    rw [Int.neg_mul] at L4
    show 0 <E4 (FK (p i) (p y)) v
    exact IT (show 0 <ER K (p y) - ER K (p z) by omega) (by omega)
end
end Go.Proofs.YtollcjadobpfdaaGreat.Rw
namespace Go.Proofs.YtollcjadobpfdaaGreat.Rw
section
variable {p:Int->Int×Int} {K n:Int} {c d:ET} {v:Int×Int×Int} {cs:List ET}
theorem Rf (hr:E2 p K n) (hc:FX p n c) (hw:0 <v.2.2) (hi:P6 p c v):∃e,FD p K v e/\(e∈EU c\/(e.2,e.1)∈EU c):=by
 obtain ⟨i,y,z⟩:=c
 obtain ⟨lo,hb,hd,sv,q8,FY⟩:=hc
 simp only at lo hb hd sv q8 FY
 obtain ⟨q1,q2,q3⟩:=hi
 simp only at q1 q2 q3
 have r1:=hr i y lo hb sv
 have r2:=hr i z lo hd q8
 have IT:∀{x y:Int},0 <x->0 <x * y->0 <y:=λ {x y} h1 h2=>by
  rcases Int.lt_or_le 0 y with g|g
  ·exact g
  ·have:=Int.mul_nonneg (Int.le_of_lt h1) (show 0<= -y by omega);rw [Int.mul_neg] at this;omega
 have I1:EP (p i) (p y) (p z) * (Fx K v - ER K (p i) * v.2.2)=E4 (FK (p z) (p i)) v * (ER K (p y) - ER K (p i))+E4 (FK (p i) (p y)) v * (ER K (p z) - ER K (p i)):=by
  simp only [ER,Fx,EP,E4,FK];grind
 have I2:EP (p i) (p y) (p z) * (ER K (p y) * v.2.2 - Fx K v)=E4 (FK (p y) (p z)) v * (ER K (p y) - ER K (p i))+E4 (FK (p i) (p y)) v * (ER K (p y) - ER K (p z)):=by
  simp only [ER,Fx,EP,E4,FK];grind
 have I3:EP (p i) (p y) (p z) * (ER K (p z) * v.2.2 - Fx K v)=E4 (FK (p y) (p z)) v * (ER K (p z) - ER K (p i))+E4 (FK (p z) (p i)) v * (ER K (p z) - ER K (p y)):=by
  simp only [ER,Fx,EP,E4,FK];grind
 have m1:=Int.mul_pos q3 (show 0 <ER K (p y) - ER K (p i) by omega)
 have m2:=Int.mul_pos q1 (show 0 <ER K (p z) - ER K (p i) by omega)
 have m3:=Int.mul_pos q2 (show 0 <ER K (p y) - ER K (p i) by omega)
 have m4:=Int.mul_pos q2 (show 0 <ER K (p z) - ER K (p i) by omega)
 have t1:=IT FY (show 0 <EP (p i) (p y) (p z) * (Fx K v - ER K (p i) * v.2.2) by omega)
 rcases Int.le_total (ER K (p z)) (ER K (p y)) with g|g
 ·have m5:=Int.mul_nonneg (Int.le_of_lt q1) (show 0<=ER K (p y) - ER K (p z) by omega)
  have t2:=IT FY (show 0 <EP (p i) (p y) (p z) * (ER K (p y) * v.2.2 - Fx K v) by omega)
  exact ⟨(i,y),⟨hb,by show ER K (p i) * _ <_;omega,by show _ <ER K (p y) * _;omega⟩,.inl (by simp [EU])⟩
 ·have m5:=Int.mul_nonneg (Int.le_of_lt q3) (show 0<=ER K (p z) - ER K (p y) by omega)
  have t2:=IT FY (show 0 <EP (p i) (p y) (p z) * (ER K (p z) * v.2.2 - Fx K v) by omega)
  exact ⟨(i,z),⟨hd,by show ER K (p i) * _ <_;omega,by show _ <ER K (p z) * _;omega⟩,.inr (by simp [EU])⟩
theorem Nu (hi:P6 p c v) {u:Int×Int} (hu:u∈EU c):Gi p v u:=by
 simp only [EU,List.mem_cons,List.not_mem_nil,or_false] at hu
 rcases hu with rfl|rfl|rfl
 ·exact hi.1
 ·exact hi.2.1
 ·exact hi.2.2
theorem Rk {w:Int×Int} (h:Gi p v (w.2,w.1)): ¬Gi p v w:=by
 have e:E4 (FK (p w.2) (p w.1)) v= - E4 (FK (p w.1) (p w.2)) v:=by simp only [E4,FK];grind
 have h:0 <E4 (FK (p w.2) (p w.1)) v:=h
 intro g
 have g:0 <E4 (FK (p w.1) (p w.2)) v:=g
 omega
open Classical in
theorem one_cell (hV:(EX cs).Nodup) (hc:∀c∈cs,FX p n c) (hr:E2 p K n) (hw:0 <v.2.2) (hg:∀j,0<=j->j <n->Fx K v≠ER K (p j) * v.2.2)
 (hu:∀e e':Int×Int,e∈EX cs->(e.2,e.1)∉EX cs->FD p K v e->e'∈EX cs->(e'.2,e'.1)∉EX cs->FD p K v e'->e=e')
 (h1:c∈cs) (h2:d∈cs) (i1:P6 p c v) (i2:P6 p d v):c=d:=by
 apply Classical.byContradiction
 intro hne
 let A:=cs.filter λ c=>decide (∃u∈EU c,FD p K v u/\Gi p v u)
 let B:=cs.filter λ c=>decide (∃w:Int×Int,(w.2,w.1)∈EU c/\FD p K v w/\Gi p v w)
 have Cl:∀{x},x∈A↔x∈cs/\∃u∈EU x,FD p K v u/\Gi p v u:=λ {x}=>by simp [A]
 have Dy:∀{x},x∈B↔x∈cs/\∃w:Int×Int,(w.2,w.1)∈EU x/\FD p K v w/\Gi p v w:=λ {x}=>by simp [B]
 have D6:A.Nodup:=(Hh hV).filter _
 have D7:B.Nodup:=(Hh hV).filter _
 have Sf:∀{x},x∈cs->P6 p x v->x∈A/\x∉B:=λ {x} hx hi=>by
  obtain ⟨e,he,hm⟩:=Rf hr (hc x hx) hw hi
  obtain ⟨u,w,a1,a2,a3,a4,a5,a6,a7⟩:=GX hr (hc x hx) hw hg he hm
  refine ⟨Cl.2 ⟨hx,u,a1,a3,Nu hi a1⟩,λ hb=> ?_⟩
  obtain ⟨_,w',b1,b2,b3⟩:=Dy.1 hb
  exact Rk (Nu hi b1) b3
 have SZ:∀x∈B,x∈A:=λ x hx=>by
  obtain ⟨hx,w,b1,b2,b3⟩:=Dy.1 hx
  obtain ⟨u,w',a1,a2,a3,a4,a5,a6,a7⟩:=GX hr (hc x hx) hw hg b2 (.inr b1)
  have:=a6 w b1 b2
  subst this
  exact Cl.2 ⟨hx,u,a1,a3,a7 (Int.le_of_lt b3)⟩
 have S6:B.length+2<=A.length:=by
  have hn:(c::d::B).Nodup:=by
   rw [List.nodup_cons,List.nodup_cons]
   refine ⟨λ h=> ?_,(Sf h2 i2).2,D7⟩
   rcases List.mem_cons.1 h with e|e
   ·exact hne e
   ·exact (Sf h1 i1).2 e
  have:=Gm hn (D:=A) λ x hx=>by
   rcases List.mem_cons.1 hx with rfl|hx
   ·exact (Sf h1 i1).1
   ·rcases List.mem_cons.1 hx with rfl|hx
    ·exact (Sf h2 i2).1
    ·exact SZ x hx
  simpa using this
 let U:=(EX cs).filter λ e=>decide (FD p K v e/\Gi p v e)
 let D:=((EX cs).map λ e=>(e.2,e.1)).filter λ e=>decide (FD p K v e/\Gi p v e)
 have xx:∀{x},x∈U↔x∈EX cs/\FD p K v x/\Gi p v x:=λ {x}=>by simp [U]
 have Du:∀{x},x∈D↔(x.2,x.1)∈EX cs/\FD p K v x/\Gi p v x:=λ {x}=>by
  obtain ⟨a,b⟩:=x
  simp only [D,List.mem_filter,List.mem_map,decide_eq_true_eq]
  constructor
  ·rintro ⟨⟨⟨e1,e2⟩,he,hh⟩,h⟩
   cases hh
   exact ⟨he,h⟩
  ·rintro ⟨he,h⟩
   exact ⟨⟨_,he,rfl⟩,h⟩
 have DG:U.Nodup:=hV.filter _
 have DP:D.Nodup:=by
  refine List.Pairwise.filter _ ?_
  refine List.pairwise_map.2 (List.Pairwise.imp (λ h g=>h ?_) hV)
  simp only [Prod.mk.injEq] at g
  exact Prod.ext g.2 g.1
 have S7:U.length<=D.length+1:=by
  by_cases h:∃e∈U,(e.2,e.1)∉EX cs
  ·obtain ⟨e,he,hx⟩:=h
   have:=Gm DG (D:=e::D) λ x KN=>by
    by_cases CO:(x.2,x.1)∈EX cs
    ·exact List.mem_cons_of_mem _ (Du.2 ⟨CO,(xx.1 KN).2⟩)
    ·rw [hu x e (xx.1 KN).1 CO (xx.1 KN).2.1 (xx.1 he).1 hx (xx.1 he).2.1]
     exact List.mem_cons_self ..
   simpa using this
  ·have:=Gm DG (D:=D) λ x KN=>Du.2 ⟨Classical.byContradiction λ z=>h ⟨x,KN,z⟩,(xx.1 KN).2⟩
   omega
 have S8:A.length<=U.length:=by
  let up:ET->Int×Int:=λ c=>Classical.epsilon λ u=>u∈EU c/\FD p K v u/\Gi p v u
  have LN:∀x∈A,up x∈EU x/\FD p K v (up x)/\Gi p v (up x):=λ x hx=>by
   obtain ⟨_,u,b1,b2⟩:=Cl.1 hx
   exact Classical.epsilon_spec (p:=λ u=>u∈EU x/\FD p K v u/\Gi p v u) ⟨u,b1,b2⟩
  have hn:(A.map up).Nodup:=List.pairwise_map.2 (List.Pairwise.imp_of_mem (λ {a b} ha hb hab e=>hab (apart_eq hV (Cl.1 ha).1 (Cl.1 hb).1 (LN a ha).1 (e▸(LN b hb).1))) D6)
  have:=Gm hn (D:=U) λ x hx=>by
   obtain ⟨y,hy,rfl⟩:=List.mem_map.1 hx
   exact xx.2 ⟨List.mem_flatMap.2 ⟨y,(Cl.1 hy).1,(LN y hy).1⟩,(LN y hy).2⟩
  simpa using this
 have Ux:D.length<=B.length:=by
  let q8:ET->Int×Int:=λ c=>Classical.epsilon λ w=>(w.2,w.1)∈EU c/\FD p K v w
  have:=Gm DP (D:=B.map q8) λ w S3=>by
   obtain ⟨h,b2,b3⟩:=Du.1 S3
   obtain ⟨x,hx,b1⟩:=List.mem_flatMap.1 h
   refine List.mem_map.2 ⟨x,Dy.2 ⟨hx,w,b1,b2,b3⟩, ?_⟩
   obtain ⟨u,w',a1,a2,a3,a4,a5,a6,a7⟩:=GX hr (hc x hx) hw hg b2 (.inr b1)
   have hs:=Classical.epsilon_spec (p:=λ w:Int×Int=>(w.2,w.1)∈EU x/\FD p K v w) ⟨w,b1,b2⟩
   exact (a6 _ hs.1 hs.2).trans (a6 w b1 b2).symm
  simpa using this
 omega
end
end Go.Proofs.YtollcjadobpfdaaGreat.Rw
namespace Go.Proofs.YtollcjadobpfdaaGreat.Rw
section
variable (p:Int->Int×Int) (K n:Int)
structure E6 (e:Int×Int):Prop where
 l1:0<=e.1
 l2:0<=e.2
 u1:e.1 <n
 u2:e.2 <n
 left:∀m,0<=m->m <n->0<=EP (p e.1) (p e.2) (p m)
 none:∀m,0<=m->m <n->EP (p e.1) (p e.2) (p m)=0-> ¬(e.1 <m/\m <e.2)/\ ¬(e.2 <m/\m <e.1)
structure Fm (cs:List ET):Prop where
 kpos:0 <K
 Fg:E2 p K n
 cell:∀c∈cs,FX p n c
 HM:(EX cs).Nodup
 I7:∀e∈EX cs,E6 p n e↔(e.2,e.1)∉EX cs
 used:∀i,0<=i->i <n->∃c∈cs,i=c.1\/i=c.2.1\/i=c.2.2
end
section
variable {p:Int->Int×Int} {K n:Int} {c d:ET} {v:Int×Int×Int} {cs:List ET}
theorem E2.lt (hr:E2 p K n) {i j:Int} (h1:0<=j) (h2:i <n) (h:ER K (p i) <ER K (p j)):i <j:=by
 rcases Int.lt_or_le i j with g|g
 ·exact g
 ·rcases Int.lt_or_eq_of_le g with g|g
  ·have:=hr j i h1 g h2;omega
  ·subst g;omega
theorem KV (hr:E2 p K n) (hw:0 <v.2.2) {e e':Int×Int} (h1:E6 p n e) (h2:FD p K v e) (h3:E6 p n e') (h4:FD p K v e'):e=e':=by
 obtain ⟨a,b⟩:=e
 obtain ⟨c,d⟩:=e'
 obtain ⟨k1,k2,k3,k4⟩:=LR h2.2.1 h2.2.2 h4.2.1 h4.2.2 (h3.left a h1.l1 h1.u1) (h3.left b h1.l2 h1.u2) (h1.left c h3.l1 h3.u1) (h1.left d h3.l2 h3.u2)
 have n1:=(h3.none a h1.l1 h1.u1 k1).1
 have n2:=(h3.none b h1.l2 h1.u2 k2).1
 have n3:=(h1.none c h3.l1 h3.u1 k3).1
 have n4:=(h1.none d h3.l2 h3.u2 k4).1
 have cancel:∀{x y:Int},x * v.2.2 <Fx K v->Fx K v <y * v.2.2->x <y:=λ {x y} g1 g2=>Int.lt_of_mul_lt_mul_right (show x * v.2.2 <y * v.2.2 by omega) (Int.le_of_lt hw)
 have x1:=hr.lt (i:=a) (j:=d) h3.l2 h1.u1 (cancel h2.2.1 h4.2.2)
 have x2:=hr.lt (i:=c) (j:=b) h1.l2 h3.u1 (cancel h4.2.1 h2.2.2)
 have e9:=h2.1
 have k5:=h4.1
 simp only [Prod.mk.injEq] at *
 omega
theorem Fm.meet (h:Fm p K n cs) (hc:c∈cs) (hd:d∈cs) (hm:GU (FZ (p c.1) (p c.2.1) (p c.2.2)++FZ (p d.1) (p d.2.1) (p d.2.2))):c=d:=by
 obtain ⟨v,h1,h2,h3⟩:=Pq h.kpos hm
 simp only [FZ,List.cons_append,List.nil_append,List.mem_cons,List.not_mem_nil,or_false,forall_eq_or_imp,forall_eq] at h2
 obtain ⟨a1,a2,a3,b1,b2,b3⟩:=h2
 exact one_cell h.HM h.cell h.Fg h1 (λ j _ _=>h3 _) (λ e e' g1 g2 g3 g4 g5 g6=>KV h.Fg h1 ((h.I7 e g1).2 g2) g3 ((h.I7 e' g4).2 g5) g6) hc hd ⟨a1,a2,a3⟩ ⟨b1,b2,b3⟩
def GW (p:Int->Int×Int) (c d:ET):Prop:=∃e∈EU c,EP (p e.1) (p e.2) (p d.1)<=0/\EP (p e.1) (p e.2) (p d.2.1)<=0/\EP (p e.1) (p e.2) (p d.2.2)<=0
theorem Fm.Qj (h:Fm p K n cs) (hc:c∈cs) (hd:d∈cs) (hne:c≠d):GW p c d\/GW p d c:=by
 apply Classical.byContradiction
 intro hn
 refine hne (h.meet hc hd (Pp (h.cell c hc).FY (h.cell d hd).FY ?_ ?_))
 ·intro g hg
  apply Classical.byContradiction
  intro z
  refine hn (.inl ?_)
  simp only [FZ,List.mem_cons,List.not_mem_nil,or_false] at hg
  have key:∀e∈EU c,g=FK (p e.1) (p e.2)->GW p c d:=λ e he hge=>by
   subst hge
   simp only [G5] at z
   exact ⟨e,he,by omega,by omega,by omega⟩
  rcases hg with hg|hg|hg
  ·exact key (c.1,c.2.1) (by simp [EU]) hg
  ·exact key (c.2.1,c.2.2) (by simp [EU]) hg
  ·exact key (c.2.2,c.1) (by simp [EU]) hg
 ·intro g hg
  apply Classical.byContradiction
  intro z
  refine hn (.inr ?_)
  simp only [FZ,List.mem_cons,List.not_mem_nil,or_false] at hg
  have key:∀e∈EU d,g=FK (p e.1) (p e.2)->GW p d c:=λ e he hge=>by
   subst hge
   simp only [G5] at z
   exact ⟨e,he,by omega,by omega,by omega⟩
  rcases hg with hg|hg|hg
  ·exact key (d.1,d.2.1) (by simp [EU]) hg
  ·exact key (d.2.1,d.2.2) (by simp [EU]) hg
  ·exact key (d.2.2,d.1) (by simp [EU]) hg
end
end Go.Proofs.YtollcjadobpfdaaGreat.Rw
namespace Go.Proofs.YtollcjadobpfdaaGreat.Rw
theorem OW {a b c:Int×Int} (hp:0 <EP a b c) {v:Int×Int×Int} (CJ:0<=v.2.2) (hv:∀g∈FZ a b c,0<=E4 g v) {L:List (Int×Int×Int)} (hL:∀h∈L,0 <E4 h v):GU (L++FZ a b c):=by
 have hp2:EP b c a=EP a b c:=GK a b c
 have w6:EP c a b=EP a b c:=(GK b c a).trans hp2
 have bound:∀L:List (Int×Int×Int),∃N:Int,0 <N/\∀h∈L,0 <N+E4 h (a.1+b.1+c.1,a.2+b.2+c.2,3):=λ L=>by
  induction L with
  |nil=>exact ⟨1,by decide,λ g hg=>by cases hg⟩
  |cons g L ih=>
   obtain ⟨N,k1,k2⟩:=ih
   refine ⟨max N (1 - E4 g (a.1+b.1+c.1,a.2+b.2+c.2,3)),by omega,λ x hx=> ?_⟩
   rcases List.mem_cons.1 hx with rfl|hx
   ·omega
   ·have:=k2 x hx;omega
 obtain ⟨N,hN,hz⟩:=bound L
 have NA:∀g:Int×Int×Int,E4 g (N * v.1+(a.1+b.1+c.1),N * v.2.1+(a.2+b.2+c.2),N * v.2.2+3)=N * E4 g v+E4 g (a.1+b.1+c.1,a.2+b.2+c.2,3):=λ g=>by
  simp only [E4];grind
 have U9:∀g:Int×Int×Int,E4 g (a.1+b.1+c.1,a.2+b.2+c.2,3)=E4 g (a.1,a.2,1)+E4 g (b.1,b.2,1)+E4 g (c.1,c.2,1):=λ g=>by simp only [E4];grind
 have VC:=Int.mul_nonneg (Int.le_of_lt hN) CJ
 refine ⟨(N * v.1+(a.1+b.1+c.1),N * v.2.1+(a.2+b.2+c.2),N * v.2.2+3),by show 0 <N * v.2.2+3;omega,λ g hg=> ?_⟩
 rw [NA]
 rcases List.mem_append.1 hg with hg|hg
 ·have h1:=Int.mul_le_mul_of_nonneg_left (show (1:Int)<=E4 g v from hL g hg) (Int.le_of_lt hN)
  have:=hz g hg
  omega
 ·have h1:=Int.mul_nonneg (Int.le_of_lt hN) (hv g hg)
  have s1:=E3 a b;have s2:=E3 b c;have s3:=E3 c a
  rw [U9]
  simp only [FZ,List.mem_cons,List.not_mem_nil,or_false] at hg
  rcases hg with rfl|rfl|rfl<;>simp only [G5] at h1 ⊢ <;>omega
theorem Mf {a b r s t:Int×Int} (hne: ¬(a.1=b.1/\a.2=b.2)) (h1:EP a b r=0) (h2:EP a b s=0) (h3:EP a b t=0):EP r s t=0:=by
 have e1:(b.1 - a.1) * EP r s t=(s.1 - r.1) * (EP a b t - EP a b r) - (t.1 - r.1) * (EP a b s - EP a b r):=by simp only [EP];grind
 have e2:(b.2 - a.2) * EP r s t=(s.2 - r.2) * (EP a b t - EP a b r) - (t.2 - r.2) * (EP a b s - EP a b r):=by simp only [EP];grind
 rw [h1,h2,h3] at e1 e2
 simp only [Int.sub_self,Int.mul_zero] at e1 e2
 rcases Int.mul_eq_zero.1 e1 with z1|z1
 ·rcases Int.mul_eq_zero.1 e2 with z2|z2
  ·exact absurd ⟨by omega,by omega⟩ hne
  ·exact z2
 ·exact z1
section
variable {p:Int->Int×Int} {K n:Int} {c d:ET} {v:Int×Int×Int} {cs:List ET}
def Fc (c:ET) (i:Int):Prop:=i=c.1\/i=c.2.1\/i=c.2.2
theorem GV {e:Int×Int} (he:e∈EU c) (h:0 <EP (p c.1) (p c.2.1) (p c.2.2)):∃x:Int,(∀f,f∈EU c↔f=e\/f=(e.2,x)\/f=(x,e.1))/\(∀i,Fc c i↔i=e.1\/i=e.2\/i=x)/\0 <EP (p e.1) (p e.2) (p x)/\
 (∀g,g∈FZ (p c.1) (p c.2.1) (p c.2.2)↔g∈FZ (p e.1) (p e.2) (p x)):=by
 have r1:=GK (p c.1) (p c.2.1) (p c.2.2)
 have r2:=GK (p c.2.1) (p c.2.2) (p c.1)
 have he':=he
 simp only [EU,List.mem_cons,List.not_mem_nil,or_false] at he'
 rcases he' with rfl|rfl|rfl
 ·refine ⟨c.2.2,λ f=>by simp [EU],λ i=>by simp [Fc],h,λ g=>Iff.rfl⟩
 ·refine ⟨c.1,λ f=>by simp only [EU,List.mem_cons,List.not_mem_nil,or_false];grind,λ i=>by simp only [Fc];grind,by show 0 <EP (p c.2.1) (p c.2.2) (p c.1);omega,λ g=>by simp only [FZ,List.mem_cons,List.not_mem_nil,or_false];grind⟩
 ·refine ⟨c.2.1,λ f=>by simp only [EU,List.mem_cons,List.not_mem_nil,or_false];grind,λ i=>by simp only [Fc];grind,by show 0 <EP (p c.2.2) (p c.1) (p c.2.1);omega,λ g=>by simp only [FZ,List.mem_cons,List.not_mem_nil,or_false];grind⟩
theorem KI (h:0 <EP (p d.1) (p d.2.1) (p d.2.2)) {r:Int} (hr:Fc d r):∀g∈FZ (p d.1) (p d.2.1) (p d.2.2),0<=E4 g ((p r).1,(p r).2,1):=by
 intro g hg
 have r1:=GK (p d.1) (p d.2.1) (p d.2.2)
 have r2:=GK (p d.2.1) (p d.2.2) (p d.1)
 have s1:=E3 (p d.1) (p d.2.1);have s2:=E3 (p d.2.1) (p d.2.2);have s3:=E3 (p d.2.2) (p d.1)
 simp only [FZ,List.mem_cons,List.not_mem_nil,or_false] at hg
 rcases hg with rfl|rfl|rfl<;>rw [G5]<;>rcases hr with rfl|rfl|rfl<;>omega
theorem Fm.beside (h:Fm p K n cs) (hc:c∈cs) (hd:d∈cs) (hne:c≠d) {e:Int×Int} (he:e∈EU c) {x:Int} (hx:∀g,g∈FZ (p c.1) (p c.2.1) (p c.2.2)↔g∈FZ (p e.1) (p e.2) (p x)) {r s:Int} (hr:Fc d r) (hs:Fc d s)
 (z0:EP (p e.1) (p e.2) (p r)=0) (z1:0 <EP (p e.2) (p x) (p r)) (z2:0 <EP (p x) (p e.1) (p r)):EP (p e.1) (p e.2) (p s)<=0:=by
 apply Classical.byContradiction
 intro hp
 have hdc:=(h.cell d hd).FY
 obtain ⟨N,hN,n1,n2⟩:∃N:Int,0 <N/\0 <N+EP (p e.2) (p x) (p s)/\0 <N+EP (p x) (p e.1) (p s):=⟨max 1 (max (1 - EP (p e.2) (p x) (p s)) (1 - EP (p x) (p e.1) (p s))),by omega,by omega,by omega⟩
 have NA:∀g:Int×Int×Int,E4 g (N * (p r).1+(p s).1,N * (p r).2+(p s).2,N+1)=N * E4 g ((p r).1,(p r).2,1)+E4 g ((p s).1,(p s).2,1):=λ g=>by simp only [E4];grind
 have hm:=OW hdc (v:=(N * (p r).1+(p s).1,N * (p r).2+(p s).2,N+1)) (by show 0<=N+1;omega) (λ g hg=>by
  rw [NA]
  have:=Int.mul_nonneg (Int.le_of_lt hN) (KI hdc hr g hg)
  have:=KI hdc hs g hg
  omega) (L:=FZ (p c.1) (p c.2.1) (p c.2.2)) (λ g hg=>by
  rw [NA]
  have hg:=(hx g).1 hg
  simp only [FZ,List.mem_cons,List.not_mem_nil,or_false] at hg
  have k1:=Int.mul_le_mul_of_nonneg_left (show (1:Int)<=EP (p e.2) (p x) (p r) from z1) (Int.le_of_lt hN)
  have k2:=Int.mul_le_mul_of_nonneg_left (show (1:Int)<=EP (p x) (p e.1) (p r) from z2) (Int.le_of_lt hN)
  rcases hg with rfl|rfl|rfl
  ·rw [G5,G5,z0,Int.mul_zero];omega
  ·rw [G5,G5];omega
  ·rw [G5,G5];omega)
 exact hne (h.meet hc hd hm)
end
end Go.Proofs.YtollcjadobpfdaaGreat.Rw
namespace Go.Proofs.YtollcjadobpfdaaGreat.Rw
theorem Hu {x y:Int} (h1:0 <x) (h2:0 <x * y):0 <y:=by
 rcases Int.lt_or_le 0 y with g|g
 ·exact g
 ·have:=Int.mul_nonneg (Int.le_of_lt h1) (show 0<= -y by omega);rw [Int.mul_neg] at this;omega
section
variable {p:Int->Int×Int} {K n:Int} {c d:ET} {cs:List ET}
theorem E2.inj (hr:E2 p K n) {i j:Int} (h1:0<=i) (h2:i <n) (h3:0<=j) (h4:j <n) (h:(p i).1=(p j).1/\(p i).2=(p j).2):i=j:=by
 have e:ER K (p i)=ER K (p j):=by simp only [ER];rw [h.1,h.2]
 rcases Int.lt_trichotomy i j with g|g|g
 ·have:=hr i j h1 g h4;omega
 ·exact g
 ·have:=hr j i h3 g h2;omega
theorem FX.Fv (h:FX p n c) {i:Int} (hi:Fc c i):0<=i/\i <n:=by
 have:=h.lo;have:=h.b;have:=h.d;have:=h.sv;have:=h.q8
 rcases hi with rfl|rfl|rfl<;>omega
theorem Sy (hr:E2 p K n) {a b x r:Int} (ha:0<=a/\a <n) (hb:0<=b/\b <n) (hn:0<=r/\r <n) (hx:0 <EP (p a) (p b) (p x)) (z0:EP (p a) (p b) (p r)=0) (z1:0 <EP (p b) (p x) (p r)) (z2:0 <EP (p x) (p a) (p r)):(a <r/\r <b)\/(b <r/\r <a):=by
 have e1:EP (p a) (p b) (p x) * (ER K (p r) - ER K (p a))=EP (p x) (p a) (p r) * (ER K (p b) - ER K (p a))+EP (p a) (p b) (p r) * (ER K (p x) - ER K (p a)):=by simp only [ER,EP];grind
 have e2:EP (p a) (p b) (p x) * (ER K (p r) - ER K (p b))=EP (p b) (p x) (p r) * (ER K (p a) - ER K (p b))+EP (p a) (p b) (p r) * (ER K (p x) - ER K (p b)):=by simp only [ER,EP];grind
 rw [z0,Int.zero_mul,Int.add_zero] at e1 e2
 have hab:a≠b:=λ e=>by subst e;have:EP (p a) (p a) (p x)=0:=by (simp only [EP];grind)
                       omega
 rcases Int.lt_or_gt_of_ne hab with g|g
 ·have:=hr a b ha.1 g hb.2
  have m1:=Int.mul_pos z2 (show 0 <ER K (p b) - ER K (p a) by omega)
  have m2:=Int.mul_pos z1 (show 0 <ER K (p b) - ER K (p a) by omega)
  have k1:=Hu hx (show 0 <EP (p a) (p b) (p x) * (ER K (p r) - ER K (p a)) by omega)
  have e3:EP (p a) (p b) (p x) * (ER K (p b) - ER K (p r))=EP (p b) (p x) (p r) * (ER K (p b) - ER K (p a)):=by grind
  have k2:=Hu hx (show 0 <EP (p a) (p b) (p x) * (ER K (p b) - ER K (p r)) by omega)
  exact .inl ⟨hr.lt hn.1 ha.2 (by omega),hr.lt hb.1 hn.2 (by omega)⟩
 ·have:=hr b a hb.1 g ha.2
  have m1:=Int.mul_pos z1 (show 0 <ER K (p a) - ER K (p b) by omega)
  have m2:=Int.mul_pos z2 (show 0 <ER K (p a) - ER K (p b) by omega)
  have k1:=Hu hx (show 0 <EP (p a) (p b) (p x) * (ER K (p r) - ER K (p b)) by omega)
  have e3:EP (p a) (p b) (p x) * (ER K (p a) - ER K (p r))=EP (p x) (p a) (p r) * (ER K (p a) - ER K (p b)):=by grind
  have k2:=Hu hx (show 0 <EP (p a) (p b) (p x) * (ER K (p a) - ER K (p r)) by omega)
  exact .inr ⟨hr.lt hn.1 hb.2 (by omega),hr.lt ha.1 hn.2 (by omega)⟩
theorem MX {a b x r:Int×Int} (hx:0 <EP a b x) (h1:EP a b r=0) (h2:EP b x r=0):r.1=b.1/\r.2=b.2:=by
 have e1:EP a b x * (r.1 - b.1)=EP b x r * (a.1 - b.1)+EP a b r * (x.1 - b.1):=by simp only [EP];grind
 have e2:EP a b x * (r.2 - b.2)=EP b x r * (a.2 - b.2)+EP a b r * (x.2 - b.2):=by simp only [EP];grind
 rw [h1,h2] at e1 e2
 simp only [Int.zero_mul,Int.add_zero] at e1 e2
 have z1:=(Int.mul_eq_zero.1 e1).resolve_left (by omega)
 have z2:=(Int.mul_eq_zero.1 e2).resolve_left (by omega)
 omega
theorem Fm.empty (h:Fm p K n cs) (hc:c∈cs) {r:Int} (h0:0<=r) (hn:r <n) (hr: ¬Fc c r) (hin:∀e∈EU c,0<=EP (p e.1) (p e.2) (p r)):False:=by
 obtain ⟨d,hd,hrd⟩:=h.used r h0 hn
 have hrd:Fc d r:=hrd
 have hne:c≠d:=λ e=>hr (e▸hrd)
 have hok:=h.cell c hc
 by_cases hz:∃e∈EU c,EP (p e.1) (p e.2) (p r)=0
 ·obtain ⟨e,he,z0⟩:=hz
  obtain ⟨x,x1,x2,e9,k5⟩:=GV (p:=p) he hok.FY
  have ca:=hok.Fv ((x2 e.1).2 (.inl rfl))
  have cb:=hok.Fv ((x2 e.2).2 (.inr (.inl rfl)))
  have cx:=hok.Fv ((x2 x).2 (.inr (.inr rfl)))
  have z1:0 <EP (p e.2) (p x) (p r):=by
   have g:=hin (e.2,x) ((x1 _).2 (.inr (.inl rfl)))
   rcases Int.lt_or_eq_of_le g with g|g
   ·exact g
   ·have e1:=MX e9 z0 g.symm
    exact absurd ((x2 r).2 (.inr (.inl (h.Fg.inj h0 hn cb.1 cb.2 e1)))) hr
  have z2:0 <EP (p x) (p e.1) (p r):=by
   have g:=hin (x,e.1) ((x1 _).2 (.inr (.inr rfl)))
   rcases Int.lt_or_eq_of_le g with g|g
   ·exact g
   ·have e1:=MX (a:=p x) (b:=p e.1) (x:=p e.2) (by rw [<-GK (p x) (p e.1) (p e.2)];exact e9) g.symm z0
    exact absurd ((x2 r).2 (.inl (h.Fg.inj h0 hn ca.1 ca.2 e1))) hr
  have VF:=Sy h.Fg ca cb ⟨h0,hn⟩ e9 z0 z1 z2
  have Tu:e∈EX cs:=List.mem_flatMap.2 ⟨c,hc,he⟩
  have hrev:(e.2,e.1)∈EX cs:=Classical.byContradiction λ z=>by
   have ho:=(h.I7 e Tu).2 z
   have:=ho.none r h0 hn z0
   omega
  obtain ⟨c',ko,he'⟩:=List.mem_flatMap.1 hrev
  have Us:=h.cell c' ko
  obtain ⟨y,y1,y2,ox,Ad⟩:=GV (p:=p) he' Us.FY
  simp only at y1 y2 ox Ad
  have T6:EP (p e.2) (p e.1) (p r)=0:=by rw [GJ];omega
  have Ur:c'≠d:=λ e1=>by
   rcases (y2 r).1 (e1▸hrd) with g|g|g
   ·omega
   ·omega
   ·rw [g] at T6;omega
  have b1:EP (p e.1) (p e.2) (p x) * EP (p e.1) (p y) (p r)=EP (p x) (p e.1) (p r) * EP (p e.1) (p y) (p e.2)+EP (p e.1) (p e.2) (p r) * EP (p e.1) (p y) (p x):=by simp only [EP];grind
  have b2:EP (p e.1) (p e.2) (p x) * EP (p y) (p e.2) (p r)=EP (p e.2) (p x) (p r) * EP (p y) (p e.2) (p e.1)+EP (p e.1) (p e.2) (p r) * EP (p y) (p e.2) (p x):=by simp only [EP];grind
  rw [z0,Int.zero_mul,Int.add_zero] at b1 b2
  have EF:EP (p e.1) (p y) (p e.2)=EP (p e.2) (p e.1) (p y):=by simp only [EP];grind
  have EG:EP (p y) (p e.2) (p e.1)=EP (p e.2) (p e.1) (p y):=by simp only [EP];grind
  have Vx:=Hu e9 (show 0 <EP (p e.1) (p e.2) (p x) * EP (p e.1) (p y) (p r) by rw [b1,EF];exact Int.mul_pos z2 ox)
  have Vy:=Hu e9 (show 0 <EP (p e.1) (p e.2) (p x) * EP (p y) (p e.2) (p r) by rw [b2,EG];exact Int.mul_pos z1 ox)
  have on:∀s,Fc d s->EP (p e.1) (p e.2) (p s)=0:=λ s hs=>by
   have k1:=h.beside hc hd hne he k5 hrd hs z0 z1 z2
   have k2:=h.beside ko hd Ur he' Ad hrd hs T6 Vx Vy
   have k3:=GJ (p e.1) (p e.2) (p s)
   simp only at k2
   omega
  have hab: ¬((p e.1).1=(p e.2).1/\(p e.1).2=(p e.2).2):=λ z=>by
   have:=h.Fg.inj ca.1 ca.2 cb.1 cb.2 z
   omega
  have:=Mf hab (on d.1 (.inl rfl)) (on d.2.1 (.inr (.inl rfl))) (on d.2.2 (.inr (.inr rfl)))
  have:=(h.cell d hd).FY
  omega
 ·have hdc:=(h.cell d hd).FY
  refine hne (h.meet hc hd (OW hdc (v:=((p r).1,(p r).2,1)) (by show (0:Int)<=1;decide) (KI hdc hrd) λ g hg=> ?_))
  have key:∀e∈EU c,0 <EP (p e.1) (p e.2) (p r):=λ e he=>by
   have:=hin e he
   have:EP (p e.1) (p e.2) (p r)≠0:=λ z=>hz ⟨e,he,z⟩
   omega
  simp only [FZ,List.mem_cons,List.not_mem_nil,or_false] at hg
  rcases hg with rfl|rfl|rfl<;>rw [G5]
  ·exact key (c.1,c.2.1) (by simp [EU])
  ·exact key (c.2.1,c.2.2) (by simp [EU])
  ·exact key (c.2.2,c.1) (by simp [EU])
end
end Go.Proofs.YtollcjadobpfdaaGreat.Rw
namespace Go.Proofs.YtollcjadobpfdaaGreat.Rw
section
variable {p:Int->Int×Int} {K n:Int} {c d:ET} {v:Int×Int×Int} {cs:List ET}
open Classical in
theorem Q4 (hV:(EX cs).Nodup) (hc:∀c∈cs,FX p n c) (hr:E2 p K n) (hw:0 <v.2.2) (hg:∀j,0<=j->j <n->Fx K v≠ER K (p j) * v.2.2)
 (hu:∀e:Int×Int,e∈EX cs->FD p K v e->Gi p v e->(e.2,e.1)∈EX cs) (h1:c∈cs) (hA:∃u∈EU c,FD p K v u/\Gi p v u):∃w:Int×Int,(w.2,w.1)∈EU c/\FD p K v w/\Gi p v w:=by
 apply Classical.byContradiction
 intro hne
 let A:=cs.filter λ c=>decide (∃u∈EU c,FD p K v u/\Gi p v u)
 let B:=cs.filter λ c=>decide (∃w:Int×Int,(w.2,w.1)∈EU c/\FD p K v w/\Gi p v w)
 have Cl:∀{x},x∈A↔x∈cs/\∃u∈EU x,FD p K v u/\Gi p v u:=λ {x}=>by simp [A]
 have Dy:∀{x},x∈B↔x∈cs/\∃w:Int×Int,(w.2,w.1)∈EU x/\FD p K v w/\Gi p v w:=λ {x}=>by simp [B]
 have D6:A.Nodup:=(Hh hV).filter _
 have D7:B.Nodup:=(Hh hV).filter _
 have SZ:∀x∈B,x∈A:=λ x hx=>by
  obtain ⟨hx,w,b1,b2,b3⟩:=Dy.1 hx
  obtain ⟨u,w',a1,a2,a3,a4,a5,a6,a7⟩:=GX hr (hc x hx) hw hg b2 (.inr b1)
  have:=a6 w b1 b2
  subst this
  exact Cl.2 ⟨hx,u,a1,a3,a7 (Int.le_of_lt b3)⟩
 have S6:B.length+1<=A.length:=by
  have hn:(c::B).Nodup:=List.nodup_cons.2 ⟨λ h=>hne (Dy.1 h).2,D7⟩
  have:=Gm hn (D:=A) λ x hx=>by
   rcases List.mem_cons.1 hx with rfl|hx
   ·exact Cl.2 ⟨h1,hA⟩
   ·exact SZ x hx
  simpa using this
 let U:=(EX cs).filter λ e=>decide (FD p K v e/\Gi p v e)
 let D:=((EX cs).map λ e=>(e.2,e.1)).filter λ e=>decide (FD p K v e/\Gi p v e)
 have xx:∀{x},x∈U↔x∈EX cs/\FD p K v x/\Gi p v x:=λ {x}=>by simp [U]
 have Du:∀{x},x∈D↔(x.2,x.1)∈EX cs/\FD p K v x/\Gi p v x:=λ {x}=>by
  obtain ⟨a,b⟩:=x
  simp only [D,List.mem_filter,List.mem_map,decide_eq_true_eq]
  constructor
  ·rintro ⟨⟨⟨e1,e2⟩,he,hh⟩,h⟩
   cases hh
   exact ⟨he,h⟩
  ·rintro ⟨he,h⟩
   exact ⟨⟨_,he,rfl⟩,h⟩
 have DG:U.Nodup:=hV.filter _
 have DP:D.Nodup:=by
  refine List.Pairwise.filter _ ?_
  refine List.pairwise_map.2 (List.Pairwise.imp (λ h g=>h ?_) hV)
  simp only [Prod.mk.injEq] at g
  exact Prod.ext g.2 g.1
 have S7:U.length<=D.length:=Gm DG λ x KN=>Du.2 ⟨hu x (xx.1 KN).1 (xx.1 KN).2.1 (xx.1 KN).2.2,(xx.1 KN).2⟩
 have S8:A.length<=U.length:=by
  let up:ET->Int×Int:=λ c=>Classical.epsilon λ u=>u∈EU c/\FD p K v u/\Gi p v u
  have LN:∀x∈A,up x∈EU x/\FD p K v (up x)/\Gi p v (up x):=λ x hx=>by
   obtain ⟨_,u,b1,b2⟩:=Cl.1 hx
   exact Classical.epsilon_spec (p:=λ u=>u∈EU x/\FD p K v u/\Gi p v u) ⟨u,b1,b2⟩
  have hn:(A.map up).Nodup:=List.pairwise_map.2 (List.Pairwise.imp_of_mem (λ {a b} ha hb hab e=>hab (apart_eq hV (Cl.1 ha).1 (Cl.1 hb).1 (LN a ha).1 (e▸(LN b hb).1))) D6)
  have:=Gm hn (D:=U) λ x hx=>by
   obtain ⟨y,hy,rfl⟩:=List.mem_map.1 hx
   exact xx.2 ⟨List.mem_flatMap.2 ⟨y,(Cl.1 hy).1,(LN y hy).1⟩,(LN y hy).2⟩
  simpa using this
 have Ux:D.length<=B.length:=by
  let q8:ET->Int×Int:=λ c=>Classical.epsilon λ w=>(w.2,w.1)∈EU c/\FD p K v w
  have:=Gm DP (D:=B.map q8) λ w S3=>by
   obtain ⟨h,b2,b3⟩:=Du.1 S3
   obtain ⟨x,hx,b1⟩:=List.mem_flatMap.1 h
   refine List.mem_map.2 ⟨x,Dy.2 ⟨hx,w,b1,b2,b3⟩, ?_⟩
   obtain ⟨u,w',a1,a2,a3,a4,a5,a6,a7⟩:=GX hr (hc x hx) hw hg b2 (.inr b1)
   have hs:=Classical.epsilon_spec (p:=λ w:Int×Int=>(w.2,w.1)∈EU x/\FD p K v w) ⟨w,b1,b2⟩
   exact (a6 _ hs.1 hs.2).trans (a6 w b1 b2).symm
  simpa using this
 omega
theorem Rt (hw:0 <v.2.2) {w:Int×Int} (ht:FD p K v w):∃z:Int×Int×Int,0 <z.2.2/\E4 (FK (p w.1) (p w.2)) z=0/\(∀x:Int,(x * z.2.2 <Fx K z↔x * v.2.2 <Fx K v)/\(Fx K z <x * z.2.2↔Fx K v <x * v.2.2)):=by
 obtain ⟨t1,t2,t3⟩:=ht
 have hd:0 <ER K (p w.2) - ER K (p w.1):=by
  have:ER K (p w.1) * v.2.2 <ER K (p w.2) * v.2.2:=by omega
  have:=Int.lt_of_mul_lt_mul_right this (Int.le_of_lt hw)
  omega
 have e:Fx K ((ER K (p w.2) * v.2.2 - Fx K v) * (p w.1).1+(Fx K v - ER K (p w.1) * v.2.2) * (p w.2).1,(ER K (p w.2) * v.2.2 - Fx K v) * (p w.1).2+(Fx K v - ER K (p w.1) * v.2.2) * (p w.2).2,(ER K (p w.2) - ER K (p w.1)) * v.2.2)=(ER K (p w.2) - ER K (p w.1)) * Fx K v:=by
  simp only [Fx,ER];grind
 refine ⟨((ER K (p w.2) * v.2.2 - Fx K v) * (p w.1).1+(Fx K v - ER K (p w.1) * v.2.2) * (p w.2).1,(ER K (p w.2) * v.2.2 - Fx K v) * (p w.1).2+(Fx K v - ER K (p w.1) * v.2.2) * (p w.2).2,(ER K (p w.2) - ER K (p w.1)) * v.2.2),Int.mul_pos hd hw, ?_,λ x=> ?_⟩
 ·simp only [E4,FK,Fx,ER];grind
 ·rw [e]
  simp only
  have e2:x * ((ER K (p w.2) - ER K (p w.1)) * v.2.2)=(ER K (p w.2) - ER K (p w.1)) * (x * v.2.2):=by grind
  rw [e2]
  exact ⟨⟨λ h=>Int.lt_of_mul_lt_mul_left h (Int.le_of_lt hd),λ h=>Int.mul_lt_mul_of_pos_left h hd⟩,⟨λ h=>Int.lt_of_mul_lt_mul_left h (Int.le_of_lt hd),λ h=>Int.mul_lt_mul_of_pos_left h hd⟩⟩
theorem KY (hV:(EX cs).Nodup) (hc:∀c∈cs,FX p n c) (hr:E2 p K n) (hw:0 <v.2.2) (hg:∀j,0<=j->j <n->Fx K v≠ER K (p j) * v.2.2)
 (h1:c∈cs) {e:Int×Int} (he:FD p K v e) (hm:e∈EU c\/(e.2,e.1)∈EU c):∃e∈EX cs,(e.2,e.1)∉EX cs/\FD p K v e:=by
 obtain ⟨u,w,a1,a2,a3,a4,a5,a6,a7⟩:=GX hr (hc c h1) hw hg he hm
 obtain ⟨z,z1,z2,z3⟩:=Rt hw a4
 have DH:∀x,FD p K z x↔FD p K v x:=λ x=>by
  unfold FD
  rw [(z3 _).1,(z3 _).2]
 have TT:∀j,0<=j->j <n->Fx K z≠ER K (p j) * z.2.2:=λ j j1 j2 hh=>by
  have:=hg j j1 j2
  have k1:=(z3 (ER K (p j))).1
  have k2:=(z3 (ER K (p j))).2
  omega
 obtain ⟨u',w',b1,b2,b3,b4,b5,b6,Em⟩:=GX hr (hc c h1) z1 TT ((DH w).2 a4) (.inr a2)
 have hw':=b6 w a2 ((DH w).2 a4)
 subst hw'
 have hl:=Em (by rw [z2];exact Int.le_refl _)
 apply Classical.byContradiction
 intro hn
 obtain ⟨w2,d1,d2,d3⟩:=Q4 hV hc hr z1 TT (λ x x1 x2 _=>Classical.byContradiction λ g=>hn ⟨x,x1,g,(DH x).1 x2⟩) h1 ⟨u',b1,b3,hl⟩
 have:=b6 w2 d1 d2
 subst this
 have d3:0 <E4 (FK (p w2.1) (p w2.2)) z:=d3
 omega
end
end Go.Proofs.YtollcjadobpfdaaGreat.Rw
namespace Go.Proofs.YtollcjadobpfdaaGreat.Rw
section
variable {p:Int->Int×Int} {K n:Int} {c d:ET} {v:Int×Int×Int} {cs:List ET}
open Classical in
theorem N2 (hV:(EX cs).Nodup) (hc:∀c∈cs,FX p n c) (hr:E2 p K n) (hw:0 <v.2.2) (hg:∀j,0<=j->j <n->Fx K v≠ER K (p j) * v.2.2)
 (h1:c∈cs) {e:Int×Int} (he:FD p K v e) (hm:e∈EU c\/(e.2,e.1)∈EU c):∃w:Int×Int,(w.2,w.1)∈EX cs/\w∉EX cs/\FD p K v w:=by
 obtain ⟨e0,k1,k2,k3⟩:=KY hV hc hr hw hg h1 he hm
 apply Classical.byContradiction
 intro hn
 let S:=cs.filter λ c=>decide (∃u∈EU c,FD p K v u)
 have DO:∀{x},x∈S↔x∈cs/\∃u∈EU x,FD p K v u:=λ {x}=>by simp [S]
 have EA:S.Nodup:=(Hh hV).filter _
 let U:=(EX cs).filter λ e=>decide (FD p K v e)
 let D:=((EX cs).map λ e=>(e.2,e.1)).filter λ e=>decide (FD p K v e)
 have xx:∀{x},x∈U↔x∈EX cs/\FD p K v x:=λ {x}=>by simp [U]
 have Du:∀{x},x∈D↔(x.2,x.1)∈EX cs/\FD p K v x:=λ {x}=>by
  obtain ⟨a,b⟩:=x
  simp only [D,List.mem_filter,List.mem_map,decide_eq_true_eq]
  constructor
  ·rintro ⟨⟨⟨e1,e2⟩,he,hh⟩,h⟩
   cases hh
   exact ⟨he,h⟩
  ·rintro ⟨he,h⟩
   exact ⟨⟨_,he,rfl⟩,h⟩
 have DG:U.Nodup:=hV.filter _
 have DP:D.Nodup:=by
  refine List.Pairwise.filter _ ?_
  refine List.pairwise_map.2 (List.Pairwise.imp (λ h g=>h ?_) hV)
  simp only [Prod.mk.injEq] at g
  exact Prod.ext g.2 g.1
 have S6:U.length<=S.length:=by
  let up:ET->Int×Int:=λ c=>Classical.epsilon λ u=>u∈EU c/\FD p K v u
  have:=Gm DG (D:=S.map up) λ u hu=>by
   obtain ⟨h,b2⟩:=xx.1 hu
   obtain ⟨x,hx,b1⟩:=List.mem_flatMap.1 h
   refine List.mem_map.2 ⟨x,DO.2 ⟨hx,u,b1,b2⟩, ?_⟩
   obtain ⟨u',w',a1,a2,a3,a4,a5,a6,a7⟩:=GX hr (hc x hx) hw hg b2 (.inl b1)
   have hs:=Classical.epsilon_spec (p:=λ u:Int×Int=>u∈EU x/\FD p K v u) ⟨u,b1,b2⟩
   exact (a5 _ hs.1 hs.2).trans (a5 u b1 b2).symm
  simpa using this
 have S7:S.length<=D.length:=by
  let q8:ET->Int×Int:=λ c=>Classical.epsilon λ w=>(w.2,w.1)∈EU c/\FD p K v w
  have hdn:∀x∈S,((q8 x).2,(q8 x).1)∈EU x/\FD p K v (q8 x):=λ x hx=>by
   obtain ⟨hx,u,b1,b2⟩:=DO.1 hx
   obtain ⟨u',w',a1,a2,a3,a4,a5,a6,a7⟩:=GX hr (hc x hx) hw hg b2 (.inl b1)
   exact Classical.epsilon_spec (p:=λ w:Int×Int=>(w.2,w.1)∈EU x/\FD p K v w) ⟨w',a2,a4⟩
  have hn:(S.map q8).Nodup:=List.pairwise_map.2 (List.Pairwise.imp_of_mem (λ {a b} ha hb hab e=>hab (apart_eq hV (DO.1 ha).1 (DO.1 hb).1 (hdn a ha).1 (e▸(hdn b hb).1))) EA)
  have:=Gm hn (D:=D) λ x hx=>by
   obtain ⟨y,hy,rfl⟩:=List.mem_map.1 hx
   exact Du.2 ⟨List.mem_flatMap.2 ⟨y,(DO.1 hy).1,(hdn y hy).1⟩,(hdn y hy).2⟩
  simpa using this
 have S8:D.length+1<=U.length:=by
  have hn2:(e0::D).Nodup:=List.nodup_cons.2 ⟨λ h=>k2 (Du.1 h).1,DP⟩
  have:=Gm hn2 (D:=U) λ x hx=>by
   rcases List.mem_cons.1 hx with rfl|hx
   ·exact xx.2 ⟨k1,k3⟩
   ·exact xx.2 ⟨Classical.byContradiction λ g=>hn ⟨x,(Du.1 hx).1,g,(Du.1 hx).2⟩,(Du.1 hx).2⟩
  simpa using this
 omega
theorem Qi (hr:E2 p K n) (hw:0 <v.2.2) {e e':Int×Int} (h1:E6 p n (e.2,e.1)) (h2:FD p K v e) (h3:E6 p n (e'.2,e'.1)) (h4:FD p K v e'):e=e':=by
 obtain ⟨a,b⟩:=e
 obtain ⟨c,d⟩:=e'
 simp only at h1 h3
 have cancel:∀{x y:Int},x * v.2.2 <Fx K v->Fx K v <y * v.2.2->x <y:=λ {x y} g1 g2=>Int.lt_of_mul_lt_mul_right (show x * v.2.2 <y * v.2.2 by omega) (Int.le_of_lt hw)
 have wo:=λ x y z=>GJ (p x) (p y) (p z)
 have g1:=h3.left a h1.l2 h1.u2
 have g2:=h3.left b h1.l1 h1.u1
 have g3:=h1.left c h3.l2 h3.u2
 have g4:=h1.left d h3.l1 h3.u1
 simp only at g1 g2 g3 g4
 have q1:=wo c d a;have q2:=wo c d b;have q3:=wo a b c;have q4:=wo a b d
 have e:=LS K (p a) (p b) (p c) (p d) (Fx K v) v.2.2
 have k1:=Int.mul_nonneg (show 0<=ER K (p b) * v.2.2 - Fx K v from by have:=h2.2.2;simp only at this;omega) (show 0<= - EP (p c) (p d) (p a) by omega)
 have k2:=Int.mul_nonneg (show 0<=Fx K v - ER K (p a) * v.2.2 from by have:=h2.2.1;simp only at this;omega) (show 0<= - EP (p c) (p d) (p b) by omega)
 have k3:=Int.mul_nonneg (show 0<=ER K (p d) * v.2.2 - Fx K v from by have:=h4.2.2;simp only at this;omega) (show 0<= - EP (p a) (p b) (p c) by omega)
 have k4:=Int.mul_nonneg (show 0<=Fx K v - ER K (p c) * v.2.2 from by have:=h4.2.1;simp only at this;omega) (show 0<= - EP (p a) (p b) (p d) by omega)
 rw [Int.mul_neg] at k1 k2 k3 k4
 have z:∀{x y:Int},0 <x->x * y=0->y=0:=λ h k=>(Int.mul_eq_zero.1 k).resolve_left (by omega)
 have z1:=z (show 0 <ER K (p b) * v.2.2 - Fx K v from by have:=h2.2.2;simp only at this;omega) (show (ER K (p b) * v.2.2 - Fx K v) * EP (p c) (p d) (p a)=0 by omega)
 have z2:=z (show 0 <Fx K v - ER K (p a) * v.2.2 from by have:=h2.2.1;simp only at this;omega) (show (Fx K v - ER K (p a) * v.2.2) * EP (p c) (p d) (p b)=0 by omega)
 have z3:=z (show 0 <ER K (p d) * v.2.2 - Fx K v from by have:=h4.2.2;simp only at this;omega) (show (ER K (p d) * v.2.2 - Fx K v) * EP (p a) (p b) (p c)=0 by omega)
 have z4:=z (show 0 <Fx K v - ER K (p c) * v.2.2 from by have:=h4.2.1;simp only at this;omega) (show (Fx K v - ER K (p c) * v.2.2) * EP (p a) (p b) (p d)=0 by omega)
 have n1:=(h3.none a h1.l2 h1.u2 (by simp only;omega)).2
 have n2:=(h3.none b h1.l1 h1.u1 (by simp only;omega)).2
 have n3:=(h1.none c h3.l2 h3.u2 (by simp only;omega)).2
 have n4:=(h1.none d h3.l1 h3.u1 (by simp only;omega)).2
 have x1:=hr.lt (i:=a) (j:=d) h3.l1 h1.u2 (cancel h2.2.1 h4.2.2)
 have x2:=hr.lt (i:=c) (j:=b) h1.l1 h3.u2 (cancel h4.2.1 h2.2.2)
 have e9:=h2.1
 have k5:=h4.1
 simp only [Prod.mk.injEq] at *
 omega
end
end Go.Proofs.YtollcjadobpfdaaGreat.Rw
namespace Go.Proofs.YtollcjadobpfdaaGreat.Rw
section
variable {p:Int->Int×Int} {K n:Int} {c d:ET} {cs:List ET}
def G0 (p:Int->Int×Int) (K i:Int):Int×Int×Int:=(0,ER K (p i)+ER K (p (i+1)),2)
theorem II (i:Int):Fx K (G0 p K i)=ER K (p i)+ER K (p (i+1)):=by simp only [Fx,G0];omega
theorem Ht (hr:E2 p K n) {i j:Int} (h0:0<=i) (h1:i+1 <n) (r8:0<=j) (j1:j <n):(j<=i->ER K (p j) * (G0 p K i).2.2 <Fx K (G0 p K i))/\(i <j->Fx K (G0 p K i) <ER K (p j) * (G0 p K i).2.2):=by
 have r:=hr i (i+1) h0 (by omega) h1
 rw [II]
 simp only [G0]
 constructor
 ·intro h
  have:ER K (p j)<=ER K (p i):=by
   rcases Int.lt_or_eq_of_le h with g|g
   ·exact Int.le_of_lt (hr j i r8 g (by omega))
   ·rw [g];exact Int.le_refl _
  omega
 ·intro h
  have:ER K (p (i+1))<=ER K (p j):=by
   rcases Int.lt_or_eq_of_le (show i+1<=j by omega) with g|g
   ·exact Int.le_of_lt (hr (i+1) j (by omega) g j1)
   ·rw [g];exact Int.le_refl _
  omega
theorem J4 (hr:E2 p K n) {i:Int} (h0:0<=i) (h1:i+1 <n):∀j,0<=j->j <n->Fx K (G0 p K i)≠ER K (p j) * (G0 p K i).2.2:=λ j r8 j1 h=>by
 have:=Ht hr h0 h1 r8 j1
 rcases Int.lt_or_le i j with g|g
 ·have:=this.2 g;omega
 ·have:=this.1 g;omega
theorem GC (hr:E2 p K n) {i a b:Int} (h0:0<=i) (h1:i+1 <n) (a0:0<=a) (a1:a <n) (b0:0<=b) (b1:b <n):FD p K (G0 p K i) (a,b)↔a<=i/\i <b:=by
 have ha:=Ht hr h0 h1 a0 a1
 have hb:=Ht hr h0 h1 b0 b1
 constructor
 ·rintro ⟨t1,t2,t3⟩
  simp only at t1 t2 t3
  constructor
  ·rcases Int.lt_or_le i a with g|g
   ·have:=ha.2 g;omega
   ·exact g
  ·rcases Int.lt_or_le i b with g|g
   ·exact g
   ·have:=hb.1 g;omega
 ·rintro ⟨g1,g2⟩
  exact ⟨by show a <b;omega,ha.1 g1,hb.2 g2⟩
theorem JK (hr:E2 p K n) (hc:FX p n c) {i:Int} (h0:0<=i) (h1:i+1 <n) {a b:Int} (ha:Fc c a) (hb:Fc c b) (g1:a<=i) (g2:i <b):∃e,FD p K (G0 p K i) e/\(e∈EU c\/(e.2,e.1)∈EU c):=by
 have ra:=hc.Fv ha
 have rb:=hc.Fv hb
 refine ⟨(a,b),(GC hr h0 h1 ra.1 ra.2 rb.1 rb.2).2 ⟨g1,g2⟩, ?_⟩
 have hne:a≠b:=by omega
 simp only [EU,List.mem_cons,List.not_mem_nil,or_false,Prod.mk.injEq]
 rcases ha with rfl|rfl|rfl<;>rcases hb with rfl|rfl|rfl<;>first|exact absurd rfl hne|simp
theorem Fz {e:Int×Int} (he:e∈EU c):Fc c e.1/\Fc c e.2:=by
 simp only [EU,List.mem_cons,List.not_mem_nil,or_false] at he
 unfold Fc
 rcases he with rfl|rfl|rfl<;>simp
theorem Fm.level (h:Fm p K n cs) {i:Int} (h0:0<=i) (h1:i+1 <n):∃c∈cs,∃a b,Fc c a/\Fc c b/\a<=i/\i <b:=by
 apply Classical.byContradiction
 intro hn
 have no:∀c∈cs,∀a b,Fc c a->Fc c b->a<=i->b<=i:=λ c hc a b ha hb g=>by
  rcases Int.lt_or_le i b with q|q
  ·exact absurd ⟨c,hc,a,b,ha,hb,g,q⟩ hn
  ·exact q
 obtain ⟨c,hc,hu⟩:=h.used (i+1) (by omega) h1
 have hu:Fc c (i+1):=hu
 have hok:=h.cell c hc
 have hmin:c.1=i+1:=by
  have k1:i <c.1:=by
   rcases Int.lt_or_le i c.1 with q|q
   ·exact q
   ·have:=no c hc c.1 (i+1) (.inl rfl) hu q;omega
  have:=hok.b;have:=hok.d
  rcases hu with g|g|g<;>omega
 have hb:=hok.b;have VE:=hok.sv
 have l0:0<=i+1:=by omega
 have l1:i+1+1 <n:=by omega
 obtain ⟨e,e1,e2⟩:=JK h.Fg hok l0 l1 (.inl rfl) (.inr (.inl rfl)) (show c.1<=i+1 by omega) (show i+1 <c.2.1 by omega)
 have hw:0 <(G0 p K (i+1)).2.2:=by simp [G0]
 obtain ⟨⟨a,b⟩,r1,r2,r3⟩:=KY h.HM h.cell h.Fg hw (J4 h.Fg l0 l1) hc e1 e2
 obtain ⟨⟨a',b'⟩,s1,s2,s3⟩:=N2 h.HM h.cell h.Fg hw (J4 h.Fg l0 l1) hc e1 e2
 have o1:=(h.I7 _ r1).2 r2
 have o2:=(h.I7 _ s1).2 s2
 simp only at o2
 have t1:=(GC h.Fg l0 l1 o1.l1 o1.u1 o1.l2 o1.u2).1 r3
 have t2:=(GC h.Fg l0 l1 o2.l2 o2.u2 o2.l1 o2.u1).1 s3
 have ea:a=i+1:=by
  obtain ⟨x,hx,mB⟩:=List.mem_flatMap.1 r1
  have q:=Fz mB
  rcases Int.lt_or_le i a with g|g
  ·omega
  ·have:=no x hx a b q.1 q.2 g;omega
 have ea':a'=i+1:=by
  obtain ⟨x,hx,mB⟩:=List.mem_flatMap.1 s1
  have q:=Fz mB
  rcases Int.lt_or_le i a' with g|g
  ·omega
  ·have:=no x hx a' b' q.2 q.1 g;omega
 subst ea
 subst ea'
 have wo:=λ x y z=>GJ (p x) (p y) (p z)
 have f1:=h.Fg (i+1) b (by omega) (by omega) o1.u2
 have f2:=h.Fg (i+1) b' (by omega) (by omega) o2.u1
 have f3:=h.Fg 0 (i+1) (Int.le_refl _) (by omega) h1
 have S5:∀m:Int,(ER K (p m) - ER K (p (i+1))) * EP (p (i+1)) (p b) (p b')+(ER K (p b) - ER K (p (i+1))) * EP (p (i+1)) (p b') (p m) - (ER K (p b') - ER K (p (i+1))) * EP (p (i+1)) (p b) (p m)=0:=λ m=>by
  simp only [ER,EP];grind
 have L1:=λ m m0 m1=>o1.left m m0 m1
 have L2:∀m,0<=m->m <n->EP (p (i+1)) (p b') (p m)<=0:=λ m m0 m1=>by
  have:=o2.left m m0 m1
  have q:=wo (i+1) b' m
  simp only at this
  omega
 simp only at L1
 have z0:EP (p (i+1)) (p b) (p b')=0:=by
  have q:=S5 0
  have q1:=Int.mul_nonneg (show 0<=ER K (p (i+1)) - ER K (p 0) by omega) (L1 b' o2.l1 o2.u1)
  have q2:=Int.mul_nonneg (show 0<=ER K (p b) - ER K (p (i+1)) by omega) (show 0<= - EP (p (i+1)) (p b') (p 0) by have:=L2 0 (Int.le_refl _) (by omega);omega)
  have q3:=Int.mul_nonneg (show 0<=ER K (p b') - ER K (p (i+1)) by omega) (L1 0 (Int.le_refl _) (by omega))
  rw [Int.mul_neg] at q2
  have e:(ER K (p (i+1)) - ER K (p 0)) * EP (p (i+1)) (p b) (p b')= - ((ER K (p 0) - ER K (p (i+1))) * EP (p (i+1)) (p b) (p b')):=by grind
  exact (Int.mul_eq_zero.1 (show (ER K (p (i+1)) - ER K (p 0)) * EP (p (i+1)) (p b) (p b')=0 by omega)).resolve_left (by omega)
 have flat:∀m,0<=m->m <n->EP (p (i+1)) (p b) (p m)=0:=λ m m0 m1=>by
  have q:=S5 m
  rw [z0,Int.mul_zero] at q
  have q1:=Int.mul_nonneg (show 0<=ER K (p b) - ER K (p (i+1)) by omega) (show 0<= - EP (p (i+1)) (p b') (p m) by have:=L2 m m0 m1;omega)
  have q2:=Int.mul_nonneg (show 0<=ER K (p b') - ER K (p (i+1)) by omega) (L1 m m0 m1)
  rw [Int.mul_neg] at q1
  exact (Int.mul_eq_zero.1 (show (ER K (p b') - ER K (p (i+1))) * EP (p (i+1)) (p b) (p m)=0 by omega)).resolve_left (by omega)
 have hne: ¬((p (i+1)).1=(p b).1/\(p (i+1)).2=(p b).2):=λ z=>by
  have:=h.Fg.inj (by omega) h1 o1.l2 o1.u2 z
  omega
 have c1:=hok.Fv (.inl rfl);have c2:=hok.Fv (.inr (.inl rfl));have c3:=hok.Fv (.inr (.inr rfl))
 have:=Mf hne (flat _ c1.1 c1.2) (flat _ c2.1 c2.2) (flat _ c3.1 c3.2)
 have:=hok.FY
 omega
theorem Fm.Jh (h:Fm p K n cs) {e:Int×Int} (ho:E6 p n e) (hne:e.1≠e.2):e∈EX cs:=by
 obtain ⟨a,b⟩:=e
 rcases Int.lt_or_gt_of_ne hne with g|g
 ·have g:a <b:=g
  have h0:=ho.l1;have hb:=ho.u2
  simp only at h0 hb
  obtain ⟨c,hc,x,y,k1,k2,k3,k4⟩:=h.level h0 (show a+1 <n by omega)
  obtain ⟨e,e1,e2⟩:=JK h.Fg (h.cell c hc) h0 (by omega) k1 k2 k3 k4
  have hw:0 <(G0 p K a).2.2:=by simp [G0]
  obtain ⟨e',r1,r2,r3⟩:=KY h.HM h.cell h.Fg hw (J4 h.Fg h0 (by omega)) hc e1 e2
  have ht:=(GC h.Fg h0 (by omega) ho.l1 ho.u1 ho.l2 ho.u2).2 ⟨Int.le_refl a,g⟩
  rw [KV h.Fg hw ho ht ((h.I7 _ r1).2 r2) r3]
  exact r1
 ·have g:b <a:=g
  have h0:=ho.l2;have hb:=ho.u1
  simp only at h0 hb
  obtain ⟨c,hc,x,y,k1,k2,k3,k4⟩:=h.level h0 (show b+1 <n by omega)
  obtain ⟨e,e1,e2⟩:=JK h.Fg (h.cell c hc) h0 (by omega) k1 k2 k3 k4
  have hw:0 <(G0 p K b).2.2:=by simp [G0]
  obtain ⟨w,r1,r2,r3⟩:=N2 h.HM h.cell h.Fg hw (J4 h.Fg h0 (by omega)) hc e1 e2
  have ht:=(GC h.Fg h0 (by omega) ho.l2 ho.u2 ho.l1 ho.u1).2 ⟨Int.le_refl b,g⟩
  have:=Qi (e:=(b,a)) h.Fg hw ho ht ((h.I7 _ r1).2 (by simpa using r2)) r3
  rw [<-this] at r1
  exact r1
end
end Go.Proofs.YtollcjadobpfdaaGreat.Rw
namespace Go.Proofs.YtollcjadobpfdaaGreat.Rw
def FB {α:Type} (f:α->Int):List α->Int
 | []=>0
 |x::l=>f x+FB f l
theorem JZ {α:Type} (f:α->Int):∀l m:List α,FB f (l++m)=FB f l+FB f m
 | [],m=>by simp [FB]
 |x::l,m=>by simp only [List.cons_append,FB,JZ f l m];omega
theorem MU {α:Type} {f:α->Int} {l m:List α} (h:l.Perm m):FB f l=FB f m:=by
 induction h with
 |nil=>rfl
 |cons x _ ih=>simp only [FB,ih]
 |swap x y l=>simp only [FB];omega
 |trans _ _ h1 h2=>exact h1.trans h2
theorem Oa {α β:Type} (f:β->Int) (g:α->β):∀l:List α,FB f (l.map g)=FB (λ x=>f (g x)) l
 | []=>rfl
 |x::l=>by simp only [List.map_cons,FB,Oa f g l]
theorem MT {α β:Type} (f:β->Int) (g:α->List β):∀l:List α,FB f (l.flatMap g)=FB (λ x=>FB f (g x)) l
 | []=>rfl
 |x::l=>by simp only [List.flatMap_cons,FB,JZ,MT f g l]
theorem Ob {α:Type} {f g:α->Int} (h:∀x,f x= - g x):∀l:List α,FB f l= - FB g l
 | []=>rfl
 |x::l=>by simp only [FB,Ob h l,h x];omega
theorem Md {α:Type} {f g:α->Int}:∀{l:List α},(∀x∈l,f x=g x)->FB f l=FB g l
 | [],_=>rfl
 |x::l,h=>by simp only [FB];rw [h x (by simp),Md λ y hy=>h y (by simp [hy])]
theorem Kt {α:Type} (f:α->Int) (q:α->Bool):∀l:List α,FB f l=FB f (l.filter q)+FB f (l.filter λ x=> !q x)
 | []=>rfl
 |x::l=>by
  have ih:=Kt f q l
  cases hx:q x<;>simp [hx,FB,ih]<;>omega
def Gh (p:Int->Int×Int) (e:Int×Int):Int:=(p e.1).1 * (p e.2).2 - (p e.2).1 * (p e.1).2
section
variable {p:Int->Int×Int} {K n:Int} {cs:List ET}
theorem PB (cs:List ET):FB (λ c=>EP (p c.1) (p c.2.1) (p c.2.2)) cs=FB (Gh p) (EX cs):=by
 unfold EX
 rw [MT]
 refine Md λ c _=> ?_
 simp only [EU,FB,Gh,EP]
 grind
theorem PC {Q:List (Int×Int)} (h:Q.Nodup) (hr:∀e∈Q,(e.2,e.1)∈Q):FB (Gh p) Q=0:=by
 have hp:(Q.map λ e=>(e.2,e.1)).Perm Q:=by
  refine (List.perm_ext_iff_of_nodup ?_ h).2 λ e=> ?_
  ·refine List.pairwise_map.2 (List.Pairwise.imp (λ h g=>h ?_) h)
   simp only [Prod.mk.injEq] at g
   exact Prod.ext g.2 g.1
  ·rw [List.mem_map]
   constructor
   ·rintro ⟨x,hx,rfl⟩
    exact hr x hx
   ·intro he
    exact ⟨(e.2,e.1),hr e he,rfl⟩
 have h1:=MU (f:=Gh p) hp
 rw [Oa,Ob (g:=Gh p) (λ x=>by simp only [Gh];grind)] at h1
 omega
open Classical in
theorem Fm.QJ (h:Fm p K n cs) {O:List (Int×Int)} (hO:O.Nodup) (hm:∀e,e∈O↔E6 p n e/\e.1≠e.2):FB (λ c=>EP (p c.1) (p c.2.1) (p c.2.2)) cs=FB (Gh p) O:=by
 rw [PB,Kt (Gh p) (λ e=>decide ((e.2,e.1)∈EX cs)) (EX cs),PC (h.HM.filter _) (λ e he=> ?_),Int.zero_add]
 ·refine MU ((List.perm_ext_iff_of_nodup (h.HM.filter _) hO).2 λ e=> ?_)
  rw [hm,List.mem_filter]
  simp only [Bool.not_eq_true',decide_eq_false_iff_not]
  constructor
  ·rintro ⟨h1,h2⟩
   refine ⟨(h.I7 e h1).2 h2,λ z=>h2 ?_⟩
   have:e=(e.2,e.1):=Prod.ext z z.symm
   rw [<-this];exact h1
  ·rintro ⟨h1,h2⟩
   have h3:=h.Jh h1 h2
   exact ⟨h3,(h.I7 e h3).1 h1⟩
 ·rw [List.mem_filter] at he ⊢
  simp only [decide_eq_true_eq] at he ⊢
  exact ⟨he.2,he.1⟩
end
end Go.Proofs.YtollcjadobpfdaaGreat.Rw
namespace Go.Proofs.YtollcjadobpfdaaGreat.Rw
def FR (f:Nat->Rat):Nat->Rat
 | 0=>0
 |N+1=>FR f N+f N
def FE {α:Type} (f:α->Rat):List α->Rat
 | []=>0
 |x::l=>f x+FE f l
theorem JP:∀N,FR (λ _=>0) N=0
 | 0=>rfl
 |N+1=>by simp only [FR,JP N];grind
theorem IL (f g:Nat->Rat):∀N,FR (λ i=>f i+g i) N=FR f N+FR g N
 | 0=>by simp only [FR];grind
 |N+1=>by simp only [FR,IL f g N];grind
theorem Gx {f g:Nat->Rat}:∀{N},(∀i,i <N->f i=g i)->FR f N=FR g N
 | 0,_=>rfl
 |N+1,h=>by simp only [FR];rw [Gx λ i hi=>h i (by omega),h N (by omega)]
theorem H9 {α:Type} {f g:α->Rat}:∀{l:List α},(∀x∈l,f x=g x)->FE f l=FE g l
 | [],_=>rfl
 |x::l,h=>by simp only [FE];rw [h x (by simp),H9 λ y hy=>h y (by simp [hy])]
theorem Kw {α:Type} (g:α->Nat->Rat) (N:Nat):∀l:List α,FE (λ e=>FR (g e) N) l=FR (λ i=>FE (λ e=>g e i) l) N
 | []=>by simp only [FE];exact (JP N).symm
 |x::l=>by simp only [FE,Kw g N l];rw [<-IL]
open Classical in
theorem MW {α:Type} (q:α->Prop) (f:α->Rat):∀{l:List α},(∀x∈l,¬q x)->FE (λ e=>if q e then f e else 0) l=0
 | [],_=>rfl
 |x::l,h=>by
  simp only [FE]
  rw [if_neg (h x (by simp)),MW q f λ y hy=>h y (by simp [hy])]
  grind
open Classical in
theorem Lu {α:Type} (q:α->Prop) (f:α->Rat) {e0:α}:∀{l:List α},l.Nodup->e0∈l->q e0->(∀e∈l,q e->e=e0)->FE (λ e=>if q e then f e else 0) l=f e0
 |x::l,hn,hm,hq,hu=>by
  rw [List.nodup_cons] at hn
  simp only [FE]
  by_cases hx:x=e0
  ·subst hx
   rw [if_pos hq,MW q f (l:=l) λ y hy Vk=>hn.1 (hu y (List.mem_cons_of_mem _ hy) Vk▸hy)]
   grind
  ·have hm':e0∈l:=(List.mem_cons.1 hm).resolve_left (λ z=>hx z.symm)
   rw [if_neg (λ z=>hx (hu x (by simp) z)),Lu q f hn.2 hm' hq λ y hy=>hu y (by simp [hy])]
   grind
theorem K1 (F:Nat->Rat) {a b:Nat} (hab:a<=b):∀{N},b<=N->FR (λ i=>if a<=i/\i <b then F (i+1) - F i else 0) N=F b - F a
 |N,hN=>by
  have key:∀M,M<=N->FR (λ i=>if a<=i/\i <b then F (i+1) - F i else 0) M=if M<=a then 0 else if M<=b then F M - F a else F b - F a:=λ M=>by
   induction M with
   |zero=>intro _;simp [FR]
   |succ M ih=>
    intro oy
    simp only [FR]
    rw [ih (by omega)]
    by_cases h1:M+1<=a
    ·rw [if_pos (by omega),if_neg (by omega),if_pos h1];grind
    ·by_cases h2:M=a
     ·subst h2
      rw [if_pos (Nat.le_refl _),if_neg h1]
      by_cases h3:M <b
      ·rw [if_pos ⟨Nat.le_refl _,h3⟩,if_pos (by omega)];grind
      ·have:b=M:=by omega
       subst this
       rw [if_neg (by omega),if_neg (by omega)];grind
     ·rw [if_neg (by omega: ¬M<=a),if_neg h1]
      by_cases h3:M <b
      ·rw [if_pos (by omega),if_pos ⟨by omega,h3⟩,if_pos (by omega)];grind
      ·rw [if_neg (by omega: ¬(a<=M/\M <b)),if_neg (by omega: ¬M+1<=b)]
       by_cases h4:M<=b
       ·have:M=b:=by omega
        subst this
        rw [if_pos (Nat.le_refl _)];grind
       ·rw [if_neg h4];grind
  rw [key N (Nat.le_refl _)]
  by_cases h1:N<=a
  ·have:a=b:=by omega
   subst this
   rw [if_pos h1];grind
  ·rw [if_neg h1]
   by_cases h2:N<=b
   ·have:N=b:=by omega
    subst this
    rw [if_pos (Nat.le_refl _)]
   ·rw [if_neg h2]
end Go.Proofs.YtollcjadobpfdaaGreat.Rw
namespace Go.Proofs.YtollcjadobpfdaaGreat.Rw
theorem Pn (K:Int) {p:Int->Int×Int} {e e':Int×Int} (h1:EP (p e.1) (p e.2) (p e'.1)=0) (h2:EP (p e.1) (p e.2) (p e'.2)=0):
 Gh p e * (ER K (p e'.2) - ER K (p e'.1))=Gh p e' * (ER K (p e.2) - ER K (p e.1)):=by
 simp only [Gh,ER,EP] at *
 grind
section
variable {p:Int->Int×Int} {K n:Int}
def Hi (p:Int->Int×Int) (K:Int) (i:Nat):Rat:=(ER K (p ((i:Int)+1)):Rat) - (ER K (p (i:Int)):Rat)
def JX (p:Int->Int×Int) (K:Int) (e:Int×Int):Rat:=(Gh p e:Rat) / ((ER K (p e.2):Rat) - (ER K (p e.1):Rat))
def FQ (e:Int×Int) (i:Nat):Prop:=e.1<=(i:Int)/\(i:Int) <e.2
open Classical in
theorem OC (hr:E2 p K n) {N:Nat} (hN:(N:Int)+1=n) {e:Int×Int} (h0:0<=e.1) (h1:e.1 <e.2) (h2:e.2 <n):
 (Gh p e:Rat)=FR (λ i=>if FQ e i then Hi p K i * JX p K e else 0) N:=by
 have hd:=hr e.1 e.2 h0 h1 h2
 have hne:(ER K (p e.2):Rat) - (ER K (p e.1):Rat)≠0:=λ z=>by
  have z:(ER K (p e.2):Rat)=(ER K (p e.1):Rat):=by grind
  have:=Rat.intCast_inj.1 z
  omega
 have t:=K1 (λ i:Nat=>(ER K (p (i:Int)):Rat) * JX p K e) (a:=e.1.toNat) (b:=e.2.toNat) (by omega) (N:=N) (by omega)
 have e1:((e.1.toNat:Nat):Int)=e.1:=by omega
 have e2:((e.2.toNat:Nat):Int)=e.2:=by omega
 simp only [e1,e2] at t
 have hs:FR (λ i=>if FQ e i then Hi p K i * JX p K e else 0) N=FR (λ i=>if e.1.toNat<=i/\i <e.2.toNat then (ER K (p (((i+1:Nat)):Int)):Rat) * JX p K e - (ER K (p (i:Int)):Rat) * JX p K e else 0) N:=by
  refine Gx λ i hi=> ?_
  by_cases c:FQ e i
  ·have c':=c
   unfold FQ at c'
   rw [if_pos c,if_pos ⟨by omega,by omega⟩]
   unfold Hi
   rw [show (((i+1:Nat)):Int)=(i:Int)+1 by omega]
   grind
  ·rw [if_neg c,if_neg (λ z=>c ⟨by omega,by omega⟩)]
 rw [hs,t]
 unfold JX
 grind
open Classical in
theorem N3 (hr:E2 p K n) {N:Nat} (hN:(N:Int)+1=n) {E:List (Int×Int)} (hE:E.Nodup) (hin:∀e∈E,0<=e.1/\e.1 <n/\0<=e.2/\e.2 <n) (u:Nat->Int×Int) (hu:∀i,i <N->u i∈E/\FQ (u i) i) (h1:∀i,i <N->∀e∈E,FQ e i->e=u i):
 FE (λ e=>if e.1 <e.2 then (Gh p e:Rat) else 0) E=FR (λ i=>Hi p K i * JX p K (u i)) N:=by
 have s1:FE (λ e=>if e.1 <e.2 then (Gh p e:Rat) else 0) E=FE (λ e=>FR (λ i=>if FQ e i then Hi p K i * JX p K e else 0) N) E:=by
  refine H9 λ e he=> ?_
  obtain ⟨a,b,c,d⟩:=hin e he
  by_cases g:e.1 <e.2
  ·rw [if_pos g];exact OC hr hN a g d
  ·rw [if_neg g,Gx (g:=λ _=>0) λ i _=> ?_,JP]
   rw [if_neg]
   unfold FQ
   omega
 rw [s1,Kw]
 refine Gx λ i hi=> ?_
 have h2:=hu i hi
 exact Lu (λ e=>FQ e i) (λ e=>Hi p K i * JX p K e) hE h2.1 h2.2 (h1 i hi)
theorem Qo (hr:E2 p K n) {N:Nat} (hN:(N:Int)+1=n) {E E':List (Int×Int)} (hE:E.Nodup) (dW:E'.Nodup) (hin:∀e∈E,0<=e.1/\e.1 <n/\0<=e.2/\e.2 <n) (S0:∀e∈E',0<=e.1/\e.1 <n/\0<=e.2/\e.2 <n)
 (u u':Nat->Int×Int) (hu:∀i,i <N->u i∈E/\FQ (u i) i) (h1:∀i,i <N->∀e∈E,FQ e i->e=u i) (CH:∀i,i <N->u' i∈E'/\FQ (u' i) i) (h1':∀i,i <N->∀e∈E',FQ e i->e=u' i)
 (hl:∀i,i <N->EP (p (u i).1) (p (u i).2) (p (u' i).1)=0/\EP (p (u i).1) (p (u i).2) (p (u' i).2)=0):
 FE (λ e=>if e.1 <e.2 then (Gh p e:Rat) else 0) E=FE (λ e=>if e.1 <e.2 then (Gh p e:Rat) else 0) E':=by
 rw [N3 hr hN hE hin u hu h1,N3 hr hN dW S0 u' CH h1']
 refine Gx λ i hi=> ?_
 congr 1
 have a:=hu i hi
 have b:=CH i hi
 have r:=Pn K (hl i hi).1 (hl i hi).2
 have Ee:=hin _ a.1
 have ib:=S0 _ b.1
 have d1:=hr (u i).1 (u i).2 Ee.1 (by have:=a.2;unfold FQ at this;omega) Ee.2.2.2
 have d2:=hr (u' i).1 (u' i).2 ib.1 (by have:=b.2;unfold FQ at this;omega) ib.2.2.2
 have ne:∀{x y:Int},x <y->(y:Rat) - (x:Rat)≠0:=λ {x y} h z=>by
  have z:(y:Rat)=(x:Rat):=by grind
  have:=Rat.intCast_inj.1 z
  omega
 have n1:=ne d1
 have n2:=ne d2
 have EJ:(Gh p (u i):Rat) * ((ER K (p (u' i).2):Rat) - (ER K (p (u' i).1):Rat))=(Gh p (u' i):Rat) * ((ER K (p (u i).2):Rat) - (ER K (p (u i).1):Rat)):=by
  have:=congrArg (λ z:Int=>(z:Rat)) r
  simpa [Rat.intCast_mul,Rat.intCast_sub] using this
 unfold JX
 grind
end
end Go.Proofs.YtollcjadobpfdaaGreat.Rw
namespace Go.Proofs.YtollcjadobpfdaaGreat.Rw
theorem Nq {α:Type} {N D:α->Int}:∀{l:List α},l≠[]->(∀x∈l,0 <D x)->∃m∈l,∀x∈l,N x * D m<=N m * D x
 | [x],_,h=>⟨x,by simp,λ y hy=>by simp at hy;subst hy;exact Int.le_refl _⟩
 |x::y::l,_,h=>by
  obtain ⟨m,h1,h2⟩:=Nq (l:=y::l) (by simp) λ z hz=>h z (List.mem_cons_of_mem _ hz)
  have Ep:=h m (List.mem_cons_of_mem _ h1)
  have Er:=h x (by simp)
  rcases Int.le_total (N x * D m) (N m * D x) with g|g
  ·refine ⟨m,List.mem_cons_of_mem _ h1,λ z hz=> ?_⟩
   rcases List.mem_cons.1 hz with rfl|hz
   ·exact g
   ·exact h2 z hz
  ·refine ⟨x,by simp,λ z hz=> ?_⟩
   rcases List.mem_cons.1 hz with rfl|hz
   ·exact Int.le_refl _
   ·have Es:=h z (List.mem_cons_of_mem _ hz)
    have k1:=Int.mul_le_mul_of_nonneg_right (h2 z hz) (Int.le_of_lt Er)
    have k2:=Int.mul_le_mul_of_nonneg_right g (Int.le_of_lt Es)
    have e:(N z * D x) * D m<=(N x * D z) * D m:=by
     have e1:N z * D x * D m=N z * D m * D x:=by grind
     have e2:N x * D z * D m=N x * D m * D z:=by grind
     have e3:N m * D x * D z=N m * D z * D x:=by grind
     omega
    exact Int.le_of_mul_le_mul_right e Ep
section
variable {p:Int->Int×Int} {K n:Int}
structure Hf (p:Int->Int×Int) (n i a b:Int):Prop where
 lo:0<=a
 al:a<=i
 uv:i <b
 hi:b <n
 left:∀m,0<=m->m <n->0<=EP (p a) (p b) (p m)
theorem Mt (hr:E2 p K n) {i:Int} (h0:0<=i) (h1:i+1 <n):∃a b,Hf p n i a b:=by
 let S:=ER K (p i)+ER K (p (i+1))
 let L:List (Int×Int):=(List.range (i.toNat+1)).flatMap λ (a:Nat)=>(List.range (n.toNat - (i.toNat+1))).map λ (b:Nat)=>((a:Int),(b:Int)+i+1)
 have Dz:∀a b:Int,(a,b)∈L↔0<=a/\a<=i/\i <b/\b <n:=λ a b=>by
  simp only [L,List.mem_flatMap,List.mem_map,List.mem_range,Prod.mk.injEq]
  constructor
  ·rintro ⟨x,hx,y,hy,e1,e2⟩
   omega
  ·rintro ⟨q1,q2,q3,q4⟩
   exact ⟨a.toNat,by omega,(b - i - 1).toNat,by omega,by omega,by omega⟩
 have hne:L≠[]:=λ z=>by
  have:=(Dz i (i+1)).2 ⟨h0,Int.le_refl _,by omega,h1⟩
  rw [z] at this;cases this
 have Ey:∀x∈L,0 <ER K (p x.2) - ER K (p x.1):=λ x hx=>by
  obtain ⟨q1,q2,q3,q4⟩:=(Dz x.1 x.2).1 hx
  have:=hr x.1 x.2 q1 (by omega) q4
  omega
 obtain ⟨⟨a,b⟩,hm,S1⟩:=Nq (N:=λ x:Int×Int=>(ER K (p x.2) * 2 - S) * (p x.1).1+(S - ER K (p x.1) * 2) * (p x.2).1) hne Ey
 obtain ⟨q1,q2,q3,q4⟩:=(Dz a b).1 hm
 have lv:=λ j r8 j1=>Ht hr h0 h1 (j:=j) r8 j1
 have Et:Fx K (G0 p K i)=S:=II i
 have e2:(G0 p K i).2.2=2:=rfl
 simp only [Et,e2] at lv
 have ident:∀c d:Int,(ER K (p d) * 2 - S) * EP (p a) (p b) (p c)+(S - ER K (p c) * 2) * EP (p a) (p b) (p d)=
  ((ER K (p b) * 2 - S) * (p a).1+(S - ER K (p a) * 2) * (p b).1) * (ER K (p d) - ER K (p c)) - ((ER K (p d) * 2 - S) * (p c).1+(S - ER K (p c) * 2) * (p d).1) * (ER K (p b) - ER K (p a)):=λ c d=>by
  generalize S=s
  simp only [EP,ER];grind
 refine ⟨a,b,q1,q2,q3,q4,λ m m0 m1=> ?_⟩
 have zH:=E3 (p a) (p b)
 rcases Int.lt_or_le i m with g|g
 ·have k:=S1 (a,m) ((Dz a m).2 ⟨q1,q2,g,m1⟩)
  have Hv:=ident a m
  simp only at k
  rw [zH.1,Int.mul_zero,Int.zero_add] at Hv
  have hp:0 <S - ER K (p a) * 2:=by have:=(lv a q1 (by omega)).1 q2;omega
  rcases Int.lt_or_le (EP (p a) (p b) (p m)) 0 with z|z
  ·have:=Int.mul_pos hp (show 0 < - EP (p a) (p b) (p m) by omega)
   rw [Int.mul_neg] at this
   omega
  ·exact z
 ·have k:=S1 (m,b) ((Dz m b).2 ⟨m0,g,q3,q4⟩)
  have Hv:=ident m b
  simp only at k
  rw [zH.2,Int.mul_zero,Int.add_zero] at Hv
  have hp:0 <ER K (p b) * 2 - S:=by have:=(lv b (by omega) q4).2 q3;omega
  rcases Int.lt_or_le (EP (p a) (p b) (p m)) 0 with z|z
  ·have:=Int.mul_pos hp (show 0 < - EP (p a) (p b) (p m) by omega)
   rw [Int.mul_neg] at this
   omega
  ·exact z
theorem Lw (hr:E2 p K n) {i a b m:Int} (h:Hf p n i a b) (m0:0<=m) (ml:m<=i) (z:EP (p a) (p b) (p m)=0):Hf p n i m b:=by
 refine ⟨m0,ml,h.uv,h.hi,λ x x0 x1=> ?_⟩
 have Hv:(ER K (p b) - ER K (p a)) * EP (p m) (p b) (p x)=(ER K (p b) - ER K (p m)) * EP (p a) (p b) (p x) - (ER K (p b) - ER K (p x)) * EP (p a) (p b) (p m):=by simp only [EP,ER];grind
 rw [z,Int.mul_zero,Int.sub_zero] at Hv
 have g1:=hr a b h.lo (by have:=h.al;have:=h.uv;omega) h.hi
 have g2:=hr m b m0 (by have:=h.uv;omega) h.hi
 have g3:=Int.mul_nonneg (show 0<=ER K (p b) - ER K (p m) by omega) (h.left x x0 x1)
 rcases Int.lt_or_le (EP (p m) (p b) (p x)) 0 with q|q
 ·have:=Int.mul_pos (show 0 <ER K (p b) - ER K (p a) by omega) (show 0 < - EP (p m) (p b) (p x) by omega)
  rw [Int.mul_neg] at this;omega
 ·exact q
theorem K2 (hr:E2 p K n) {i a b m:Int} (h:Hf p n i a b) (ml:i <m) (m1:m <n) (z:EP (p a) (p b) (p m)=0):Hf p n i a m:=by
 refine ⟨h.lo,h.al,ml,m1,λ x x0 x1=> ?_⟩
 have Hv:(ER K (p b) - ER K (p a)) * EP (p a) (p m) (p x)=(ER K (p m) - ER K (p a)) * EP (p a) (p b) (p x) - (ER K (p x) - ER K (p a)) * EP (p a) (p b) (p m):=by simp only [EP,ER];grind
 rw [z,Int.mul_zero,Int.sub_zero] at Hv
 have g1:=hr a b h.lo (by have:=h.al;have:=h.uv;omega) h.hi
 have g2:=hr a m h.lo (by have:=h.al;omega) m1
 have g3:=Int.mul_nonneg (show 0<=ER K (p m) - ER K (p a) by omega) (h.left x x0 x1)
 rcases Int.lt_or_le (EP (p a) (p m) (p x)) 0 with q|q
 ·have:=Int.mul_pos (show 0 <ER K (p b) - ER K (p a) by omega) (show 0 < - EP (p a) (p m) (p x) by omega)
  rw [Int.mul_neg] at this;omega
 ·exact q
theorem Kx (hr:E2 p K n) {i:Int}:∀(k:Nat) {a b:Int},(b - a).toNat<=k->Hf p n i a b->∃a b,Hf p n i a b/\∀m,0<=m->m <n->EP (p a) (p b) (p m)=0-> ¬(a <m/\m <b)
 | 0,a,b,hk,h=>by have:=h.al;have:=h.uv;omega
 |k+1,a,b,hk,h=>by
  by_cases c:∃m,0<=m/\m <n/\EP (p a) (p b) (p m)=0/\a <m/\m <b
  ·obtain ⟨m,m0,m1,z,g1,g2⟩:=c
   rcases Int.lt_or_le i m with g|g
   ·exact Kx hr k (by omega) (K2 hr h g m1 z)
   ·exact Kx hr k (by omega) (Lw hr h m0 g z)
  ·exact ⟨a,b,h,λ m m0 m1 z q=>c ⟨m,m0,m1,z,q⟩⟩
theorem JR (hr:E2 p K n) {i:Int}:∀(k:Nat) {a b:Int},(n - (b - a)).toNat<=k->Hf p n i a b->∃a b,Hf p n i a b/\∀m,0<=m->m <n->EP (p a) (p b) (p m)=0->a<=m/\m<=b
 | 0,a,b,hk,h=>by have:=h.al;have:=h.uv;have:=h.lo;have:=h.hi;omega
 |k+1,a,b,hk,h=>by
  by_cases c:∃m,0<=m/\m <n/\EP (p a) (p b) (p m)=0/\(m <a\/b <m)
  ·obtain ⟨m,m0,m1,z,g|g⟩:=c
   ·exact JR hr k (by omega) (Lw hr h m0 (by have:=h.al;omega) z)
   ·exact JR hr k (by omega) (K2 hr h (by have:=h.uv;omega) m1 z)
  ·refine ⟨a,b,h,λ m m0 m1 z=> ?_⟩
   constructor
   ·rcases Int.lt_or_le m a with g|g
    ·exact absurd ⟨m,m0,m1,z,.inl g⟩ c
    ·exact g
   ·rcases Int.lt_or_le b m with g|g
    ·exact absurd ⟨m,m0,m1,z,.inr g⟩ c
    ·exact g
theorem JQ (hr:E2 p K n) {i a b c d:Int} (h0:0<=i) (h1:i+1 <n) (h:Hf p n i a b) (h':Hf p n i c d):EP (p c) (p d) (p a)=0/\EP (p c) (p d) (p b)=0/\EP (p a) (p b) (p c)=0/\EP (p a) (p b) (p d)=0:=by
 have a1:=h.al;have a2:=h.uv;have c1:=h'.al;have c2:=h'.uv
 have t:=(GC hr h0 h1 h.lo (by omega) (by omega) h.hi).2 ⟨a1,a2⟩
 have t':=(GC hr h0 h1 h'.lo (by omega) (by omega) h'.hi).2 ⟨c1,c2⟩
 exact LR t.2.1 t.2.2 t'.2.1 t'.2.2 (h'.left a h.lo (by omega)) (h'.left b (by omega) h.hi) (h.left c h'.lo (by omega)) (h.left d (by omega) h'.hi)
end
end Go.Proofs.YtollcjadobpfdaaGreat.Rw
namespace Go.Proofs.YtollcjadobpfdaaGreat.Rw
structure Jn (p:Int->Int×Int) (n:Int) (e:Int×Int):Prop where
 l1:0<=e.1
 l2:0<=e.2
 u1:e.1 <n
 u2:e.2 <n
 left:∀m,0<=m->m <n->0<=EP (p e.1) (p e.2) (p m)
 all:∀m,0<=m->m <n->EP (p e.1) (p e.2) (p m)=0->(e.1<=m/\m<=e.2)\/(e.2<=m/\m<=e.1)
section
variable {p:Int->Int×Int} {K n:Int}
open Classical in
theorem O5 (hr:E2 p K n) (hn:1<=n) {O M:List (Int×Int)} (DD:O.Nodup) (Dx:M.Nodup) (hO:∀e,e∈O↔E6 p n e/\e.1≠e.2) (oy:∀e,e∈M↔Jn p n e/\e.1≠e.2):
 FE (λ e=>if e.1 <e.2 then (Gh p e:Rat) else 0) O=FE (λ e=>if e.1 <e.2 then (Gh p e:Rat) else 0) M:=by
 have hN:(((n - 1).toNat:Nat):Int)+1=n:=by omega
 have exs:∀i:Nat,i <(n - 1).toNat->∃e:Int×Int,Hf p n i e.1 e.2/\∀m,0<=m->m <n->EP (p e.1) (p e.2) (p m)=0-> ¬(e.1 <m/\m <e.2):=λ i hi=>by
  obtain ⟨a,b,h⟩:=Mt hr (i:=i) (by omega) (by omega)
  obtain ⟨a,b,h1,h2⟩:=Kx hr _ (Nat.le_refl _) h
  exact ⟨(a,b),h1,h2⟩
 have Va:∀i:Nat,i <(n - 1).toNat->∃e:Int×Int,Hf p n i e.1 e.2/\∀m,0<=m->m <n->EP (p e.1) (p e.2) (p m)=0->e.1<=m/\m<=e.2:=λ i hi=>by
  obtain ⟨a,b,h⟩:=Mt hr (i:=i) (by omega) (by omega)
  obtain ⟨a,b,h1,h2⟩:=JR hr _ (Nat.le_refl _) h
  exact ⟨(a,b),h1,h2⟩
 let u:Nat->Int×Int:=λ i=>Classical.epsilon λ e=>Hf p n i e.1 e.2/\∀m,0<=m->m <n->EP (p e.1) (p e.2) (p m)=0-> ¬(e.1 <m/\m <e.2)
 let w:Nat->Int×Int:=λ i=>Classical.epsilon λ e=>Hf p n i e.1 e.2/\∀m,0<=m->m <n->EP (p e.1) (p e.2) (p m)=0->e.1<=m/\m<=e.2
 have hu:∀i,i <(n - 1).toNat->Hf p n i (u i).1 (u i).2/\∀m,0<=m->m <n->EP (p (u i).1) (p (u i).2) (p m)=0-> ¬((u i).1 <m/\m <(u i).2):=λ i hi=>
  Classical.epsilon_spec (p:=λ e:Int×Int=>Hf p n i e.1 e.2/\∀m,0<=m->m <n->EP (p e.1) (p e.2) (p m)=0-> ¬(e.1 <m/\m <e.2)) (exs i hi)
 have hw:∀i,i <(n - 1).toNat->Hf p n i (w i).1 (w i).2/\∀m,0<=m->m <n->EP (p (w i).1) (p (w i).2) (p m)=0->(w i).1<=m/\m<=(w i).2:=λ i hi=>
  Classical.epsilon_spec (p:=λ e:Int×Int=>Hf p n i e.1 e.2/\∀m,0<=m->m <n->EP (p e.1) (p e.2) (p m)=0->e.1<=m/\m<=e.2) (Va i hi)
 refine Qo hr hN DD Dx (λ e he=> ?_) (λ e he=> ?_) u w (λ i hi=> ?_) (λ i hi e he ha=> ?_) (λ i hi=> ?_) (λ i hi e he ha=> ?_) (λ i hi=> ?_)
 ·have h:=((hO e).1 he).1;exact ⟨h.l1,h.u1,h.l2,h.u2⟩
 ·have h:=((oy e).1 he).1;exact ⟨h.l1,h.u1,h.l2,h.u2⟩
 ·obtain ⟨h1,h2⟩:=hu i hi
  have:=h1.lo;have:=h1.al;have:=h1.uv;have:=h1.hi
  exact ⟨(hO _).2 ⟨⟨by omega,by omega,by omega,by omega,h1.left,λ m m0 m1 z=>⟨h2 m m0 m1 z,by omega⟩⟩,by omega⟩,h1.al,h1.uv⟩
 ·obtain ⟨h1,h2⟩:=hu i hi
  have ho:=((hO e).1 he).1
  have hs:Hf p n i e.1 e.2:=⟨ho.l1,ha.1,ha.2,ho.u2,ho.left⟩
  obtain ⟨k1,k2,k3,k4⟩:=JQ hr (by omega) (by omega) hs h1
  have a1:=h1.lo;have a2:=h1.al;have a3:=h1.uv;have a4:=h1.hi
  have b1:=ho.l1;have b2:=ho.u2;have b3:=ha.1;have b4:=ha.2
  have n1:=h2 e.1 b1 (by omega) k1
  have n2:=h2 e.2 (by omega) b2 k2
  have n3:=(ho.none _ a1 (by omega) k3).1
  have n4:=(ho.none _ (by omega) a4 k4).1
  exact Prod.ext (by omega) (by omega)
 ·obtain ⟨h1,h2⟩:=hw i hi
  have:=h1.lo;have:=h1.al;have:=h1.uv;have:=h1.hi
  exact ⟨(oy _).2 ⟨⟨by omega,by omega,by omega,by omega,h1.left,λ m m0 m1 z=>.inl (h2 m m0 m1 z)⟩,by omega⟩,h1.al,h1.uv⟩
 ·obtain ⟨h1,h2⟩:=hw i hi
  have ho:=((oy e).1 he).1
  have hs:Hf p n i e.1 e.2:=⟨ho.l1,ha.1,ha.2,ho.u2,ho.left⟩
  obtain ⟨k1,k2,k3,k4⟩:=JQ hr (by omega) (by omega) hs h1
  have a1:=h1.lo;have a2:=h1.al;have a3:=h1.uv;have a4:=h1.hi
  have b1:=ho.l1;have b2:=ho.u2;have b3:=ha.1;have b4:=ha.2
  have n1:=h2 e.1 b1 (by omega) k1
  have n2:=h2 e.2 (by omega) b2 k2
  have n3:=ho.all _ a1 (by omega) k3
  have n4:=ho.all _ (by omega) a4 k4
  exact Prod.ext (by omega) (by omega)
 ·have h1:=(hu i hi).1
  have h2:=(hw i hi).1
  have:=JQ hr (by omega) (by omega) h1 h2
  exact ⟨this.2.2.1,this.2.2.2⟩
def FP (K:Int) (p:Int->Int×Int) (i:Int):Int×Int:=(- (p i).1,(p i).2+2 * K * (p i).1)
theorem Jq (i:Int):ER K (FP K p i)=ER K (p i):=by simp only [ER,FP];grind
theorem Gc (a b c:Int):EP (FP K p a) (FP K p b) (FP K p c)=EP (p b) (p a) (p c):=by simp only [EP,FP];grind
theorem P0 (e:Int×Int):Gh (FP K p) e=Gh p (e.2,e.1):=by simp only [Gh,FP];grind
theorem Ga (hr:E2 p K n):E2 (FP K p) K n:=λ i j h0 h1 h2=>by rw [Jq,Jq];exact hr i j h0 h1 h2
theorem F0 (e:Int×Int):E6 (FP K p) n e↔E6 p n (e.2,e.1):=by
 constructor
 ·intro h
  exact ⟨h.l2,h.l1,h.u2,h.u1,λ m m0 m1=>by rw [<-Gc (K:=K)];exact h.left m m0 m1,λ m m0 m1 z=>by rw [<-Gc (K:=K)] at z;exact (h.none m m0 m1 z).symm⟩
 ·intro h
  exact ⟨h.l2,h.l1,h.u2,h.u1,λ m m0 m1=>by rw [Gc];exact h.left m m0 m1,λ m m0 m1 z=>by rw [Gc] at z;exact (h.none m m0 m1 z).symm⟩
theorem Nn (e:Int×Int):Jn (FP K p) n e↔Jn p n (e.2,e.1):=by
 constructor
 ·intro h
  exact ⟨h.l2,h.l1,h.u2,h.u1,λ m m0 m1=>by rw [<-Gc (K:=K)];exact h.left m m0 m1,λ m m0 m1 z=>by rw [<-Gc (K:=K)] at z;exact (h.all m m0 m1 z).symm⟩
 ·intro h
  exact ⟨h.l2,h.l1,h.u2,h.u1,λ m m0 m1=>by rw [Gc];exact h.left m m0 m1,λ m m0 m1 z=>by rw [Gc] at z;exact (h.all m m0 m1 z).symm⟩
theorem KU {O:List (Int×Int)} (h:O.Nodup):(O.map λ e=>(e.2,e.1)).Nodup:=
 List.pairwise_map.2 (List.Pairwise.imp (λ h g=>h (by simp only [Prod.mk.injEq] at g;exact Prod.ext g.2 g.1)) h)
theorem Mn {O:List (Int×Int)} {e:Int×Int}:e∈(O.map λ e=>(e.2,e.1))↔(e.2,e.1)∈O:=by
 rw [List.mem_map]
 constructor
 ·rintro ⟨x,hx,rfl⟩;exact hx
 ·intro h;exact ⟨_,h,rfl⟩
theorem Ku {α β:Type} (f:β->Rat) (g:α->β):∀l:List α,FE f (l.map g)=FE (λ x=>f (g x)) l
 | []=>rfl
 |x::l=>by simp only [List.map_cons,FE,Ku f g l]
open Classical in
theorem Lv {O:List (Int×Int)} (h:∀e∈O,e.1≠e.2):(FB (Gh p) O:Rat)=FE (λ e=>if e.1 <e.2 then (Gh p e:Rat) else 0) O+FE (λ e=>if e.1 <e.2 then (Gh (FP K p) e:Rat) else 0) (O.map λ e=>(e.2,e.1)):=by
 rw [Ku]
 induction O with
 |nil=>simp only [FB,FE];grind
 |cons e O ih=>
  have ih:=ih λ x hx=>h x (List.mem_cons_of_mem _ hx)
  have hne:=h e (by simp)
  simp only [FB,FE,Rat.intCast_add]
  rw [ih,P0]
  simp only
  rcases Int.lt_or_gt_of_ne hne with g|g
  ·rw [if_pos g,if_neg (by omega)];grind
  ·rw [if_neg (by omega),if_pos g];grind
theorem P4 (hr:E2 p K n) (hn:1<=n) {O M:List (Int×Int)} (DD:O.Nodup) (Dx:M.Nodup) (hO:∀e,e∈O↔E6 p n e/\e.1≠e.2) (oy:∀e,e∈M↔Jn p n e/\e.1≠e.2):FB (Gh p) O=FB (Gh p) M:=by
 have h1:=O5 hr hn DD Dx hO oy
 have h2:=O5 (Ga hr) hn (KU DD) (KU Dx) (λ e=>by rw [Mn,hO,F0];exact ⟨λ z=>⟨z.1,λ q=>z.2 q.symm⟩,λ z=>⟨z.1,λ q=>z.2 q.symm⟩⟩) (λ e=>by rw [Mn,oy,Nn];exact ⟨λ z=>⟨z.1,λ q=>z.2 q.symm⟩,λ z=>⟨z.1,λ q=>z.2 q.symm⟩⟩)
 have e1:=Lv (p:=p) (K:=K) (O:=O) λ e he=>((hO e).1 he).2
 have e2:=Lv (p:=p) (K:=K) (O:=M) λ e he=>((oy e).1 he).2
 refine Rat.intCast_inj.1 ?_
 rw [e1,e2,h1,h2]
end
end Go.Proofs.YtollcjadobpfdaaGreat.Rw
namespace Go.Proofs.YtollcjadobpfdaaGreat.Rw
def Im (x:Rat×Rat):Rat:=x.2 - x.1
def Iv (x y:Rat×Rat):Prop:=x.2<=y.1\/y.2<=x.1
theorem Qy {α:Type} {f:α->Rat} {l m:List α} (h:l.Perm m):FE f l=FE f m:=by
 induction h with
 |nil=>rfl
 |cons x _ ih=>simp only [FE,ih]
 |swap x y l=>simp only [FE];grind
 |trans _ _ h1 h2=>exact h1.trans h2
theorem Kv {α:Type} (f:α->Rat) (q:α->Bool):∀l:List α,FE f l=FE f (l.filter q)+FE f (l.filter λ x=> !q x)
 | []=>by simp only [List.filter_nil,FE];grind
 |x::l=>by
  have ih:=Kv f q l
  cases hx:q x<;>simp [hx,FE,ih]<;>grind
theorem Nz:∀{R:List (Rat×Rat)},R≠[]->∃m∈R,∀y∈R,m.1<=y.1
 | [x],_=>⟨x,by simp,λ y hy=>by simp at hy;subst hy;grind⟩
 |x::y::l,_=>by
  obtain ⟨m,h1,h2⟩:=Nz (R:=y::l) (by simp)
  by_cases g:x.1<=m.1
  ·refine ⟨x,by simp,λ z hz=> ?_⟩
   rcases List.mem_cons.1 hz with rfl|hz
   ·grind
   ·have:=h2 z hz;grind
  ·refine ⟨m,List.mem_cons_of_mem _ h1,λ z hz=> ?_⟩
   rcases List.mem_cons.1 hz with rfl|hz
   ·grind
   ·exact h2 z hz
theorem J5:∀(k:Nat) {L:List (Rat×Rat)} {A B:Rat},L.length<=k->A<=B->L.Pairwise Iv->(∀x∈L,A<=x.1/\x.1 <x.2/\x.2<=B)->FE Im L<=B - A
 |_,[],A,B,_,hab,_,_=>by simp only [FE];grind
 | 0,_::_,_,_,h,_,_,_=>by simp at h
 |k+1,x::T,A,B,hk,hab,hp,hin=>by
  rw [List.pairwise_cons] at hp
  have hx:=hin x (by simp)
  have hk':T.length<=k:=by simp at hk;omega
  have s:=Kv Im (λ y=>decide (x.2<=y.1)) T
  have r:=J5 k (L:=T.filter λ y=>decide (x.2<=y.1)) (A:=x.2) (B:=B) (Nat.le_trans (List.length_filter_le ..) hk') hx.2.2 (hp.2.filter _) λ y hy=>by
   rw [List.mem_filter,decide_eq_true_eq] at hy
   have:=hin y (List.mem_cons_of_mem _ hy.1)
   exact ⟨hy.2,this.2⟩
  have l:=J5 k (L:=T.filter λ y=> !decide (x.2<=y.1)) (A:=A) (B:=x.1) (Nat.le_trans (List.length_filter_le ..) hk') hx.1 (hp.2.filter _) λ y hy=>by
   rw [List.mem_filter,Bool.not_eq_true',decide_eq_false_iff_not] at hy
   have:=hin y (List.mem_cons_of_mem _ hy.1)
   have:=(hp.1 y hy.1).resolve_left hy.2
   grind
  simp only [FE]
  unfold Im at *
  grind
theorem MP {L:List (Rat×Rat)} {A B:Rat} (hp:L.Pairwise Iv) (hin:∀x∈L,A<=x.1/\x.1 <x.2/\x.2<=B) (hs:FE Im L=B - A) {x:Rat×Rat} (hx:x∈L) (hb:x.2 <B):∃y∈L,y.1=x.2:=by
 obtain ⟨s,t,rfl⟩:=List.append_of_mem hx
 have perm:(s++x::t).Perm (x::(s++t)):=List.perm_middle
 have Uu:∀{a b:Rat×Rat},Iv a b->Iv b a:=λ h=>Or.symm h
 have Bi:(x::(s++t)).Pairwise Iv:=(perm.pairwise_iff Uu).1 hp
 rw [Qy perm] at hs
 rw [List.pairwise_cons] at Bi
 generalize hT:s++t=T at *
 have hmem:∀y∈T,y∈s++x::t:=λ y hy=>perm.mem_iff.2 (List.mem_cons_of_mem _ hy)
 have Vo:=hin x hx
 apply Classical.byContradiction
 intro hn
 have s2:=Kv Im (λ y=>decide (x.2<=y.1)) T
 have l:=J5 _ (L:=T.filter λ y=> !decide (x.2<=y.1)) (A:=A) (B:=x.1) (Nat.le_refl _) Vo.1 (Bi.2.filter _) λ y hy=>by
  rw [List.mem_filter,Bool.not_eq_true',decide_eq_false_iff_not] at hy
  have:=hin y (hmem y hy.1)
  have:=(Bi.1 y hy.1).resolve_left hy.2
  grind
 have r:FE Im (T.filter λ y=>decide (x.2<=y.1)) <B - x.2:=by
  by_cases he:(T.filter λ y=>decide (x.2<=y.1))=[]
  ·rw [he];simp only [FE];grind
  ·obtain ⟨m,m1,m2⟩:=Nz he
   have hm:=m1
   rw [List.mem_filter,decide_eq_true_eq] at hm
   have VG:=hin m (hmem m hm.1)
   have hne:m.1≠x.2:=λ z=>hn ⟨m,hmem m hm.1,z⟩
   have:=J5 _ (L:=T.filter λ y=>decide (x.2<=y.1)) (A:=m.1) (B:=B) (Nat.le_refl _) (by grind) (Bi.2.filter _) λ y hy=>by
    have h2:=m2 y hy
    rw [List.mem_filter,decide_eq_true_eq] at hy
    have:=hin y (hmem y hy.1)
    exact ⟨h2,this.2⟩
   grind
 simp only [FE] at hs
 unfold Im at *
 grind
end Go.Proofs.YtollcjadobpfdaaGreat.Rw
namespace Go.Proofs.YtollcjadobpfdaaGreat.Rw
section
variable {p:Int->Int×Int} {K n:Int}
def FO (p:Int->Int×Int) (K:Int) (e:Int×Int) (i:Nat):Rat:=
 ((p e.1).1:Rat)+(((ER K (p (i:Int)):Rat)+(ER K (p ((i:Int)+1)):Rat)) / 2 - (ER K (p e.1):Rat)) * ((((p e.2).1:Rat) - ((p e.1).1:Rat)) / ((ER K (p e.2):Rat) - (ER K (p e.1):Rat)))
def HI (p:Int->Int×Int) (K:Int) (e:Int×Int):Int:=(ER K (p e.2) - ER K (p e.1)) * ((p e.1).1+(p e.2).1)
theorem Hx (hr:E2 p K n) {a b:Int} (h0:0<=a) (h1:a <b) (h2:b <n):(ER K (p b):Rat) - (ER K (p a):Rat)≠0:=λ z=>by
 have z:(ER K (p b):Rat)=(ER K (p a):Rat):=by grind
 have:=Rat.intCast_inj.1 z
 have:=hr a b h0 h1 h2
 omega
open Classical in
theorem HJ (hr:E2 p K n) {N:Nat} (hN:(N:Int)+1=n) {e:Int×Int} (h0:0<=e.1) (h1:e.1 <e.2) (h2:e.2 <n):
 (HI p K e:Rat)=FR (λ i=>if FQ e i then Hi p K i * (2 * FO p K e i) else 0) N:=by
 have hne:=Hx hr h0 h1 h2
 have t:=K1 (λ i:Nat=>2 * ((p e.1).1:Rat) * (ER K (p (i:Int)):Rat)+((ER K (p (i:Int)):Rat) - (ER K (p e.1):Rat)) * ((ER K (p (i:Int)):Rat) - (ER K (p e.1):Rat)) * ((((p e.2).1:Rat) - ((p e.1).1:Rat)) / ((ER K (p e.2):Rat) - (ER K (p e.1):Rat)))) (a:=e.1.toNat) (b:=e.2.toNat) (by omega) (N:=N) (by omega)
 have e1:((e.1.toNat:Nat):Int)=e.1:=by omega
 have e2:((e.2.toNat:Nat):Int)=e.2:=by omega
 simp only [e1,e2] at t
 have hs:∀i,i <N->(if FQ e i then Hi p K i * (2 * FO p K e i) else 0)=(if e.1.toNat<=i/\i <e.2.toNat then (2 * ((p e.1).1:Rat) * (ER K (p (((i+1:Nat)):Int)):Rat)+((ER K (p (((i+1:Nat)):Int)):Rat) - (ER K (p e.1):Rat)) * ((ER K (p (((i+1:Nat)):Int)):Rat) - (ER K (p e.1):Rat)) * ((((p e.2).1:Rat) - ((p e.1).1:Rat)) / ((ER K (p e.2):Rat) - (ER K (p e.1):Rat)))) - (2 * ((p e.1).1:Rat) * (ER K (p (i:Int)):Rat)+((ER K (p (i:Int)):Rat) - (ER K (p e.1):Rat)) * ((ER K (p (i:Int)):Rat) - (ER K (p e.1):Rat)) * ((((p e.2).1:Rat) - ((p e.1).1:Rat)) / ((ER K (p e.2):Rat) - (ER K (p e.1):Rat)))) else 0):=λ i hi=>by
  by_cases c:FQ e i
  ·have c':=c
   unfold FQ at c'
   rw [if_pos c,if_pos ⟨by omega,by omega⟩]
   unfold Hi FO
   rw [show (((i+1:Nat)):Int)=(i:Int)+1 by omega]
   grind
  ·rw [if_neg c,if_neg (λ z=>c ⟨by unfold FQ at c;omega,by unfold FQ at c;omega⟩)]
 rw [Gx hs,t]
 have el:(HI p K e:Rat)=((ER K (p e.2):Rat) - (ER K (p e.1):Rat)) * (((p e.1).1:Rat)+((p e.2).1:Rat)):=by
  unfold HI;rw [Rat.intCast_mul,Rat.intCast_sub,Rat.intCast_add]
 rw [el]
 grind
theorem Rl (c:ET):EP (p c.1) (p c.2.1) (p c.2.2)=HI p K (c.1,c.2.1)+HI p K (c.2.1,c.2.2)+HI p K (c.2.2,c.1):=by
 simp only [HI,EP,ER];grind
theorem Mj (e:Int×Int):HI p K (e.2,e.1)= - HI p K e:=by simp only [HI];grind
theorem Rm (e:Int×Int):Gh p e=HI p K e - (ER K (p e.2) * (p e.2).1 - ER K (p e.1) * (p e.1).1):=by simp only [HI,Gh,ER];grind
end
end Go.Proofs.YtollcjadobpfdaaGreat.Rw
