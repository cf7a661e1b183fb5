/- Plain laws for TriCircles. No condition. -/
import Derived.Test.YtollcjadobpfdaaGreatPlTriCirclesa
set_option linter.unusedVariables false
set_option linter.unusedSimpArgs false
set_option linter.unusedSectionVars false
namespace Go.Proofs.YtollcjadobpfdaaGreat.Rw
section
variable {p:Int->Int×Int} {K n:Int}
def Hl (p:Int->Int×Int) (K:Int) (e f:Int×Int) (i:Nat):Int:=
 (ER K (p f.2) * 2 - (ER K (p (i:Int))+ER K (p ((i:Int)+1)))) * EP (p e.1) (p e.2) (p f.1)+((ER K (p (i:Int))+ER K (p ((i:Int)+1))) - ER K (p f.1) * 2) * EP (p e.1) (p e.2) (p f.2)
def NJ (p:Int->Int×Int) (K:Int) (e:Int×Int) (i:Nat):Int:=
 (ER K (p e.2) * 2 - (ER K (p (i:Int))+ER K (p ((i:Int)+1)))) * (p e.1).1+((ER K (p (i:Int))+ER K (p ((i:Int)+1))) - ER K (p e.1) * 2) * (p e.2).1
theorem SA (e f:Int×Int) (i:Nat):Hl p K e f i=NJ p K e i * (ER K (p f.2) - ER K (p f.1)) - NJ p K f i * (ER K (p e.2) - ER K (p e.1)):=by
 unfold Hl NJ
 generalize ER K (p (i:Int))+ER K (p ((i:Int)+1))=s
 simp only [EP,ER];grind
theorem S9 {e:Int×Int} {i:Nat} (he:(ER K (p e.2):Rat) - (ER K (p e.1):Rat)≠0):(NJ p K e i:Rat)=2 * ((ER K (p e.2):Rat) - (ER K (p e.1):Rat)) * FO p K e i:=by
 unfold NJ FO
 simp only [Rat.intCast_add,Rat.intCast_sub,Rat.intCast_mul]
 have h2:((2:Int):Rat)=2:=rfl
 rw [h2]
 grind
theorem Mb {e f:Int×Int} {i:Nat} (he:(ER K (p e.2):Rat) - (ER K (p e.1):Rat)≠0) (hf:(ER K (p f.2):Rat) - (ER K (p f.1):Rat)≠0):
 (Hl p K e f i:Rat)=2 * (((ER K (p e.2):Rat) - (ER K (p e.1):Rat)) * ((ER K (p f.2):Rat) - (ER K (p f.1):Rat))) * (FO p K e i - FO p K f i):=by
 rw [SA]
 simp only [Rat.intCast_sub,Rat.intCast_mul]
 rw [S9 he,S9 hf]
 grind
theorem KA (hr:E2 p K n) {e f:Int×Int} {i:Nat} (h1:(i:Int)+1 <n) (e0:0<=e.1) (e1:e.1 <e.2) (e2:e.2 <n) (f0:0<=f.1) (f1:f.1<=(i:Int)) (f2:(i:Int) <f.2) (f3:f.2 <n)
 (g1:0<=EP (p e.1) (p e.2) (p f.1)) (g2:0<=EP (p e.1) (p e.2) (p f.2)):FO p K f i<=FO p K e i:=by
 have lo:=(Ht hr (i:=(i:Int)) (by omega) h1 f0 (by omega)).1 f1
 have hi:=(Ht hr (i:=(i:Int)) (by omega) h1 (by omega) f3).2 f2
 rw [II] at lo hi
 simp only [G0] at lo hi
 have s:0<=Hl p K e f i:=by
  unfold Hl
  have:=Int.mul_nonneg (show 0<=ER K (p f.2) * 2 - (ER K (p (i:Int))+ER K (p ((i:Int)+1))) by omega) g1
  have:=Int.mul_nonneg (show 0<=(ER K (p (i:Int))+ER K (p ((i:Int)+1))) - ER K (p f.1) * 2 by omega) g2
  omega
 have hx:=Mb (p:=p) (K:=K) (e:=e) (f:=f) (i:=i) (Hx hr e0 e1 e2) (Hx hr f0 (by omega) f3)
 have d1:=hr e.1 e.2 e0 e1 e2
 have d2:=hr f.1 f.2 f0 (by omega) f3
 have q1:(0:Rat) <(ER K (p e.2):Rat) - (ER K (p e.1):Rat):=by have:=Rat.intCast_lt_intCast.2 d1;grind
 have q2:(0:Rat) <(ER K (p f.2):Rat) - (ER K (p f.1):Rat):=by have:=Rat.intCast_lt_intCast.2 d2;grind
 have q3:=Rat.mul_pos q1 q2
 have q4:(0:Rat)<=(Hl p K e f i:Rat):=by have:=Rat.intCast_le_intCast.2 s;simpa using this
 generalize (ER K (p e.2):Rat) - (ER K (p e.1):Rat)=A at *
 generalize (ER K (p f.2):Rat) - (ER K (p f.1):Rat)=B at *
 generalize FO p K e i=X at *
 generalize FO p K f i=Y at *
 by_cases c:Y<=X
 ·exact c
 ·have c1:0 <Y - X:=by grind
  have:=Rat.mul_pos q3 c1
  grind
end
end Go.Proofs.YtollcjadobpfdaaGreat.Rw
namespace Go.Proofs.YtollcjadobpfdaaGreat.Rw
section
variable {p:Int->Int×Int} {K n:Int} {c d:ET} {cs:List ET}
structure HG (p:Int->Int×Int) (K n:Int) (cs:List ET) (M:List (Int×Int)):Prop where
 kpos:0 <K
 Fg:E2 p K n
 cell:∀c∈cs,FX p n c
 HM:cs.Nodup
 apart:∀c∈cs,∀d∈cs,c≠d->GW p c d\/GW p d c
 empty:∀c∈cs,∀r,0<=r->r <n-> ¬Fc c r-> ¬∀e∈EU c,0<=EP (p e.1) (p e.2) (p r)
 used:∀i,0<=i->i <n->∃c∈cs,Fc c i
 Uz:M.Nodup
 Uy:∀e,e∈M↔Jn p n e/\e.1≠e.2
 QJ:FB (λ c=>EP (p c.1) (p c.2.1) (p c.2.2)) cs=FB (Gh p) M
theorem LV (hc:FX p n c) (hd:FX p n d) {e:Int×Int} (h1:e∈EU c) (h2:e∈EU d): ¬GW p c d:=by
 obtain ⟨x,x1,x2,e9,k5⟩:=GV (p:=p) h1 hc.FY
 obtain ⟨y,y1,y2,ox,Ad⟩:=GV (p:=p) h2 hd.FY
 rintro ⟨f,hf,k1,k2,k3⟩
 have k:∀r,Fc d r->EP (p f.1) (p f.2) (p r)<=0:=λ r hr=>by
  rcases hr with rfl|rfl|rfl
  ·exact k1
  ·exact k2
  ·exact k3
 have r1:=GK (p e.1) (p e.2) (p x)
 have r2:=GK (p e.2) (p x) (p e.1)
 rcases (x1 f).1 hf with rfl|rfl|rfl
 ·have:=k y ((y2 y).2 (.inr (.inr rfl)));omega
 ·have:=k e.1 ((y2 e.1).2 (.inl rfl));simp only at this;omega
 ·have:=k e.2 ((y2 e.2).2 (.inr (.inl rfl)));simp only at this;omega
theorem Nh (hc:FX p n c):(EU c).Nodup:=by
 have:=hc.b;have:=hc.d
 simp only [EU,List.nodup_cons,List.mem_cons,List.not_mem_nil,or_false,Prod.mk.injEq,not_or,not_and,not_false_eq_true,List.nodup_nil,and_true]
 refine ⟨⟨λ h=> ?_,λ h=> ?_⟩,λ h=> ?_⟩<;>omega
theorem Le:∀{cs:List ET},cs.Nodup->(∀c∈cs,FX p n c)->(∀c∈cs,∀d∈cs,c≠d->GW p c d\/GW p d c)->(EX cs).Nodup
 | [],_,_,_=>List.nodup_nil
 |c::cs,hn,hc,ha=>by
  rw [List.nodup_cons] at hn
  unfold EX
  rw [List.flatMap_cons,List.nodup_append]
  refine ⟨Nh (hc c (by simp)),Le hn.2 (λ d hd=>hc d (by simp [hd])) (λ a h1 b h2=>ha a (by simp [h1]) b (by simp [h2])),λ a h1 b h2 e=> ?_⟩
  subst e
  obtain ⟨d,hd,h3⟩:=List.mem_flatMap.1 h2
  have k1:=hc c (by simp)
  have k2:=hc d (by simp [hd])
  rcases ha c (by simp) d (by simp [hd]) (λ z=>hn.1 (z▸hd)) with g|g
  ·exact LV k1 k2 h1 h3 g
  ·exact LV k2 k1 h3 h1 g
theorem HG.Sz {M:List (Int×Int)} (h:HG p K n cs M) {e:Int×Int} (ho:E6 p n e):(e.2,e.1)∉EX cs:=λ hm=>by
 obtain ⟨d,hd,he⟩:=List.mem_flatMap.1 hm
 have hok:=h.cell d hd
 obtain ⟨y,y1,y2,ox,Ad⟩:=GV (p:=p) he hok.FY
 have cy:=hok.Fv ((y2 y).2 (.inr (.inr rfl)))
 have:=ho.left y cy.1 cy.2
 have:=GJ (p e.1) (p e.2) (p y)
 simp only at ox
 omega
end
end Go.Proofs.YtollcjadobpfdaaGreat.Rw
namespace Go.Proofs.YtollcjadobpfdaaGreat.Rw
section
variable {p:Int->Int×Int} {K n:Int} {c d:ET}
theorem x_lt (hr:E2 p K n) {e f:Int×Int} {i:Nat} (e0:0<=e.1) (e1:e.1 <e.2) (e2:e.2 <n) (f0:0<=f.1) (f1:f.1 <f.2) (f3:f.2 <n) (s:0 <Hl p K e f i):FO p K f i <FO p K e i:=by
 have hx:=Mb (p:=p) (K:=K) (e:=e) (f:=f) (i:=i) (Hx hr e0 e1 e2) (Hx hr f0 f1 f3)
 have d1:=hr e.1 e.2 e0 e1 e2
 have d2:=hr f.1 f.2 f0 f1 f3
 have q1:(0:Rat) <(ER K (p e.2):Rat) - (ER K (p e.1):Rat):=by have:=Rat.intCast_lt_intCast.2 d1;grind
 have q2:(0:Rat) <(ER K (p f.2):Rat) - (ER K (p f.1):Rat):=by have:=Rat.intCast_lt_intCast.2 d2;grind
 have q3:=Rat.mul_pos q1 q2
 have q4:(0:Rat) <(Hl p K e f i:Rat):=by have:=Rat.intCast_lt_intCast.2 s;simpa using this
 generalize (ER K (p e.2):Rat) - (ER K (p e.1):Rat)=A at *
 generalize (ER K (p f.2):Rat) - (ER K (p f.1):Rat)=B at *
 generalize FO p K e i=X at *
 generalize FO p K f i=Y at *
 by_cases g:Y <X
 ·exact g
 ·by_cases g2:Y=X
  ·subst g2;grind
  ·have c1:0 <Y - X:=by grind
   have:=Rat.mul_pos q3 c1
   grind
theorem PD (hr:E2 p K n) {e f:Int×Int} {i:Nat} (h1:(i:Int)+1 <n) (f0:0<=f.1) (f1:f.1<=(i:Int)) (f2:(i:Int) <f.2) (f3:f.2 <n)
 (g1:0<=EP (p e.1) (p e.2) (p f.1)) (g2:0<=EP (p e.1) (p e.2) (p f.2)) (g:0 <EP (p e.1) (p e.2) (p f.1)\/0 <EP (p e.1) (p e.2) (p f.2)):0 <Hl p K e f i:=by
 have lo:=(Ht hr (i:=(i:Int)) (by omega) h1 f0 (by omega)).1 f1
 have hi:=(Ht hr (i:=(i:Int)) (by omega) h1 (by omega) f3).2 f2
 rw [II] at lo hi
 simp only [G0] at lo hi
 unfold Hl
 have k1:=Int.mul_nonneg (show 0<=ER K (p f.2) * 2 - (ER K (p (i:Int))+ER K (p ((i:Int)+1))) by omega) g1
 have k2:=Int.mul_nonneg (show 0<=(ER K (p (i:Int))+ER K (p ((i:Int)+1))) - ER K (p f.1) * 2 by omega) g2
 rcases g with g|g
 ·have:=Int.mul_pos (show 0 <ER K (p f.2) * 2 - (ER K (p (i:Int))+ER K (p ((i:Int)+1))) by omega) g
  omega
 ·have:=Int.mul_pos (show 0 <(ER K (p (i:Int))+ER K (p ((i:Int)+1))) - ER K (p f.1) * 2 by omega) g
  omega
theorem Ou (hr:E2 p K n) (hc:FX p n c) {i:Nat} (h1:(i:Int)+1 <n) {a b:Int} (ha:Fc c a) (hb:Fc c b) (Dw:a<=(i:Int)) (DB:(i:Int) <b):
 ∃u w:Int×Int,u∈EU c/\(w.2,w.1)∈EU c/\FQ u i/\FQ w i/\(∀x,x∈EU c->FQ x i->x=u)/\(∀x:Int×Int,(x.2,x.1)∈EU c->FQ x i->x=w)/\FO p K w i <FO p K u i:=by
 obtain ⟨e,e1,e2⟩:=JK hr hc (i:=(i:Int)) (by omega) h1 ha hb Dw DB
 have hw:0 <(G0 p K (i:Int)).2.2:=by simp [G0]
 obtain ⟨u,w,a1,a2,a3,a4,a5,a6,a7⟩:=GX hr hc hw (J4 hr (by omega) h1) e1 e2
 have yt:=Fz a1
 have vr:=Fz a2
 have Tf:=hc.Fv yt.1;have Tg:=hc.Fv yt.2
 have Qp:=hc.Fv vr.2;have Qq:=hc.Fv vr.1
 simp only at Qp Qq vr
 have DE:=(GC hr (i:=(i:Int)) (by omega) h1 Tf.1 Tf.2 Tg.1 Tg.2).1 a3
 have tw:=(GC hr (i:=(i:Int)) (by omega) h1 Qp.1 Qp.2 Qq.1 Qq.2).1 a4
 refine ⟨u,w,a1,a2,DE,tw,λ x hx ht=> ?_,λ x hx ht=> ?_, ?_⟩
 ·have q:=Fz hx
  have q1:=hc.Fv q.1;have q2:=hc.Fv q.2
  exact a5 x hx ((GC hr (i:=(i:Int)) (by omega) h1 q1.1 q1.2 q2.1 q2.2).2 ht)
 ·have q:=Fz hx
  have q1:=hc.Fv q.2;have q2:=hc.Fv q.1
  exact a6 x hx ((GC hr (i:=(i:Int)) (by omega) h1 q1.1 q1.2 q2.1 q2.2).2 ht)
 ·obtain ⟨x,x1,x2,e9,k5⟩:=GV (p:=p) a1 hc.FY
  have s:=E3 (p u.1) (p u.2)
  have nn:∀r,Fc c r->0<=EP (p u.1) (p u.2) (p r):=λ r hr'=>by
   rcases (x2 r).1 hr' with rfl|rfl|rfl
   ·omega
   ·omega
   ·omega
  have hx1:x≠u.1:=λ z=>by rw [z] at e9;omega
  have hx2:x≠u.2:=λ z=>by rw [z] at e9;omega
  refine x_lt hr Tf.1 (by omega) Tg.2 Qp.1 (by omega) Qq.2 (PD hr h1 Qp.1 tw.1 tw.2 Qq.2 (nn _ vr.2) (nn _ vr.1) ?_)
  rcases (x2 w.1).1 vr.2 with g|g|g
  ·rcases (x2 w.2).1 vr.1 with g2|g2|g2
   ·omega
   ·exfalso
    have:=(x1 _).1 a2
    rw [g,g2] at this
    simp only [Prod.mk.injEq] at this
    rcases this with z|z|z
    ·have:=congrArg Prod.fst z;simp only at this;omega
    ·omega
    ·omega
   ·right;rw [g2];exact e9
  ·rcases (x2 w.2).1 vr.1 with g2|g2|g2
   ·omega
   ·omega
   ·right;rw [g2];exact e9
  ·left;rw [g];exact e9
end
end Go.Proofs.YtollcjadobpfdaaGreat.Rw
namespace Go.Proofs.YtollcjadobpfdaaGreat.Rw
section
variable {p:Int->Int×Int} {K n:Int} {c d:ET}
theorem Mw (hr:E2 p K n) {e f:Int×Int} {i:Nat} (h1:(i:Int)+1 <n) (e0:0<=e.1) (e1:e.1 <e.2) (e2:e.2 <n) (f0:0<=f.1) (f1:f.1<=(i:Int)) (f2:(i:Int) <f.2) (f3:f.2 <n)
 (g1:EP (p e.1) (p e.2) (p f.1)<=0) (g2:EP (p e.1) (p e.2) (p f.2)<=0):FO p K e i<=FO p K f i:=by
 have lo:=(Ht hr (i:=(i:Int)) (by omega) h1 f0 (by omega)).1 f1
 have hi:=(Ht hr (i:=(i:Int)) (by omega) h1 (by omega) f3).2 f2
 rw [II] at lo hi
 simp only [G0] at lo hi
 have s:Hl p K e f i<=0:=by
  unfold Hl
  have k1:=Int.mul_nonneg (show 0<=ER K (p f.2) * 2 - (ER K (p (i:Int))+ER K (p ((i:Int)+1))) by omega) (show 0<= - EP (p e.1) (p e.2) (p f.1) by omega)
  have k2:=Int.mul_nonneg (show 0<=(ER K (p (i:Int))+ER K (p ((i:Int)+1))) - ER K (p f.1) * 2 by omega) (show 0<= - EP (p e.1) (p e.2) (p f.2) by omega)
  rw [Int.mul_neg] at k1 k2
  omega
 by_cases g:FO p K e i<=FO p K f i
 ·exact g
 ·have hx:=Mb (p:=p) (K:=K) (e:=e) (f:=f) (i:=i) (Hx hr e0 e1 e2) (Hx hr f0 (by omega) f3)
  have d1:=hr e.1 e.2 e0 e1 e2
  have d2:=hr f.1 f.2 f0 (by omega) f3
  have q1:(0:Rat) <(ER K (p e.2):Rat) - (ER K (p e.1):Rat):=by have:=Rat.intCast_lt_intCast.2 d1;grind
  have q2:(0:Rat) <(ER K (p f.2):Rat) - (ER K (p f.1):Rat):=by have:=Rat.intCast_lt_intCast.2 d2;grind
  have q3:=Rat.mul_pos q1 q2
  have q4:(Hl p K e f i:Rat)<=0:=by have:=Rat.intCast_le_intCast.2 s;simpa using this
  generalize (ER K (p e.2):Rat) - (ER K (p e.1):Rat)=A at *
  generalize (ER K (p f.2):Rat) - (ER K (p f.1):Rat)=B at *
  generalize FO p K e i=X at *
  generalize FO p K f i=Y at *
  have c1:0 <X - Y:=by grind
  have:=Rat.mul_pos q3 c1
  grind
theorem F2 (hc:FX p n c) {f:Int×Int} (hf:f∈EU c) {r:Int} (hr:Fc c r):0<=EP (p f.1) (p f.2) (p r):=by
 obtain ⟨x,x1,x2,e9,k5⟩:=GV (p:=p) hf hc.FY
 have s:=E3 (p f.1) (p f.2)
 rcases (x2 r).1 hr with rfl|rfl|rfl<;>omega
theorem KW (hr:E2 p K n) (hc:FX p n c) (hd:FX p n d) {i:Nat} (h1:(i:Int)+1 <n) (hp:GW p c d) {u w u' w':Int×Int}
 (yt:Fc c u.1/\Fc c u.2) (vr:Fc c w.1/\Fc c w.2) (du:Fc d u'.1/\Fc d u'.2) (DT:Fc d w'.1/\Fc d w'.2)
 (DE:FQ u i) (tw:FQ w i) (T3:FQ u' i) (T4:FQ w' i):FO p K u i<=FO p K w' i\/FO p K u' i<=FO p K w i:=by
 obtain ⟨f,hf,k1,k2,k3⟩:=hp
 have k:∀r,Fc d r->EP (p f.1) (p f.2) (p r)<=0:=λ r hr=>by
  rcases hr with rfl|rfl|rfl
  ·exact k1
  ·exact k2
  ·exact k3
 have cf:=Fz hf
 have f1:=hc.Fv cf.1;have f2:=hc.Fv cf.2
 have u1:=hc.Fv yt.1;have u2:=hc.Fv yt.2;have w1:=hc.Fv vr.1;have w2:=hc.Fv vr.2
 have Vs:=hd.Fv du.1;have Vt:=hd.Fv du.2;have Vu:=hd.Fv DT.1;have Vv:=hd.Fv DT.2
 have hne:f.1≠f.2:=λ z=>by
  obtain ⟨x,x1,x2,e9,k5⟩:=GV (p:=p) hf hc.FY
  rw [z] at e9
  have:EP (p f.2) (p f.2) (p x)=0:=by simp only [EP];grind
  omega
 rcases Int.lt_or_gt_of_ne hne with g|g
 ·left
  have a:=KA hr h1 f1.1 g f2.2 u1.1 DE.1 DE.2 u2.2 (F2 hc hf yt.1) (F2 hc hf yt.2)
  have b:=Mw hr h1 f1.1 g f2.2 Vu.1 T4.1 T4.2 Vv.2 (k _ DT.1) (k _ DT.2)
  grind
 ·right
  have wo:=λ r=>GJ (p f.1) (p f.2) (p r)
  have a:=KA hr (e:=(f.2,f.1)) h1 f2.1 g f1.2 Vs.1 T3.1 T3.2 Vt.2 (by have:=k _ du.1;have:=wo u'.1;simp only;omega) (by have:=k _ du.2;have:=wo u'.2;simp only;omega)
  have b:=Mw hr (e:=(f.2,f.1)) h1 f2.1 g f1.2 w1.1 tw.1 tw.2 w2.2 (by have:=F2 hc hf vr.1;have:=wo w.1;simp only;omega) (by have:=F2 hc hf vr.2;have:=wo w.2;simp only;omega)
  grind
end
end Go.Proofs.YtollcjadobpfdaaGreat.Rw
namespace Go.Proofs.YtollcjadobpfdaaGreat.Rw
section
variable {p:Int->Int×Int} {K n:Int} {c:ET}
def JS (c:ET) (k:Nat):Int×Int:=if c.2.1 <c.2.2 then (if (k:Int) <c.2.1 then (c.1,c.2.1) else (c.2.1,c.2.2)) else (c.1,c.2.1)
def Jp (c:ET) (k:Nat):Int×Int:=if c.2.1 <c.2.2 then (c.1,c.2.2) else (if (k:Int) <c.2.2 then (c.1,c.2.2) else (c.2.2,c.2.1))
def HU (c:ET) (k:Nat):Prop:=c.1<=(k:Int)/\((k:Int) <c.2.1\/(k:Int) <c.2.2)
theorem Qx {f g h s:Nat->Rat} {N:Nat} (hk:∀k,k <N->f k+g k - h k=s k):FR f N+FR g N - FR h N=FR s N:=by
 induction N with
 |zero=>simp only [FR];grind
 |succ N ih=>
  have h1:=ih λ k hk'=>hk k (by omega)
  have h2:=hk N (by omega)
  simp only [FR]
  grind
open Classical in
theorem QT (hr:E2 p K n) (hc:FX p n c) {N:Nat} (hN:(N:Int)+1=n):
 (EP (p c.1) (p c.2.1) (p c.2.2):Rat)=FR (λ k=>if HU c k then Hi p K k * (2 * (FO p K (JS c k) k - FO p K (Jp c k) k)) else 0) N:=by
 obtain ⟨i,y,z⟩:=c
 obtain ⟨lo,hb,hd,sv,q8,FY⟩:=hc
 simp only at lo hb hd sv q8 FY
 have hyz:y≠z:=λ h=>by subst h;rw [(E3 (p i) (p y)).2] at FY;omega
 rw [Rl (p:=p) (K:=K) (i,y,z)]
 simp only
 rcases Int.lt_or_gt_of_ne hyz with g|g
 ·rw [show HI p K (z,i)= - HI p K (i,z) from Mj (i,z),Rat.intCast_add,Rat.intCast_add,Rat.intCast_neg]
  rw [HJ hr hN (e:=(i,y)) lo hb sv,HJ hr hN (e:=(y,z)) (by show 0<=y;omega) g q8,HJ hr hN (e:=(i,z)) lo hd q8]
  rw [<-Rat.sub_eq_add_neg]
  refine Qx λ k hk=> ?_
  unfold FQ HU JS Jp
  simp only [g,if_true]
  by_cases a:i<=(k:Int)
  ·by_cases b:(k:Int) <y
   ·simp only [a,b,true_and,if_true,true_or]
    rw [if_neg (by omega),if_pos (by omega)];grind
   ·by_cases d:(k:Int) <z
    ·rw [if_neg (by omega),if_pos (by omega),if_pos (by omega),if_pos (by omega),if_neg b];grind
    ·rw [if_neg (by omega),if_neg (by omega),if_neg (by omega),if_neg (by omega)];grind
  ·rw [if_neg (by omega),if_neg (by omega),if_neg (by omega),if_neg (by omega)];grind
 ·have g': ¬y <z:=by omega
  rw [show HI p K (z,i)= - HI p K (i,z) from Mj (i,z),show HI p K (y,z)= - HI p K (z,y) from Mj (z,y),Rat.intCast_add,Rat.intCast_add,Rat.intCast_neg,Rat.intCast_neg]
  rw [HJ hr hN (e:=(i,y)) lo hb sv,HJ hr hN (e:=(z,y)) (by show 0<=z;omega) g sv,HJ hr hN (e:=(i,z)) lo hd q8]
  have key:∀{f h s t:Nat->Rat},(∀k,k <N->t k+h k+s k=f k)->FR f N+ - FR h N+ - FR s N=FR t N:=λ {f h s t} hk=>by
   have e:FR f N=FR t N+FR h N+FR s N:=by
    rw [<-IL, <-IL]
    exact Gx λ k hk'=>(hk k hk').symm
   grind
  refine key λ k hk=> ?_
  unfold FQ HU JS Jp
  simp only [g',if_false]
  by_cases a:i<=(k:Int)
  ·by_cases d:(k:Int) <z
   ·rw [if_pos (show i<=(k:Int)/\((k:Int) <y\/(k:Int) <z) by omega),if_pos d,if_neg (show ¬(z<=(k:Int)/\(k:Int) <y) by omega),if_pos (show i<=(k:Int)/\(k:Int) <z by omega),if_pos (show i<=(k:Int)/\(k:Int) <y by omega)];grind
   ·by_cases b:(k:Int) <y
    ·rw [if_pos (show i<=(k:Int)/\((k:Int) <y\/(k:Int) <z) by omega),if_neg d,if_pos (show z<=(k:Int)/\(k:Int) <y by omega),if_neg (show ¬(i<=(k:Int)/\(k:Int) <z) by omega),if_pos (show i<=(k:Int)/\(k:Int) <y by omega)];grind
    ·rw [if_neg (by omega),if_neg (by omega),if_neg (by omega),if_neg (by omega)];grind
  ·rw [if_neg (by omega),if_neg (by omega),if_neg (by omega),if_neg (by omega)];grind
end
end Go.Proofs.YtollcjadobpfdaaGreat.Rw
namespace Go.Proofs.YtollcjadobpfdaaGreat.Rw
section
variable {p:Int->Int×Int} {K n:Int} {c:ET}
theorem Kz (hc:FX p n c) {i:Nat} (h:HU c i):JS c i∈EU c/\FQ (JS c i) i:=by
 have:=hc.b;have:=hc.d
 unfold HU at h
 unfold JS FQ
 simp only [EU,List.mem_cons,List.not_mem_nil,or_false]
 split
 ·split
  ·exact ⟨.inl rfl,by omega⟩
  ·exact ⟨.inr (.inl rfl),by simp only;omega⟩
 ·exact ⟨.inl rfl,by simp only;omega⟩
theorem Kf (hc:FX p n c) {i:Nat} (h:HU c i):((Jp c i).2,(Jp c i).1)∈EU c/\FQ (Jp c i) i:=by
 have:=hc.b;have:=hc.d
 unfold HU at h
 unfold Jp FQ
 simp only [EU,List.mem_cons,List.not_mem_nil,or_false]
 split
 ·exact ⟨.inr (.inr rfl),by simp only;omega⟩
 ·split
  ·exact ⟨.inr (.inr rfl),by simp only;omega⟩
  ·rename_i g1 g2
   by_cases e:c.2.1=c.2.2
   ·exfalso;have:=hc.FY;rw [e,(E3 (p c.1) (p c.2.2)).2] at this;omega
   ·exact ⟨.inr (.inl rfl),by simp only;omega⟩
theorem R5 {i:Nat} {a b:Int} (hc:FX p n c) (ha:Fc c a) (hb:Fc c b) (Dw:a<=(i:Int)) (DB:(i:Int) <b):HU c i:=by
 have:=hc.b;have:=hc.d
 unfold Fc at ha hb
 unfold HU
 omega
theorem J1 (hr:E2 p K n) (hc:FX p n c) {i:Nat} (h1:(i:Int)+1 <n) (h:HU c i):
 (∀x,x∈EU c->FQ x i->x=JS c i)/\(∀x:Int×Int,(x.2,x.1)∈EU c->FQ x i->x=Jp c i)/\FO p K (Jp c i) i <FO p K (JS c i) i:=by
 have a:=Kz hc h
 have b:=Kf hc h
 have ca:=Fz a.1
 obtain ⟨u,w,u1,w1,DE,tw,k1,k2,k3⟩:=Ou hr hc h1 ca.1 ca.2 a.2.1 a.2.2
 have e1:=k1 _ a.1 a.2
 have e2:=k2 _ b.1 b.2
 rw [e1,e2]
 exact ⟨k1,k2,k3⟩
theorem ON (hr:E2 p K n) {i:Nat} (h1:(i:Int)+1 <n):0 <Hi p K i:=by
 have:=Rat.intCast_lt_intCast.2 (hr (i:Int) ((i:Int)+1) (by omega) (by omega) h1)
 unfold Hi
 grind
theorem KJ {e:Int×Int} {i:Nat} (he:(ER K (p e.2):Rat) - (ER K (p e.1):Rat)≠0):FO (FP K p) K e i= - FO p K e i:=by
 unfold FO
 simp only [Jq]
 simp only [FP,Rat.intCast_neg]
 grind
theorem Q5 {i:Nat}:Hi (FP K p) K i=Hi p K i:=by
 unfold Hi
 simp only [Jq]
open Classical in
theorem RE {N:Nat} {E:List (Int×Int)} (hE:E.Nodup) (u:Nat->Int×Int) (hu:∀i,i <N->u i∈E/\FQ (u i) i) (h1:∀i,i <N->∀e∈E,FQ e i->e=u i)
 (G:Int×Int->Rat) (g:Int×Int->Nat->Rat) (hG:∀e∈E,e.1 <e.2->G e=FR (λ i=>if FQ e i then g e i else 0) N):
 FE (λ e=>if e.1 <e.2 then G e else 0) E=FR (λ i=>g (u i) i) N:=by
 have s1:FE (λ e=>if e.1 <e.2 then G e else 0) E=FE (λ e=>FR (λ i=>if FQ e i then g e i else 0) N) E:=by
  refine H9 λ e he=> ?_
  by_cases c:e.1 <e.2
  ·rw [if_pos c];exact hG e he c
  ·rw [if_neg c,Gx (g:=λ _=>0) λ i _=> ?_,JP]
   rw [if_neg]
   unfold FQ
   omega
 rw [s1,Kw]
 refine Gx λ i hi=> ?_
 have h2:=hu i hi
 exact Lu (λ e=>FQ e i) (λ e=>g e i) hE h2.1 h2.2 (h1 i hi)
def G7 (p:Int->Int×Int) (n:Int) (i:Nat) (e:Int×Int):Prop:=Hf p n i e.1 e.2/\∀m,0<=m->m <n->EP (p e.1) (p e.2) (p m)=0->e.1<=m/\m<=e.2
theorem OR (hr:E2 p K n) {i:Nat} (h1:(i:Int)+1 <n):∃e,G7 p n i e:=by
 obtain ⟨a,b,h⟩:=Mt hr (i:=i) (by omega) (by omega)
 obtain ⟨a,b,h1,h2⟩:=JR hr _ (Nat.le_refl _) h
 exact ⟨(a,b),h1,h2⟩
theorem Rn {i:Nat} {e:Int×Int} (h:G7 p n i e):(Jn p n e/\e.1≠e.2)/\FQ e i:=by
 obtain ⟨h1,h2⟩:=h
 have:=h1.lo;have:=h1.al;have:=h1.uv;have:=h1.hi
 exact ⟨⟨⟨by omega,by omega,by omega,by omega,h1.left,λ m m0 m1 z=>.inl (h2 m m0 m1 z)⟩,by omega⟩,h1.al,h1.uv⟩
theorem Ro (hr:E2 p K n) {i:Nat} (hi:(i:Int)+1 <n) {e u:Int×Int} (hu:G7 p n i u) (ho:Jn p n e) (ha:FQ e i):e=u:=by
 obtain ⟨h1,h2⟩:=hu
 have hs:Hf p n i e.1 e.2:=⟨ho.l1,ha.1,ha.2,ho.u2,ho.left⟩
 obtain ⟨k1,k2,k3,k4⟩:=JQ hr (by omega) (by omega) hs h1
 have a1:=h1.lo;have a2:=h1.al;have a3:=h1.uv;have a4:=h1.hi
 have b1:=ho.l1;have b2:=ho.u2;have b3:=ha.1;have b4:=ha.2
 have n1:=h2 e.1 b1 (by omega) k1
 have n2:=h2 e.2 (by omega) b2 k2
 have n3:=ho.all _ a1 (by omega) k3
 have n4:=ho.all _ (by omega) a4 k4
 exact Prod.ext (by omega) (by omega)
def Ik (p:Int->Int×Int) (K:Int) (i:Int):Rat:=(ER K (p i):Rat) * ((p i).1:Rat)
open Classical in
theorem RL (hr:E2 p K n) {N:Nat} (hN:(N:Int)+1=n) {e:Int×Int} (h0:0<=e.1) (h1:e.1 <e.2) (h2:e.2 <n):
 (Gh p e:Rat)=FR (λ i=>if FQ e i then Hi p K i * (2 * FO p K e i) - (Ik p K ((i:Int)+1) - Ik p K (i:Int)) else 0) N:=by
 have t:=K1 (λ i:Nat=> - Ik p K (i:Int)) (a:=e.1.toNat) (b:=e.2.toNat) (by omega) (N:=N) (by omega)
 have e1:((e.1.toNat:Nat):Int)=e.1:=by omega
 have e2:((e.2.toNat:Nat):Int)=e.2:=by omega
 simp only [e1,e2] at t
 have l:=HJ hr hN h0 h1 h2
 have key:FR (λ i=>if FQ e i then Hi p K i * (2 * FO p K e i) - (Ik p K ((i:Int)+1) - Ik p K (i:Int)) else 0) N=(HI p K e:Rat)+(- Ik p K e.2 - - Ik p K e.1):=by
  rw [l, <-t, <-IL]
  refine Gx λ i hi=> ?_
  by_cases c:FQ e i
  ·have c':=c
   unfold FQ at c'
   rw [if_pos c,if_pos c,if_pos ⟨by omega,by omega⟩,show (((i+1:Nat)):Int)=(i:Int)+1 by omega]
   grind
  ·rw [if_neg c,if_neg c,if_neg (λ z=>c ⟨by omega,by omega⟩)]
   grind
 rw [key,Rm (K:=K)]
 unfold Ik
 simp only [Rat.intCast_sub,Rat.intCast_mul]
 grind
theorem MQ (hr:E2 p K n) {N:Nat} (hN:(N:Int)+1=n) {M:List (Int×Int)} (Dx:M.Nodup) (oy:∀e,e∈M↔Jn p n e/\e.1≠e.2) (R:Nat->Int×Int) (hR:∀i,i <N->G7 p n i (R i)):
 FE (λ e=>if e.1 <e.2 then (Gh p e:Rat) else 0) M=FR (λ i=>Hi p K i * (2 * FO p K (R i) i) - (Ik p K ((i:Int)+1) - Ik p K (i:Int))) N:=by
 refine RE Dx R (λ i hi=> ?_) (λ i hi e he ha=> ?_) (λ e=>(Gh p e:Rat)) (λ e i=>Hi p K i * (2 * FO p K e i) - (Ik p K ((i:Int)+1) - Ik p K (i:Int))) λ e he g=> ?_
 ·have:=Rn (hR i hi);exact ⟨(oy _).2 this.1,this.2⟩
 ·exact Ro hr (by omega) (hR i hi) ((oy e).1 he).1 ha
 ·have:=((oy e).1 he).1
  exact RL hr hN this.l1 g this.u2
theorem Re (hr:E2 p K n) {N:Nat} (hN:(N:Int)+1=n) {M:List (Int×Int)} (Dx:M.Nodup) (oy:∀e,e∈M↔Jn p n e/\e.1≠e.2) (R L:Nat->Int×Int) (hR:∀i,i <N->G7 p n i (R i)) (hL:∀i,i <N->G7 (FP K p) n i (L i)):
 (FB (Gh p) M:Rat)=FR (λ i=>Hi p K i * (2 * (FO p K (R i) i - FO p K (L i) i))) N:=by
 rw [Lv (p:=p) (K:=K) λ e he=>((oy e).1 he).2]
 have h1:=MQ hr hN Dx oy R hR
 have h2:=MQ (Ga hr) hN (KU Dx) (λ e=>by rw [Mn,oy,Nn];exact ⟨λ z=>⟨z.1,λ q=>z.2 q.symm⟩,λ z=>⟨z.1,λ q=>z.2 q.symm⟩⟩) L hL
 rw [h1,h2, <-IL]
 refine Gx λ i hi=> ?_
 have b:=(hL i hi).1
 have Ec:∀j,Ik (FP K p) K j= - Ik p K j:=λ j=>by
  unfold Ik
  rw [Jq]
  simp only [FP,Rat.intCast_neg]
  grind
 rw [Q5,Ec,Ec,KJ (Hx hr b.lo (by have:=b.al;have:=b.uv;omega) b.hi)]
 grind
end
end Go.Proofs.YtollcjadobpfdaaGreat.Rw
namespace Go.Proofs.YtollcjadobpfdaaGreat.Rw
section
variable {p:Int->Int×Int} {K n:Int} {c d:ET} {cs:List ET} {M:List (Int×Int)}
theorem HG.IU (h:HG p K n cs M) (hc:c∈cs) {e:Int×Int} (he:e∈EU c) {m:Int} (m0:0<=m) (m1:m <n) (z:EP (p e.1) (p e.2) (p m)=0): ¬(e.1 <m/\m <e.2)/\ ¬(e.2 <m/\m <e.1):=by
 have hok:=h.cell c hc
 obtain ⟨x,x1,x2,e9,k5⟩:=GV (p:=p) he hok.FY
 have ce:=Fz he
 have r1:=hok.Fv ce.1;have r2:=hok.Fv ce.2
 have hx:=hok.Fv ((x2 x).2 (.inr (.inr rfl)))
 apply Classical.byContradiction
 intro hn
 have hn:(e.1 <m/\m <e.2)\/(e.2 <m/\m <e.1):=by
  rcases Classical.em (e.1 <m/\m <e.2) with g|g
  ·exact .inl g
  ·rcases Classical.em (e.2 <m/\m <e.1) with g2|g2
   ·exact .inr g2
   ·exact absurd ⟨g,g2⟩ hn
 have Hv:(ER K (p e.2) - ER K (p e.1)) * EP (p e.2) (p x) (p m)=(ER K (p e.2) - ER K (p m)) * EP (p e.1) (p e.2) (p x)+(ER K (p x) - ER K (p e.2)) * EP (p e.1) (p e.2) (p m):=by simp only [EP,ER];grind
 have Nt:(ER K (p e.2) - ER K (p e.1)) * EP (p x) (p e.1) (p m)=(ER K (p m) - ER K (p e.1)) * EP (p e.1) (p e.2) (p x)+(ER K (p e.1) - ER K (p x)) * EP (p e.1) (p e.2) (p m):=by simp only [EP,ER];grind
 rw [z,Int.mul_zero,Int.add_zero] at Hv Nt
 have pos:∀{a b q:Int},0 <a->a * q=b->0<=b->0<=q:=λ {a b q} g1 g2 g3=>by
  rcases Int.lt_or_le q 0 with g|g
  ·have:=Int.mul_pos g1 (show 0 < -q by omega);rw [Int.mul_neg] at this;omega
  ·exact g
 have s1:0<=EP (p e.2) (p x) (p m)/\0<=EP (p x) (p e.1) (p m):=by
  rcases hn with ⟨g1,g2⟩|⟨g1,g2⟩
  ·have k1:=h.Fg e.1 m r1.1 g1 m1
   have k2:=h.Fg m e.2 m0 g2 r2.2
   exact ⟨pos (show 0 <ER K (p e.2) - ER K (p e.1) by omega) Hv (Int.mul_nonneg (by omega) (by omega)),pos (show 0 <ER K (p e.2) - ER K (p e.1) by omega) Nt (Int.mul_nonneg (by omega) (by omega))⟩
  ·have k1:=h.Fg e.2 m r2.1 g1 m1
   have k2:=h.Fg m e.1 m0 g2 r1.2
   have f1:(ER K (p e.1) - ER K (p e.2)) * EP (p e.2) (p x) (p m)=(ER K (p m) - ER K (p e.2)) * EP (p e.1) (p e.2) (p x):=by grind
   have f2:(ER K (p e.1) - ER K (p e.2)) * EP (p x) (p e.1) (p m)=(ER K (p e.1) - ER K (p m)) * EP (p e.1) (p e.2) (p x):=by grind
   exact ⟨pos (show 0 <ER K (p e.1) - ER K (p e.2) by omega) f1 (Int.mul_nonneg (by omega) (by omega)),pos (show 0 <ER K (p e.1) - ER K (p e.2) by omega) f2 (Int.mul_nonneg (by omega) (by omega))⟩
 refine h.empty c hc m m0 m1 (λ q=> ?_) λ f hf=> ?_
 ·rcases (x2 m).1 q with rfl|rfl|rfl<;>omega
 ·rcases (x1 f).1 hf with rfl|rfl|rfl
  ·omega
  ·exact s1.1
  ·exact s1.2
theorem IV (hr:E2 p K n) {e f:Int×Int} {i:Nat} (h1:(i:Int)+1 <n) (e0:0<=e.1) (e1:e.1 <e.2) (e2:e.2 <n) (f0:0<=f.1) (f1:f.1<=(i:Int)) (f2:(i:Int) <f.2) (f3:f.2 <n)
 (hx:FO p K f i=FO p K e i) (g:(0<=EP (p e.1) (p e.2) (p f.1)/\0<=EP (p e.1) (p e.2) (p f.2))\/(EP (p e.1) (p e.2) (p f.1)<=0/\EP (p e.1) (p e.2) (p f.2)<=0)):EP (p e.1) (p e.2) (p f.1)=0/\EP (p e.1) (p e.2) (p f.2)=0:=by
 have lo:=(Ht hr (i:=(i:Int)) (by omega) h1 f0 (by omega)).1 f1
 have hi:=(Ht hr (i:=(i:Int)) (by omega) h1 (by omega) f3).2 f2
 rw [II] at lo hi
 simp only [G0] at lo hi
 have s:=Mb (p:=p) (K:=K) (e:=e) (f:=f) (i:=i) (Hx hr e0 e1 e2) (Hx hr f0 (by omega) f3)
 rw [hx] at s
 have s:(Hl p K e f i:Rat)=((0:Int):Rat):=by rw [s];simp only [Rat.intCast_zero];grind
 have s:=Rat.intCast_inj.1 s
 unfold Hl at s
 generalize hA:ER K (p f.2) * 2 - (ER K (p (i:Int))+ER K (p ((i:Int)+1)))=A at s
 generalize hB:(ER K (p (i:Int))+ER K (p ((i:Int)+1))) - ER K (p f.1) * 2=B at s
 have pA:0 <A:=by omega
 have pB:0 <B:=by omega
 generalize EP (p e.1) (p e.2) (p f.1)=x at *
 generalize EP (p e.1) (p e.2) (p f.2)=y at *
 have DJ:0 <x->0 <A * x:=Int.mul_pos pA
 have U6:x <0->0 <A * (-x):=λ h=>Int.mul_pos pA (by omega)
 have DZ:0 <y->0 <B * y:=Int.mul_pos pB
 have U7:y <0->0 <B * (-y):=λ h=>Int.mul_pos pB (by omega)
 have EN:x=0->A * x=0:=λ h=>by rw [h,Int.mul_zero]
 have EO:y=0->B * y=0:=λ h=>by rw [h,Int.mul_zero]
 rw [Int.mul_neg] at U6 U7
 omega
theorem Me (hr:E2 p K n) {i:Nat} {s e:Int×Int} (h1:(i:Int)+1 <n) (hs:Hf p n i s.1 s.2) (he:FQ e i) (e0:0<=e.1) (e3:e.2 <n) (hx:FO p K e i=FO p K s i)
 (ho:∀m,0<=m->m <n->EP (p e.1) (p e.2) (p m)=0-> ¬(e.1 <m/\m <e.2)):E6 p n e:=by
 obtain ⟨a1,a2⟩:=he
 have b1:=hs.al;have b2:=hs.uv;have b0:=hs.lo;have b3:=hs.hi
 have z:=IV hr h1 b0 (by omega) b3 e0 a1 a2 e3 hx (.inl ⟨hs.left e.1 e0 (by omega),hs.left e.2 (by omega) e3⟩)
 have q1:=Lw hr hs e0 a1 z.1
 have z2:EP (p e.1) (p s.2) (p e.2)=0:=by
  have Hv:(ER K (p s.2) - ER K (p s.1)) * EP (p e.1) (p s.2) (p e.2)=(ER K (p s.2) - ER K (p e.1)) * EP (p s.1) (p s.2) (p e.2) - (ER K (p s.2) - ER K (p e.2)) * EP (p s.1) (p s.2) (p e.1):=by simp only [EP,ER];grind
  rw [z.1,z.2,Int.mul_zero,Int.mul_zero,Int.sub_zero] at Hv
  have:=hr s.1 s.2 b0 (by omega) b3
  rcases Int.mul_eq_zero.1 Hv with g|g
  ·omega
  ·exact g
 have q2:=K2 hr q1 a2 e3 z2
 exact ⟨e0,by omega,by omega,e3,q2.left,λ m m0 m1 z=>⟨ho m m0 m1 z,by omega⟩⟩
theorem NT (hr:E2 p K n) {i:Nat} {u w:Int×Int} (DE:FQ u i) (tw:FQ w i) (u0:0<=u.1) (u3:u.2 <n) (w0:0<=w.1) (w3:w.2 <n)
 (z:EP (p u.1) (p u.2) (p w.1)=0/\EP (p u.1) (p u.2) (p w.2)=0) (Ej:∀m,0<=m->m <n->EP (p u.1) (p u.2) (p m)=0-> ¬(u.1 <m/\m <u.2)) (Ek:∀m,0<=m->m <n->EP (p w.1) (p w.2) (p m)=0-> ¬(w.1 <m/\m <w.2)):u=w:=by
 obtain ⟨a1,a2⟩:=DE
 obtain ⟨b1,b2⟩:=tw
 have Hv:(ER K (p u.2) - ER K (p u.1)) * EP (p w.1) (p w.2) (p u.1)=(ER K (p u.1) - ER K (p w.2)) * EP (p u.1) (p u.2) (p w.1)+(ER K (p w.1) - ER K (p u.1)) * EP (p u.1) (p u.2) (p w.2):=by simp only [EP,ER];grind
 have Nt:(ER K (p u.2) - ER K (p u.1)) * EP (p w.1) (p w.2) (p u.2)=(ER K (p u.2) - ER K (p w.2)) * EP (p u.1) (p u.2) (p w.1)+(ER K (p w.1) - ER K (p u.2)) * EP (p u.1) (p u.2) (p w.2):=by simp only [EP,ER];grind
 rw [z.1,z.2,Int.mul_zero,Int.mul_zero,Int.add_zero] at Hv Nt
 have hu:=hr u.1 u.2 u0 (by omega) u3
 have z1:EP (p w.1) (p w.2) (p u.1)=0:=by
  rcases Int.mul_eq_zero.1 Hv with g|g
  ·omega
  ·exact g
 have z2:EP (p w.1) (p w.2) (p u.2)=0:=by
  rcases Int.mul_eq_zero.1 Nt with g|g
  ·omega
  ·exact g
 have n1:=Ej w.1 w0 (by omega) z.1
 have n2:=Ej w.2 (by omega) w3 z.2
 have n3:=Ek u.1 u0 (by omega) z1
 have n4:=Ek u.2 (by omega) u3 z2
 exact Prod.ext (by omega) (by omega)
theorem HG.same (h:HG p K n cs M) (hc:c∈cs) (hd:d∈cs) {i:Nat} (h1:(i:Int)+1 <n) (ac:HU c i) (ad:HU d i) (hx:FO p K (JS c i) i=FO p K (Jp d i) i):JS c i=Jp d i:=by
 have kc:=h.cell c hc
 have kd:=h.cell d hd
 have lc:=J1 h.Fg kc h1 ac
 have ld:=J1 h.Fg kd h1 ad
 have Bl:=Kz kc ac;have dc:=Kf kc ac
 have DR:=Kz kd ad;have dd:=Kf kd ad
 have hne:c≠d:=λ z=>by subst z;have:=lc.2.2;rw [hx] at this;grind
 generalize JS c i=u at *
 generalize Jp d i=w at *
 have yt:=Fz Bl.1;have Nc:=Fz dc.1
 have OI:=Fz DR.1;have vr:=Fz dd.1
 have u1:=kc.Fv yt.1;have u2:=kc.Fv yt.2
 have v1:=kc.Fv Nc.1;have v2:=kc.Fv Nc.2
 have w2:=kd.Fv vr.1;have w1:=kd.Fv vr.2
 have y1:=kd.Fv OI.1;have y2:=kd.Fv OI.2
 simp only at w1 w2 v1 v2 vr Nc
 have fin:(EP (p u.1) (p u.2) (p w.1)=0/\EP (p u.1) (p u.2) (p w.2)=0)->u=w:=λ z=>
  NT h.Fg Bl.2 dd.2 u1.1 u2.2 w1.1 w2.2 z (λ m m0 m1 z=>(h.IU hc Bl.1 m0 m1 z).1) (λ m m0 m1 z=>by
   have:=(h.IU hd dd.1 m0 m1 (by rw [GJ,z];rfl)).2
   exact this)
 have nz:∀{c:ET} {f:Int×Int},FX p n c->f∈EU c->f.1≠f.2:=λ {c f} k hf z=>by
  obtain ⟨x,x1,x2,e9,k5⟩:=GV (p:=p) hf k.FY
  rw [z] at e9
  have:EP (p f.2) (p f.2) (p x)=0:=by simp only [EP];grind
  omega
 have wo:=λ (f:Int×Int) r=>GJ (p f.1) (p f.2) (p r)
 have own:∀{c:ET} {f g:Int×Int},FX p n c->f∈EU c->Fc c g.1->Fc c g.2->g.1≠g.2->EP (p f.1) (p f.2) (p g.1)=0->EP (p f.1) (p f.2) (p g.2)=0->g=f\/g=(f.2,f.1):=λ {c f g} k hf g1 g2 EH z1 z2=>by
  obtain ⟨x,x1,x2,e9,k5⟩:=GV (p:=p) hf k.FY
  have e1:=(x2 g.1).1 g1
  have e2:=(x2 g.2).1 g2
  have n1:g.1≠x:=λ q=>by rw [q] at z1;omega
  have n2:g.2≠x:=λ q=>by rw [q] at z2;omega
  rcases e1 with e1|e1|e1<;>rcases e2 with e2|e2|e2
  ·omega
  ·exact .inl (Prod.ext e1 e2)
  ·exact absurd e2 n2
  ·exact .inr (Prod.ext e1 e2)
  ·omega
  ·exact absurd e2 n2
  ·exact absurd e1 n1
  ·exact absurd e1 n1
  ·exact absurd e1 n1
 rcases h.apart c hc d hd hne with ⟨f,hf,k1,k2,k3⟩|⟨f,hf,k1,k2,k3⟩
 ·have k:∀r,Fc d r->EP (p f.1) (p f.2) (p r)<=0:=λ r hr=>by
   rcases hr with rfl|rfl|rfl
   ·exact k1
   ·exact k2
   ·exact k3
  have cf:=Fz hf
  have f1:=kc.Fv cf.1;have f2:=kc.Fv cf.2
  rcases Int.lt_or_gt_of_ne (nz kc hf) with g|g
  ·have a:=KA h.Fg h1 f1.1 g f2.2 u1.1 Bl.2.1 Bl.2.2 u2.2 (F2 kc hf yt.1) (F2 kc hf yt.2)
   have b:=Mw h.Fg h1 f1.1 g f2.2 w1.1 dd.2.1 dd.2.2 w2.2 (k _ vr.2) (k _ vr.1)
   have e1:FO p K u i=FO p K f i:=by grind
   have e2:FO p K w i=FO p K f i:=by grind
   have s1:=IV h.Fg h1 f1.1 g f2.2 u1.1 Bl.2.1 Bl.2.2 u2.2 e1 (.inl ⟨F2 kc hf yt.1,F2 kc hf yt.2⟩)
   have s2:=IV h.Fg h1 f1.1 g f2.2 w1.1 dd.2.1 dd.2.2 w2.2 e2 (.inr ⟨k _ vr.2,k _ vr.1⟩)
   have hu:u=f:=by
    rcases own kc hf yt.1 yt.2 (by have:=Bl.2.1;have:=Bl.2.2;omega) s1.1 s1.2 with q|q
    ·exact q
    ·have:=Bl.2.1;have:=Bl.2.2;rw [q] at *; simp only at *; omega
   subst hu
   exact fin s2
  ·exfalso
   have a:=KA h.Fg (e:=(f.2,f.1)) h1 f2.1 g f1.2 y1.1 DR.2.1 DR.2.2 y2.2 (by have:=k _ OI.1;have:=wo f (JS d i).1;simp only;omega) (by have:=k _ OI.2;have:=wo f (JS d i).2;simp only;omega)
   have b:=Mw h.Fg (e:=(f.2,f.1)) h1 f2.1 g f1.2 v2.1 dc.2.1 dc.2.2 v1.2 (by have:=F2 kc hf Nc.2;have:=wo f (Jp c i).1;simp only;omega) (by have:=F2 kc hf Nc.1;have:=wo f (Jp c i).2;simp only;omega)
   have:=lc.2.2
   have:=ld.2.2
   grind
 ·have k:∀r,Fc c r->EP (p f.1) (p f.2) (p r)<=0:=λ r hr=>by
   rcases hr with rfl|rfl|rfl
   ·exact k1
   ·exact k2
   ·exact k3
  have cf:=Fz hf
  have f1:=kd.Fv cf.1;have f2:=kd.Fv cf.2
  rcases Int.lt_or_gt_of_ne (nz kd hf) with g|g
  ·exfalso
   have a:=KA h.Fg h1 f1.1 g f2.2 y1.1 DR.2.1 DR.2.2 y2.2 (F2 kd hf OI.1) (F2 kd hf OI.2)
   have b:=Mw h.Fg h1 f1.1 g f2.2 v2.1 dc.2.1 dc.2.2 v1.2 (k _ Nc.2) (k _ Nc.1)
   have:=lc.2.2
   have:=ld.2.2
   grind
  ·have c1:=k _ yt.1
   have c2:=k _ yt.2
   have c3:=F2 kd hf vr.2
   have c4:=F2 kd hf vr.1
   have t1:=wo f u.1
   have t2:=wo f u.2
   have t3:=wo f w.1
   have t4:=wo f w.2
   have a:=KA h.Fg (e:=(f.2,f.1)) h1 f2.1 g f1.2 u1.1 Bl.2.1 Bl.2.2 u2.2 (by simp only;omega) (by simp only;omega)
   have b:=Mw h.Fg (e:=(f.2,f.1)) h1 f2.1 g f1.2 w1.1 dd.2.1 dd.2.2 w2.2 (by simp only at *; omega) (by simp only at *; omega)
   have e1:FO p K u i=FO p K (f.2,f.1) i:=by grind
   have e2:FO p K w i=FO p K (f.2,f.1) i:=by grind
   have s1:=IV h.Fg (e:=(f.2,f.1)) h1 f2.1 g f1.2 u1.1 Bl.2.1 Bl.2.2 u2.2 e1 (.inl ⟨by simp only;omega,by simp only;omega⟩)
   have s2:=IV h.Fg (e:=(f.2,f.1)) h1 f2.1 g f1.2 w1.1 dd.2.1 dd.2.2 w2.2 e2 (.inr ⟨by simp only at *; omega,by simp only at *; omega⟩)
   simp only at s1 s2
   have hw:w=(f.2,f.1):=by
    rcases own kd hf vr.2 vr.1 (by have:=dd.2.1;have:=dd.2.2;omega) (by omega) (by omega) with q|q
    ·have:=dd.2.1;have:=dd.2.2;rw [q] at *; omega
    ·exact q
   rw [<-show w.1=f.2 by rw [hw], <-show w.2=f.1 by rw [hw]] at s1
   refine (NT h.Fg dd.2 Bl.2 w1.1 w2.2 u1.1 u2.2 s1 (λ m m0 m1 z=>by
    have:=(h.IU hd dd.1 m0 m1 (by rw [GJ,z];rfl)).2
    exact this) (λ m m0 m1 z=>(h.IU hc Bl.1 m0 m1 z).1)).symm
end
end Go.Proofs.YtollcjadobpfdaaGreat.Rw
namespace Go.Proofs.YtollcjadobpfdaaGreat.Rw
theorem O1 {f g:Nat->Rat}:∀{N},(∀i,i <N->f i<=g i)->FR f N<=FR g N
 | 0,_=>by simp only [FR];grind
 |N+1,h=>by
  have:=O1 (N:=N) λ i hi=>h i (by omega)
  have:=h N (by omega)
  simp only [FR];grind
theorem Oc {f g:Nat->Rat}:∀{N},(∀i,i <N->f i<=g i)->FR f N=FR g N->∀i,i <N->f i=g i
 |N+1,h,e,i,hi=>by
  have h1:=O1 (N:=N) λ i hi=>h i (by omega)
  have h2:=h N (by omega)
  simp only [FR] at e
  rcases Nat.lt_or_ge i N with g|g
  ·exact Oc (N:=N) (λ i hi=>h i (by omega)) (by grind) i g
  ·have:i=N:=by omega
   subst this
   grind
theorem MV {α:Type} (f:α->Int):∀l:List α,(FB f l:Rat)=FE (λ x=>(f x:Rat)) l
 | []=>rfl
 |x::l=>by simp only [FB,FE,Rat.intCast_add,MV f l]
open Classical in
theorem Ms {α:Type} (q:α->Prop) (f:α->Rat):∀l:List α,FE (λ x=>if q x then f x else 0) l=FE f (l.filter λ x=>decide (q x))
 | []=>rfl
 |x::l=>by
  by_cases h:q x
  ·simp [h,FE,Ms q f l]
  ·simp [h,FE,Ms q f l];grind
theorem Lt {α:Type} (a:Rat) (f:α->Rat):∀l:List α,FE (λ x=>a * f x) l=a * FE f l
 | []=>by simp only [FE];grind
 |x::l=>by simp only [FE,Lt a f l];grind
section
variable {p:Int->Int×Int} {K n:Int} {c d:ET} {cs:List ET} {M:List (Int×Int)}
def GF (p:Int->Int×Int) (K:Int) (i:Nat) (c:ET):Rat×Rat:=(FO p K (Jp c i) i,FO p K (JS c i) i)
open Classical in
theorem HG.spans (h:HG p K n cs M) {i:Nat} (h1:(i:Int)+1 <n) {R L:Int×Int} (hR:G7 p n i R) (hL:G7 (FP K p) n i L):
 ((cs.filter λ c=>decide (HU c i)).map (GF p K i)).Pairwise Iv/\(∀x∈(cs.filter λ c=>decide (HU c i)).map (GF p K i),FO p K L i<=x.1/\x.1 <x.2/\x.2<=FO p K R i):=by
 constructor
 ·rw [List.pairwise_map]
  refine List.Pairwise.imp_of_mem ?_ (h.HM.filter _)
  intro a b ha hb hne
  rw [List.mem_filter,decide_eq_true_eq] at ha hb
  have ka:=h.cell a ha.1;have kb:=h.cell b hb.1
  have ua:=Kz ka ha.2;have da:=Kf ka ha.2
  have ub:=Kz kb hb.2;have db:=Kf kb hb.2
  have c1:=Fz ua.1;have c2:=Fz da.1;have c3:=Fz ub.1;have c4:=Fz db.1
  unfold Iv GF
  rcases h.apart a ha.1 b hb.1 hne with g|g
  ·exact KW h.Fg ka kb h1 g c1 ⟨c2.2,c2.1⟩ c3 ⟨c4.2,c4.1⟩ ua.2 da.2 ub.2 db.2
  ·exact (KW h.Fg kb ka h1 g c3 ⟨c4.2,c4.1⟩ c1 ⟨c2.2,c2.1⟩ ub.2 db.2 ua.2 da.2).symm
 ·intro x hx
  obtain ⟨a,ha,rfl⟩:=List.mem_map.1 hx
  rw [List.mem_filter,decide_eq_true_eq] at ha
  have ka:=h.cell a ha.1
  have ua:=Kz ka ha.2;have da:=Kf ka ha.2
  have la:=J1 h.Fg ka h1 ha.2
  have c1:=Fz ua.1;have c2:=Fz da.1
  have u1:=ka.Fv c1.1;have u2:=ka.Fv c1.2;have w2:=ka.Fv c2.1;have w1:=ka.Fv c2.2
  simp only at w1 w2
  obtain ⟨Dt, -⟩:=hR
  obtain ⟨AV, -⟩:=hL
  have r1:=Dt.lo;have r2:=Dt.al;have r3:=Dt.uv;have r4:=Dt.hi
  have l1:=AV.lo;have l2:=AV.al;have l3:=AV.uv;have l4:=AV.hi
  have k1:=KA h.Fg h1 r1 (by omega) r4 u1.1 ua.2.1 ua.2.2 u2.2 (Dt.left _ u1.1 u1.2) (Dt.left _ u2.1 u2.2)
  have k2:=KA (Ga h.Fg) h1 l1 (by omega) l4 w1.1 da.2.1 da.2.2 w2.2 (AV.left _ w1.1 w1.2) (AV.left _ w2.1 w2.2)
  rw [KJ (Hx h.Fg l1 (by omega) l4),KJ (Hx h.Fg w1.1 (by have:=da.2.1;have:=da.2.2;omega) w2.2)] at k2
  unfold GF
  exact ⟨by simp only;grind,la.2.2,k1⟩
open Classical in
theorem HG.Ts (h:HG p K n cs M) {N:Nat} (hN:(N:Int)+1=n) (R L:Nat->Int×Int) (hR:∀i,i <N->G7 p n i (R i)) (hL:∀i,i <N->G7 (FP K p) n i (L i)):
 ∀i,i <N->FE Im ((cs.filter λ c=>decide (HU c i)).map (GF p K i))=FO p K (R i) i - FO p K (L i) i:=by
 have hh:=Re h.Fg hN h.Uz h.Uy R L hR hL
 have hc:(FB (λ c=>EP (p c.1) (p c.2.1) (p c.2.2)) cs:Rat)=FR (λ i=>Hi p K i * (2 * FE Im ((cs.filter λ c=>decide (HU c i)).map (GF p K i)))) N:=by
  rw [MV,H9 (λ c hc=>QT h.Fg (h.cell c hc) hN),Kw]
  refine Gx λ i hi=> ?_
  rw [Ms (λ c=>HU c i),Ku, <-Lt, <-Lt]
  refine H9 λ c _=> ?_
  unfold Im GF
  rfl
 rw [h.QJ,hh] at hc
 have le:∀i,i <N->FE Im ((cs.filter λ c=>decide (HU c i)).map (GF p K i))<=FO p K (R i) i - FO p K (L i) i:=λ i hi=>by
  have s:=h.spans (i:=i) (by omega) (hR i hi) (hL i hi)
  refine J5 _ (Nat.le_refl _) ?_ s.1 s.2
  obtain ⟨Dt, -⟩:=hR i hi
  obtain ⟨AV, -⟩:=hL i hi
  have r1:=Dt.lo;have r2:=Dt.al;have r3:=Dt.uv;have r4:=Dt.hi
  have l1:=AV.lo;have l2:=AV.al;have l3:=AV.uv;have l4:=AV.hi
  exact KA h.Fg (by omega) r1 (by omega) r4 l1 l2 l3 l4 (Dt.left _ l1 (by omega)) (Dt.left _ (by omega) l4)
 intro i hi
 have key:=Oc (f:=λ i=>Hi p K i * (2 * FE Im ((cs.filter λ c=>decide (HU c i)).map (GF p K i)))) (g:=λ i=>Hi p K i * (2 * (FO p K (R i) i - FO p K (L i) i))) (N:=N) (λ i hi=> ?_) hc.symm i hi
 ·have g:=ON h.Fg (i:=i) (by omega)
  have cut:∀{a x y:Rat},0 <a->a * (2 * x)=a * (2 * y)->x=y:=λ {a x y} h1 h2=>by
   have:a≠0:=by grind
   grind
  exact cut g key
 ·have g:=ON h.Fg (i:=i) (by omega)
  have l:=le i hi
  have:=Rat.mul_le_mul_of_nonneg_left l (Rat.le_of_lt g)
  grind
open Classical in
theorem HG.outer (h:HG p K n cs M) {e:Int×Int} (he:e∈EX cs):E6 p n e\/(e.2,e.1)∈EX cs:=by
 obtain ⟨c,hc,Lh⟩:=List.mem_flatMap.1 he
 have kc:=h.cell c hc
 have ce:=Fz Lh
 have e1:=kc.Fv ce.1;have e2:=kc.Fv ce.2
 have hne:e.1≠e.2:=λ z=>by
  obtain ⟨x,x1,x2,e9,k5⟩:=GV (p:=p) Lh kc.FY
  rw [z] at e9
  have:EP (p e.2) (p e.2) (p x)=0:=by simp only [EP];grind
  omega
 have hN:(((n - 1).toNat:Nat):Int)+1=n:=by omega
 let R:Nat->Int×Int:=λ i=>Classical.epsilon λ e=>G7 p n i e
 let L:Nat->Int×Int:=λ i=>Classical.epsilon λ e=>G7 (FP K p) n i e
 have hR:∀i,i <(n - 1).toNat->G7 p n i (R i):=λ i hi=>Classical.epsilon_spec (p:=λ e=>G7 p n i e) (OR h.Fg (by omega))
 have hL:∀i,i <(n - 1).toNat->G7 (FP K p) n i (L i):=λ i hi=>Classical.epsilon_spec (p:=λ e=>G7 (FP K p) n i e) (OR (Ga h.Fg) (by omega))
 have fl:=h.Ts hN R L hR hL
 have A4:=λ m m0 m1=>h.IU hc Lh (m:=m) m0 m1
 rcases Int.lt_or_gt_of_ne hne with g|g
 ·have hi:e.1.toNat <(n - 1).toNat:=by omega
  have t:FQ e e.1.toNat:=⟨by omega,by omega⟩
  have ac:=R5 (i:=e.1.toNat) kc ce.1 ce.2 (by omega) (by omega)
  have DS:=(J1 h.Fg kc (by omega) ac).1 e Lh t
  generalize e.1.toNat=i at *
  have s:=h.spans (i:=i) (by omega) (hR i hi) (hL i hi)
  have mem:GF p K i c∈(cs.filter λ c=>decide (HU c i)).map (GF p K i):=List.mem_map.2 ⟨c,List.mem_filter.2 ⟨hc,decide_eq_true ac⟩,rfl⟩
  have b:=(s.2 _ mem).2.2
  by_cases q:(GF p K i c).2 <FO p K (R i) i
  ·right
   obtain ⟨y,hy,S4⟩:=MP s.1 s.2 (fl i hi) mem q
   obtain ⟨d,hd,rfl⟩:=List.mem_map.1 hy
   rw [List.mem_filter,decide_eq_true_eq] at hd
   have sm:=h.same hc hd.1 (by omega) ac hd.2 (show (GF p K i c).2=(GF p K i d).1 from S4.symm)
   rw [DS,sm]
   exact List.mem_flatMap.2 ⟨d,hd.1,(Kf (h.cell d hd.1) hd.2).1⟩
  ·left
   have hx:FO p K e i=FO p K (R i) i:=by
    rw [DS]
    unfold GF at b q
    simp only at b q
    grind
   exact Me h.Fg (by omega) (hR i hi).1 t e1.1 e2.2 hx λ m m0 m1 z=>(A4 m m0 m1 z).1
 ·have hi:e.2.toNat <(n - 1).toNat:=by omega
  have t:FQ (e.2,e.1) e.2.toNat:=⟨by simp only;omega,by simp only;omega⟩
  have ac:=R5 (i:=e.2.toNat) kc ce.2 ce.1 (by omega) (by omega)
  have DS:=(J1 h.Fg kc (by omega) ac).2.1 (e.2,e.1) Lh t
  generalize e.2.toNat=i at *
  have s:=h.spans (i:=i) (by omega) (hR i hi) (hL i hi)
  have mem:GF p K i c∈(cs.filter λ c=>decide (HU c i)).map (GF p K i):=List.mem_map.2 ⟨c,List.mem_filter.2 ⟨hc,decide_eq_true ac⟩,rfl⟩
  have b:=(s.2 _ mem).1
  by_cases q:FO p K (L i) i <(GF p K i c).1
  ·right
   let fl':Rat×Rat->Rat×Rat:=λ x=>(- x.2, - x.1)
   have s1:(((cs.filter λ c=>decide (HU c i)).map (GF p K i)).map fl').Pairwise Iv:=by
    rw [List.pairwise_map]
    refine s.1.imp λ {a b} hab=> ?_
    simp only [Iv,fl'] at hab ⊢
    grind
   have s2:∀x∈((cs.filter λ c=>decide (HU c i)).map (GF p K i)).map fl', - FO p K (R i) i<=x.1/\x.1 <x.2/\x.2<= - FO p K (L i) i:=λ x hx=>by
    obtain ⟨y,hy,rfl⟩:=List.mem_map.1 hx
    have:=s.2 y hy
    simp only [fl']
    grind
   have s3:FE Im (((cs.filter λ c=>decide (HU c i)).map (GF p K i)).map fl')= - FO p K (L i) i - - FO p K (R i) i:=by
    have f:=fl i hi
    rw [Ku,H9 (g:=Im) λ x _=>by simp only [Im,fl'];grind,f]
    grind
   obtain ⟨y,hy,S4⟩:=MP s1 s2 s3 (List.mem_map.2 ⟨_,mem,rfl⟩) (by simp only [fl'];grind)
   obtain ⟨y',hy',rfl⟩:=List.mem_map.1 hy
   obtain ⟨d,hd,rfl⟩:=List.mem_map.1 hy'
   rw [List.mem_filter,decide_eq_true_eq] at hd
   have sm:=h.same hd.1 hc (by omega) hd.2 ac (show (GF p K i d).2=(GF p K i c).1 by simp only [fl'] at S4;grind)
   rw [DS, <-sm]
   exact List.mem_flatMap.2 ⟨d,hd.1,(Kz (h.cell d hd.1) hd.2).1⟩
  ·left
   have AV:=(hL i hi).1
   have hx:FO (FP K p) K (e.2,e.1) i=FO (FP K p) K (L i) i:=by
    rw [KJ (Hx h.Fg e2.1 g e1.2),KJ (Hx h.Fg AV.lo (by have:=AV.al;have:=AV.uv;omega) AV.hi),DS]
    unfold GF at b q
    simp only at b q
    grind
   have o:=Me (Ga h.Fg) (by omega) AV t e2.1 e1.2 hx λ m m0 m1 z=>by
    rw [Gc] at z
    exact (A4 m m0 m1 z).2
   rw [F0] at o
   exact o
theorem HG.Tw (h:HG p K n cs M):Fm p K n cs:=
 ⟨h.kpos,h.Fg,h.cell,Le h.HM h.cell h.apart,λ e he=>⟨h.Sz,λ hn=>(h.outer he).resolve_right hn⟩,λ i i0 i1=>by
   obtain ⟨c,hc,q⟩:=h.used i i0 i1
   exact ⟨c,hc,q⟩⟩
end
end Go.Proofs.YtollcjadobpfdaaGreat.Rw
namespace Go.Proofs.YtollcjadobpfdaaGreat.Rw
section
variable {p:Int->Int×Int} {K n:Int}
def Gu (p:Int->Int×Int) (k:Int):List Int->Prop
 | []=>False
 | [x]=>x=0
 |t::a::s=>a <t/\E6 p k (a,t)/\Gu p k (a::s)
def Hr (p:Int->Int×Int) (k:Int):List Int->List Int
 |t::a::s=>if EP (p a) (p t) (p k) <0 then Hr p k (a::s) else t::a::s
 |s=>s
theorem L8 {a q b:Int} (h1:0 <a) (h2:a * q=b) (h3:0 <b):0 <q:=by
 rcases Int.lt_or_le 0 q with g|g
 ·exact g
 ·have:=Int.mul_nonneg (Int.le_of_lt h1) (show 0<= -q by omega);rw [Int.mul_neg] at this;omega
theorem MO {a q b:Int} (h1:0 <a) (h2:a * q=b) (h3:0<=b):0<=q:=by
 rcases Int.lt_or_le q 0 with g|g
 ·have:=Int.mul_pos h1 (show 0 < -q by omega);rw [Int.mul_neg] at this;omega
 ·exact g
theorem Gu.lo {k:Int}:∀{s:List Int} {t:Int},Gu p k (t::s)->0<=t
 | [],t,h=>by simp only [Gu] at h;omega
 |a::s,t,h=>by have:=h.1;have:=Gu.lo h.2.2;omega
theorem Qk (hr:E2 p K n) {k:Int} (hk:k <n):∀{s:List Int} {t:Int},Gu p k (t::s)->t <k->(∀m,t <m->m <k->0 <EP (p t) (p k) (p m))->
 ∃t' s',Hr p k (t::s)=t'::s'/\Gu p k (t'::s')/\t' <k/\(∀m,t' <m->m <k->0 <EP (p t') (p k) (p m))/\(∀a r,s'=a::r->0<=EP (p a) (p t') (p k))
 | [],t,h,ht,hm=>⟨t,[],rfl,h,ht,hm,λ a r h=>by cases h⟩
 |a::s,t,h,ht,hm=>by
  have t0:=Gu.lo h
  obtain ⟨fN,ho,hs⟩:=h
  have a0:=Gu.lo hs
  simp only [Hr]
  by_cases c:EP (p a) (p t) (p k) <0
  ·rw [if_pos c]
   refine Qk hr hk hs (by omega) λ m m1 m2=> ?_
   have cs:EP (p a) (p k) (p t)= - EP (p a) (p t) (p k):=by simp only [EP];grind
   have D0:0 <EP (p a) (p k) (p t):=by omega
   have rk:=hr a k a0 (by omega) hk
   have rm:=hr a m a0 m1 (by omega)
   have rt:=hr a t a0 fN (by omega)
   rcases Int.lt_or_le m t with g|g
   ·have h1:=ho.left m (by omega) (by omega)
    have h2:=ho.none m (by omega) (by omega)
    simp only at h1 h2
    have h3:0 <EP (p a) (p t) (p m):=by
     rcases Int.lt_or_eq_of_le h1 with q|q
     ·exact q
     ·exact absurd ⟨m1,g⟩ (h2 q.symm).1
    have Hv:(ER K (p t) - ER K (p a)) * EP (p a) (p k) (p m)=(ER K (p k) - ER K (p a)) * EP (p a) (p t) (p m)+(ER K (p m) - ER K (p a)) * EP (p a) (p k) (p t):=by simp only [EP,ER];grind
    have m1:=Int.mul_pos (show 0 <ER K (p k) - ER K (p a) by omega) h3
    have m2:=Int.mul_pos (show 0 <ER K (p m) - ER K (p a) by omega) D0
    exact L8 (show 0 <ER K (p t) - ER K (p a) by omega) Hv (by omega)
   ·rcases Int.lt_or_eq_of_le g with g|g
    ·have h1:=hm m g m2
     have VK:=hr t k t0 ht hk
     have VJ:=hr m k (by omega) m2 hk
     have Hv:(ER K (p k) - ER K (p t)) * EP (p a) (p k) (p m)=(ER K (p k) - ER K (p a)) * EP (p t) (p k) (p m)+(ER K (p k) - ER K (p m)) * EP (p a) (p k) (p t):=by simp only [EP,ER];grind
     have m1:=Int.mul_pos (show 0 <ER K (p k) - ER K (p a) by omega) h1
     have m2:=Int.mul_pos (show 0 <ER K (p k) - ER K (p m) by omega) D0
     exact L8 (show 0 <ER K (p k) - ER K (p t) by omega) Hv (by omega)
    ·subst g;exact D0
  ·rw [if_neg c]
   exact ⟨t,a::s,rfl,⟨fN,ho,hs⟩,ht,hm,λ a' r' e=>by cases e;omega⟩
theorem Ls (hr:E2 p K n) {k:Int} (hk:k <n):∀{s:List Int} {t a:Int},Gu p k (t::a::s)->t <k->0<=EP (p a) (p t) (p k)->Gu p (k+1) (t::a::s)
 |s,t,a,h,ht,hc=>by
  have t0:=Gu.lo h
  obtain ⟨fN,ho,hs⟩:=h
  have a0:=Gu.lo hs
  have ho':E6 p (k+1) (a,t):=⟨ho.l1,ho.l2,by have:=ho.u1;omega,by have:=ho.u2;omega,λ m m0 m1=>by
   rcases Int.lt_or_eq_of_le (show m<=k by omega) with g|g
   ·exact ho.left m m0 g
   ·subst g;exact hc,λ m m0 m1 z=>by
   rcases Int.lt_or_eq_of_le (show m<=k by omega) with g|g
   ·exact ho.none m m0 g z
   ·subst g;simp only;omega⟩
  cases s with
  |nil=>exact ⟨fN,ho',hs⟩
  |cons b s=>
   refine ⟨fN,ho',Ls hr hk hs (by omega) ?_⟩
   have b0:=Gu.lo hs.2.2
   have hba:=hs.1
   have h1:=hs.2.1.left t t0 (by omega)
   simp only at h1
   have r1:=hr b a b0 hba (by omega)
   have r2:=hr a t a0 fN (by omega)
   have r3:=hr a k a0 (by omega) hk
   have Hv:(ER K (p t) - ER K (p a)) * EP (p b) (p a) (p k)=(ER K (p a) - ER K (p b)) * EP (p a) (p t) (p k)+(ER K (p k) - ER K (p a)) * EP (p b) (p a) (p t):=by simp only [EP,ER];grind
   have m1:=Int.mul_nonneg (show 0<=ER K (p a) - ER K (p b) by omega) hc
   have m2:=Int.mul_nonneg (show 0<=ER K (p k) - ER K (p a) by omega) h1
   exact MO (show 0 <ER K (p t) - ER K (p a) by omega) Hv (by omega)
theorem JE (hr:E2 p K n) {k:Int} (hk:k <n) {s:List Int} (h:Gu p k ((k - 1)::s)):Gu p (k+1) (k::Hr p k ((k - 1)::s)):=by
 obtain ⟨t,r,e,h1,h2,h3,h4⟩:=Qk hr hk h (by omega) λ m _ _=>by omega
 rw [e]
 have t0:=Gu.lo h1
 have rk:=hr t k t0 h2 hk
 have cs:=E3 (p t) (p k)
 cases r with
 |nil=>
  simp only [Gu] at h1
  subst h1
  refine ⟨h2,⟨by simp only;omega,by simp only;omega,by simp only;omega,by simp only;omega,λ m m0 m1=> ?_,λ m m0 m1 z=> ?_⟩,rfl⟩
  ·simp only
   rcases Int.lt_or_eq_of_le m0 with g|g
   ·rcases Int.lt_or_eq_of_le (show m<=k by omega) with g2|g2
    ·have:=h3 m g g2;omega
    ·subst g2;omega
   ·subst g;omega
  ·simp only at z ⊢
   refine ⟨λ q=> ?_,by omega⟩
   have:=h3 m q.1 q.2;omega
 |cons a r=>
  have hl:=h4 a r rfl
  refine ⟨h2,⟨by simp only;omega,by simp only;omega,by simp only;omega,by simp only;omega,λ m m0 m1=> ?_,λ m m0 m1 z=> ?_⟩,Ls hr hk h1 h2 hl⟩
  ·simp only
   rcases Int.lt_or_le t m with g|g
   ·rcases Int.lt_or_eq_of_le (show m<=k by omega) with g2|g2
    ·have:=h3 m g g2;omega
    ·subst g2;omega
   ·rcases Int.lt_or_eq_of_le g with g|g
    ·have hm:=h1.2.1.left m m0 (by omega)
     simp only at hm
     have a0:=Gu.lo h1.2.2
     have fN:=h1.1
     have r1:=hr a t a0 fN (by omega)
     have r2:=hr m t m0 g (by omega)
     have Hv:(ER K (p t) - ER K (p a)) * EP (p t) (p k) (p m)=(ER K (p k) - ER K (p t)) * EP (p a) (p t) (p m)+(ER K (p t) - ER K (p m)) * EP (p a) (p t) (p k):=by simp only [EP,ER];grind
     have m1:=Int.mul_nonneg (show 0<=ER K (p k) - ER K (p t) by omega) hm
     have m2:=Int.mul_nonneg (show 0<=ER K (p t) - ER K (p m) by omega) hl
     exact MO (show 0 <ER K (p t) - ER K (p a) by omega) Hv (by omega)
    ·subst g;omega
  ·simp only at z ⊢
   refine ⟨λ q=> ?_,by omega⟩
   have:=h3 m q.1 q.2;omega
def FF:List Int->List (Int×Int)
 |t::a::s=>(a,t)::FF (a::s)
 |_=>[]
theorem K7 {k:Int}:∀{s:List Int} {e:Int×Int},Gu p k s->e∈FF s->e.1 <e.2/\E6 p k e
 | [x],e,h,he=>by simp [FF] at he
 |t::a::s,e,h,he=>by
  simp only [FF,List.mem_cons] at he
  rcases he with rfl|he
  ·exact ⟨h.1,h.2.1⟩
  ·exact K7 h.2.2 he
theorem MS {k i:Int} (h0:0<=i):∀{s:List Int} {t:Int},Gu p k (t::s)->i <t->∃e∈FF (t::s),e.1<=i/\i <e.2
 | [],t,h,hi=>by simp only [Gu] at h;omega
 |a::s,t,h,hi=>by
  rcases Int.lt_or_le i a with g|g
  ·obtain ⟨e,h1,h2⟩:=MS h0 h.2.2 g
   exact ⟨e,List.mem_cons_of_mem _ h1,h2⟩
  ·exact ⟨(a,t),by simp [FF],g,hi⟩
theorem GM (hr:E2 p K n) {s:List Int} (h:Gu p n ((n - 1)::s)) {e:Int×Int}:e∈FF ((n - 1)::s)↔e.1 <e.2/\E6 p n e:=by
 constructor
 ·exact K7 h
 ·rintro ⟨h1,h2⟩
  obtain ⟨f,f1,f2,f3⟩:=MS h2.l1 h (by have:=h2.u2;omega)
  have DU:=K7 h f1
  have a1:=h2.l1;have a2:=h2.u2;have b1:=DU.2.l1;have b2:=DU.2.u2;have b3:=DU.1
  have hi:e.1+1 <n:=by omega
  have te:=(GC hr a1 hi a1 (by omega) (by omega) a2).2 ⟨Int.le_refl _,h1⟩
  have tf:=(GC hr a1 hi b1 (by omega) (by omega) b2).2 ⟨f2,f3⟩
  rw [KV hr (by simp [G0]) h2 te DU.2 tf]
  exact f1
end
end Go.Proofs.YtollcjadobpfdaaGreat.Rw
namespace Go.Proofs.YtollcjadobpfdaaGreat.Rw
def Mh (N:Nat):List (Int×Int):=(List.range N).flatMap λ (i:Nat)=>(List.range N).map λ (k:Nat)=>((i:Int),(k:Int))
theorem Na {N:Nat} {e:Int×Int}:e∈Mh N↔0<=e.1/\e.1 <N/\0<=e.2/\e.2 <N:=by
 unfold Mh
 rw [List.mem_flatMap]
 constructor
 ·rintro ⟨i,hi,h⟩
  obtain ⟨k,hk,rfl⟩:=List.mem_map.1 h
  rw [List.mem_range] at hi hk
  simp only
  omega
 ·rintro ⟨a,b,c,d⟩
  exact ⟨e.1.toNat,List.mem_range.2 (by omega),List.mem_map.2 ⟨e.2.toNat,List.mem_range.2 (by omega),Prod.ext (by simp only;omega) (by simp only;omega)⟩⟩
theorem J8 (N:Nat):(Mh N).Nodup:=by
 unfold Mh
 refine List.pairwise_flatMap.2 ⟨λ i _=> ?_, ?_⟩
 ·rw [List.pairwise_map]
  refine List.Pairwise.imp (R:=λ a b:Nat=>a≠b) (λ {a b} h=> ?_) List.nodup_range
  intro z
  refine h ?_
  simp only [Prod.mk.injEq] at z
  omega
 ·refine List.Pairwise.imp (R:=λ a b:Nat=>a≠b) (λ {a b} h=> ?_) List.nodup_range
  intro x hx y hy z
  refine h ?_
  subst z
  obtain ⟨k,_,rfl⟩:=List.mem_map.1 hx
  obtain ⟨k',_,e⟩:=List.mem_map.1 hy
  simp only [Prod.mk.injEq] at e
  omega
section
variable {p:Int->Int×Int} {K n:Int} {c d:ET} {cs:List ET} {M:List (Int×Int)}
open Classical in
noncomputable def NF (p:Int->Int×Int) (N:Nat):List (Int×Int):=(Mh N).filter λ e=>decide (Jn p N e/\e.1≠e.2)
open Classical in
noncomputable def Rs (p:Int->Int×Int) (N:Nat):List (Int×Int):=(Mh N).filter λ e=>decide (E6 p N e/\e.1≠e.2)
theorem NG {N:Nat} {e:Int×Int}:e∈NF p N↔Jn p N e/\e.1≠e.2:=by
 classical
 unfold NF
 rw [List.mem_filter,decide_eq_true_iff,Na]
 exact ⟨λ h=>h.2,λ h=>⟨⟨h.1.l1,h.1.u1,h.1.l2,h.1.u2⟩,h⟩⟩
theorem NU {N:Nat} {e:Int×Int}:e∈Rs p N↔E6 p N e/\e.1≠e.2:=by
 classical
 unfold Rs
 rw [List.mem_filter,decide_eq_true_iff,Na]
 exact ⟨λ h=>h.2,λ h=>⟨⟨h.1.l1,h.1.u1,h.1.l2,h.1.u2⟩,h⟩⟩
def LD (p:Int->Int×Int) (n:Int) (cs:List ET):Prop:=
 (EX cs).Nodup/\(∀e∈EX cs,E6 p n e↔(e.2,e.1)∉EX cs)/\∀i,0<=i->i <n->∃c∈cs,Fc c i
def PU (p:Int->Int×Int) (N:Nat) (cs:List ET):Prop:=
 (∀c∈cs,∀d∈cs,c≠d->GW p c d\/GW p d c)/\(∀c∈cs,∀r:Int,0<=r->r <N-> ¬Fc c r-> ¬∀e∈EU c,0<=EP (p e.1) (p e.2) (p r))/\(∀i:Int,0<=i->i <N->∃c∈cs,Fc c i)/\
 FB (λ c=>EP (p c.1) (p c.2.1) (p c.2.2)) cs=FB (Gh p) (NF p N)
theorem Qz {N:Nat} (hK:0 <K) (hr:E2 p K N) (hc:∀c∈cs,FX p N c) (hn:cs.Nodup) (hne:cs≠[]):LD p N cs↔PU p N cs:=by
 constructor
 ·rintro ⟨h1,h2,h3⟩
  have hV:Fm p K N cs:=⟨hK,hr,hc,h1,h2,h3⟩
  have DD:(Rs p N).Nodup:=(J8 N).filter _
  have Dx:(NF p N).Nodup:=(J8 N).filter _
  have h0:(1:Int)<=N:=by
   cases cs with
   |nil=>exact absurd rfl hne
   |cons c l=>have:=(hc c (by simp)).lo;have:=(hc c (by simp)).b;have:=(hc c (by simp)).sv;omega
  refine ⟨λ c h d h' hne=>hV.Qj h h' hne,λ c h r sk r1 hr'=>hV.empty h sk r1 hr',h3, ?_⟩
  rw [hV.QJ DD λ e=>NU]
  exact P4 hr h0 DD Dx (λ e=>NU) λ e=>NG
 ·rintro ⟨h1,h2,h3,h4⟩
  have oy:HG p K N cs (NF p N):=⟨hK,hr,hc,hn,h1,h2,h3,(J8 N).filter _,λ e=>NG,h4⟩
  have hV:=oy.Tw
  exact ⟨hV.HM,hV.I7,h3⟩
end
end Go.Proofs.YtollcjadobpfdaaGreat.Rw
namespace Go.Proofs.YtollcjadobpfdaaGreat.Rw
def EZ (l:List (Int×Int)) (i:Int):Int×Int:=l.getD i.toNat (0,0)
def FJ (q:Int×Int):Prop:= -1048576<=q.1/\q.1<=1048576/\ -1048576<=q.2/\q.2<=1048576
def I6 (x y:Int×Int):Prop:=x.1 <y.1\/x.1=y.1/\x.2 <y.2
def F8 (x y:ET):Prop:=x.1 <y.1\/x.1=y.1/\(x.2.1 <y.2.1\/x.2.1=y.2.1/\x.2.2 <y.2.2)
theorem G9 {l:List (Int×Int)} (h:∀q∈l,FJ q) (i:Int):FJ (EZ l i):=by
 unfold EZ
 rw [List.getD_eq_getElem?_getD]
 by_cases g:i.toNat <l.length
 ·rw [List.getElem?_eq_getElem g];exact h _ (List.getElem_mem g)
 ·rw [List.getElem?_eq_none (by omega)];simp [FJ]
theorem Mp {α:Type} {R:α->α->Prop} (DH:∀{a b c},R a b->R b c->R a c) (f:Int->α) {n:Int} (h:∀i,1<=i->i <n->R (f (i - 1)) (f i)):∀(d:Nat) (i:Int),0<=i->i+d+1 <n->R (f i) (f (i+d+1))
 | 0,i,h0,h1=>by
   have:=h (i+1) (by omega) (by omega)
   rw [show i+1 - 1=i by omega] at this
   simpa using this
 |d+1,i,h0,h1=>by
  have h1':i+(d:Int)+1+1 <n:=by omega
  have a:=Mp (R:=R) DH f h d i h0 (by omega)
  have b:=h (i+d+2) (by omega) (by omega)
  rw [show i+(d:Int)+2 - 1=i+d+1 by omega] at b
  have:=DH a b
  rw [show i+((d+1:Nat):Int)+1=i+d+2 by omega]
  exact this
theorem Qa {a b c:Int×Int} (h1:I6 a b) (h2:I6 b c):I6 a c:=by unfold I6 at *; omega
theorem Po {a b c:ET} (h1:F8 a b) (h2:F8 b c):F8 a c:=by unfold F8 at *; omega
def IK (l:List (Int×Int)):Prop:=∀i:Int,1<=i->i <l.length->I6 (EZ l (i - 1)) (EZ l i)
theorem PI {l:List (Int×Int)} (h:IK l) {i j:Int} (h0:0<=i) (h1:i <j) (h2:j <l.length):I6 (EZ l i) (EZ l j):=by
 have:=Mp (R:=I6) Qa (EZ l) (n:=l.length) h (j - i - 1).toNat i h0 (by omega)
 rwa [show i+((j - i - 1).toNat:Int)+1=j by omega] at this
theorem KZ {l:List (Int×Int)} (ho:∀q∈l,FJ q) (h:IK l):E2 (EZ l) 2097153 l.length:=λ i j h0 h1 h2=>by
 have a:=G9 ho i
 have b:=G9 ho j
 have c:=PI h h0 h1 h2
 unfold FJ at a b
 unfold I6 at c
 unfold ER
 omega
def FT (l:List ET) (i:Int):ET:=l.getD i.toNat (0,0,0)
def Mr (l:List ET):Prop:=∀i:Int,1<=i->i <l.length->F8 (FT l (i - 1)) (FT l i)
theorem MZ {l:List ET} (h:Mr l):l.Nodup:=by
 refine List.pairwise_iff_getElem.2 λ i j hi hj hij e=> ?_
 have:=Mp (R:=F8) Po (FT l) (n:=l.length) h (j - i - 1) i (by omega) (by omega)
 rw [show (i:Int)+((j - i - 1:Nat):Int)+1=(j:Int) by omega] at this
 unfold FT at this
 simp only [Int.toNat_natCast,List.getD_eq_getElem?_getD,List.getElem?_eq_getElem hi,List.getElem?_eq_getElem hj,Option.getD_some,e] at this
 unfold F8 at this
 omega
structure Jm (ps:List (Int×Int)) (cs:List ET):Prop where
 len:ps.length<=200
 SL:cs.length<=400
 ok:∀q∈ps,FJ q
 up:IK ps
 TR:Mr cs
 cell:∀c∈cs,FX (EZ ps) ps.length c
theorem Jm.iff {ps:List (Int×Int)} {cs:List ET} (h:Jm ps cs) (hne:cs≠[]):LD (EZ ps) ps.length cs↔PU (EZ ps) ps.length cs:=
 Qz (by decide) (KZ h.ok h.up) h.cell (MZ h.TR) hne
end Go.Proofs.YtollcjadobpfdaaGreat.Rw
namespace Go.Proofs.YtollcjadobpfdaaGreat.Rw
open Go.Rx
theorem IJ {A B x y:Int} (h1: -A<=x) (h2:x<=A) (h3: -B<=y) (h4:y<=B): -(A * B)<=x * y/\x * y<=A * B:=by
 have a:=Int.mul_nonneg (show 0<=A - x by omega) (show 0<=B - y by omega)
 have b:=Int.mul_nonneg (show 0<=A+x by omega) (show 0<=B+y by omega)
 have c:=Int.mul_nonneg (show 0<=A - x by omega) (show 0<=B+y by omega)
 have d:=Int.mul_nonneg (show 0<=A+x by omega) (show 0<=B - y by omega)
 have e1:(A - x) * (B - y)=A * B - A * y - x * B+x * y:=by grind
 have e2:(A+x) * (B+y)=A * B+A * y+x * B+x * y:=by grind
 have e3:(A - x) * (B+y)=A * B+A * y - x * B - x * y:=by grind
 have e4:(A+x) * (B - y)=A * B - A * y+x * B - x * y:=by grind
 omega
def sg (x:Int):Int:=if 0 <x then 1 else if x <0 then -1 else 0
theorem Qt {x:Int}:0 <sg x↔0 <x:=by
 unfold sg
 repeat' split
 all_goals omega
theorem Th {x:Int}:sg x <0↔x <0:=by
 unfold sg
 repeat' split
 all_goals omega
theorem RK (x:Int):sg x=1\/sg x= -1\/sg x=0:=by
 unfold sg
 repeat' split
 all_goals omega
theorem LI {a b c:Int×Int} (ha:FJ a) (hb:FJ b) (hc:FJ c): -8796093022208<=EP a b c/\EP a b c<=8796093022208:=by
 unfold FJ at *
 have h1:=IJ (A:=2097152) (B:=2097152) (x:=b.1 - a.1) (y:=c.2 - a.2) (by omega) (by omega) (by omega) (by omega)
 have h2:=IJ (A:=2097152) (B:=2097152) (x:=c.1 - a.1) (y:=b.2 - a.2) (by omega) (by omega) (by omega) (by omega)
 unfold EP
 omega
theorem PZ {a b c:Int×Int} (ha:FJ a) (hb:FJ b) (hc:FJ c):AJ (AJ (AJ (b.1 - a.1) * AJ (c.2 - a.2)) - AJ (AJ (c.1 - a.1) * AJ (b.2 - a.2)))=EP a b c:=by
 have hs:=LI ha hb hc
 unfold FJ at *
 have h1:=IJ (A:=2097152) (B:=2097152) (x:=b.1 - a.1) (y:=c.2 - a.2) (by omega) (by omega) (by omega) (by omega)
 have h2:=IJ (A:=2097152) (B:=2097152) (x:=c.1 - a.1) (y:=b.2 - a.2) (by omega) (by omega) (by omega) (by omega)
 rw [CV (n:=b.1 - a.1) (by omega) (by omega),CV (n:=c.2 - a.2) (by omega) (by omega),CV (n:=c.1 - a.1) (by omega) (by omega),CV (n:=b.2 - a.2) (by omega) (by omega)]
 rw [CV (n:=(b.1 - a.1) * (c.2 - a.2)) (by omega) (by omega),CV (n:=(c.1 - a.1) * (b.2 - a.2)) (by omega) (by omega)]
 unfold EP at *
 exact CV (by omega) (by omega)
theorem TO {k:Nat} {a b c:Int×Int} (ha:FJ a) (hb:FJ b) (hc:FJ c):f37 k a b c=some (sg (EP a b c),()):=by
 simp only [f37,f37.ES]
 rw [PZ ha hb hc]
 unfold sg
 split
 ·rfl
 ·split<;>rfl
theorem QZ {k:Nat} {a:Int×Int} (ha:FJ a):f100 k a=some (a,()):=by
 unfold FJ at ha
 simp only [f100,f100.ES,f147,f147.ES,Option.bind_some,Ca,B9]
 rw [CV (by omega) (by omega)]
 have e1:max (0 - 1048576) (min a.1 1048576)=a.1:=by omega
 have e2:max (0 - 1048576) (min a.2 1048576)=a.2:=by omega
 rw [e1,e2]
theorem QY (k:Nat) (a:Int×Int):∃b,f100 k a=some (b,())/\FJ b/\(a=b↔FJ a):=by
 refine ⟨(max (0 - 1048576) (min a.1 1048576),max (0 - 1048576) (min a.2 1048576)), ?_, ?_, ?_⟩
 ·simp only [f100,f100.ES,f147,f147.ES,Option.bind_some,Ca,B9]
  rw [CV (by omega) (by omega)]
 ·unfold FJ;simp only;omega
 ·unfold FJ
  constructor
  ·intro h;have h1:=congrArg Prod.fst h;have h2:=congrArg Prod.snd h;simp only at h1 h2;omega
  ·intro h;exact Prod.ext (by simp only;omega) (by simp only;omega)
open Classical in
theorem Sg (k:Nat) (a:Int×Int):f101 k a=some (decide (FJ a),()):=by
 obtain ⟨b,h1,h2,h3⟩:=QY k a
 simp only [f101,f101.ES]
 rw [h1,Option.bind_some]
 congr 2
 rw [<-h3]
 simp only [decide_eq_decide]
 constructor
 ·exact λ h=>Prod.ext h.1 h.2
 ·intro h;rw [<-h];exact ⟨rfl,rfl⟩
open Classical in
theorem Pr (k:Nat) (a:Int×Int):f36 k a=some (decide (FJ a),()):=by
 simp only [f36,f36.ES,f36.r1,f36.I4]
 unfold FJ
 by_cases h1:(-1048576)<=a.1<;>by_cases h2:a.1<=1048576<;>by_cases h3:(-1048576)<=a.2<;>by_cases h4:a.2<=1048576<;>simp [h1,h2,h3,h4]
theorem Kd (k:Nat) (a b:Int):f63 k a b=some (if a <b then -1 else if b <a then 1 else 0,()):=by
 simp only [f63,f63.ES,f108,f108.ES]
 by_cases h1:a <b<;>by_cases h2:b <a<;>simp [h1,h2]
theorem SM {k:Nat} {a b c:Int×Int} (ha:FJ a) (hb:FJ b) (hc:FJ c):f106 k a b c=some (EP a b c,()):=by
 simp only [f106,f106.ES,f156,f156.ES]
 have e:∀{q:Int×Int},FJ q->f100 k (q.1,q.2)=some (q,()):=λ h=>QZ h
 rw [e ha,e hb,e hc]
 simp only [Option.bind_some]
 have hs:=LI ha hb hc
 unfold FJ at *
 have h1:=IJ (A:=2097152) (B:=2097152) (x:=b.1 - a.1) (y:=c.2 - a.2) (by omega) (by omega) (by omega) (by omega)
 have h2:=IJ (A:=2097152) (B:=2097152) (x:=b.2 - a.2) (y:=c.1 - a.1) (by omega) (by omega) (by omega) (by omega)
 rw [CV (n:=b.1 - a.1) (by omega) (by omega),CV (n:=c.2 - a.2) (by omega) (by omega),CV (n:=c.1 - a.1) (by omega) (by omega),CV (n:=b.2 - a.2) (by omega) (by omega)]
 rw [CV (n:=(b.1 - a.1) * (c.2 - a.2)) (by omega) (by omega),CV (n:=(b.2 - a.2) * (c.1 - a.1)) (by omega) (by omega)]
 have e2:(b.1 - a.1) * (c.2 - a.2) - (b.2 - a.2) * (c.1 - a.1)=EP a b c:=by unfold EP;grind
 rw [e2,CV (by omega) (by omega)]
theorem M8 {k:Nat} {a b c:Int×Int} (ha:FJ a) (hb:FJ b) (hc:FJ c):f99 k a b c=some (sg (EP a b c),()):=by
 simp only [f99,f99.ES]
 have e:=SM (k:=k) ha hb hc
 rw [show f106 k (a.1,a.2) (b.1,b.2) (c.1,c.2)=f106 k a b c from rfl,e,Option.bind_some,Kd,Option.bind_some]
 congr 2
 unfold sg
 rcases Int.lt_trichotomy (EP a b c) 0 with g|g|g
 ·simp only;rw [if_pos g,if_neg (by omega),if_pos g]
 ·simp only;rw [g];rfl
 ·simp only;rw [if_neg (by omega),if_pos g,if_pos g]
open Classical in
theorem Sm (k:Nat) (a b:Int×Int):f117 k a b=some (if I6 a b then -1 else if I6 b a then 1 else 0,()):=by
 simp only [f117,f117.ES,Kd,Option.bind_some]
 unfold I6
 rcases Int.lt_trichotomy a.1 b.1 with g|g|g
 ·simp [g]
 ·rw [g]
  rcases Int.lt_trichotomy a.2 b.2 with g2|g2|g2
  ·simp [g2]
  ·simp [g2]
  ·have: ¬a.2 <b.2:=by omega
   simp [g2,this]
 ·have h1: ¬a.1 <b.1:=by omega
  have h2: ¬a.1=b.1:=by omega
  simp [g,h1,h2]
theorem Sl (k:Nat) (x y:ET):∃r,f14 (k+4) [x.1,x.2.1,x.2.2] [y.1,y.2.1,y.2.2]=some (r,())/\(r <0↔F8 x y)/\(0 <r↔F8 y x):=by
 obtain ⟨a,b,c⟩:=x
 obtain ⟨d,e,g⟩:=y
 have w1:AJ 1=1:=CV (by omega) (by omega)
 have w2:AJ 2=2:=CV (by omega) (by omega)
 have w3:AJ 3=3:=CV (by omega) (by omega)
 simp only [f14,f14.ES]
 unfold F8
 simp only
 rcases Int.lt_trichotomy a d with h1|h1|h1
 ·refine ⟨-1, ?_,by omega,by omega⟩
  simp [f14.l0,f14.E0,Kd,w1,w2,w3,h1]
 ·subst h1
  rcases Int.lt_trichotomy b e with h2|h2|h2
  ·refine ⟨-1, ?_,by omega,by omega⟩
   simp [f14.l0,f14.E0,Kd,w1,w2,w3,h2]
  ·subst h2
   rcases Int.lt_trichotomy c g with h3|h3|h3
   ·refine ⟨-1, ?_,by omega,by omega⟩
    simp [f14.l0,f14.E0,Kd,w1,w2,w3,h3]
   ·subst h3
    refine ⟨0, ?_,by omega,by omega⟩
    simp [f14.l0,f14.E0,Kd,w1,w2,w3]
   ·refine ⟨1, ?_,by omega,by omega⟩
    have: ¬c <g:=by omega
    simp [f14.l0,f14.E0,Kd,w1,w2,w3,h3,this]
  ·refine ⟨1, ?_,by omega,by omega⟩
   have: ¬b <e:=by omega
   simp [f14.l0,f14.E0,Kd,w1,w2,w3,h2,this]
 ·refine ⟨1, ?_,by omega,by omega⟩
  have: ¬a <d:=by omega
  simp [f14.l0,f14.E0,Kd,w1,w2,w3,h1,this]
end Go.Proofs.YtollcjadobpfdaaGreat.Rw
namespace Go.Proofs.YtollcjadobpfdaaGreat.Rw
open Go.Rx
def Ib (ps:List (Int×Int)) (a:Int):Prop:=0<=a/\a <ps.length
open Classical in
noncomputable def H7 (ps:List (Int×Int)) (cs:List ET) (i:Int):Int:=
 if ¬(Ib ps (FT cs i).1/\Ib ps (FT cs i).2.1/\Ib ps (FT cs i).2.2) then 1
 else if (FT cs i).2.1 <(FT cs i).1\/(FT cs i).2.2 <(FT cs i).1\/(0 <i/\ ¬F8 (FT cs (i - 1)) (FT cs i)) then 9
 else if EP (EZ ps (FT cs i).1) (EZ ps (FT cs i).2.1) (EZ ps (FT cs i).2.2)<=0 then 3 else 0
noncomputable def cK (ps:List (Int×Int)) (cs:List ET):Nat->Int->Int
 | 0,_=>0
 |d+1,i=>if H7 ps cs i=0 then cK ps cs d (i+1) else H7 ps cs i
open Classical in
noncomputable def Jd (ps:List (Int×Int)) (cs:List ET):Int:=
 if 200 <ps.length\/400 <cs.length then 2 else if ¬∀q∈ps,FJ q then 1 else if ¬IK ps then 9 else cK ps cs cs.length 0
theorem Qf {ps:List (Int×Int)}:(∀j:Int,0<=j->j <ps.length->FJ (EZ ps j))↔∀q∈ps,FJ q:=by
 constructor
 ·intro h q hq
  obtain ⟨i,hi,rfl⟩:=List.mem_iff_getElem.1 hq
  have:=h i (by omega) (by omega)
  unfold EZ at this
  simpa [List.getD_eq_getElem?_getD,List.getElem?_eq_getElem hi] using this
 ·exact λ h j _ _=>G9 h j
section
variable {ps:List (Int×Int)} {cs:List ET} {k:Nat}
open Classical in
theorem OK (h2:ps.length<=200):∀(d:Nat) (i n:Nat),i+d=ps.length->d <n->f68.l0 k n ps cs (ps.length:Int) (i:Int)=if ∀j:Int,i<=j->j <ps.length->FJ (EZ ps j) then f68.l2 k k ps cs 1 else some (1,())
 | 0,i,n+1,hd,hn=>by
   rw [f68.l0,f68.E0,if_neg (by omega),if_pos (λ j h1 h2=>by omega)]
 |d+1,i,n+1,hd,hn=>by
  rw [f68.l0,f68.E0,if_pos (by omega),if_pos (by omega),if_pos (by omega)]
  rw [show ((ps.getD ((i:Int)).toNat (0,0)).1,(ps.getD ((i:Int)).toNat (0,0)).2)=EZ ps i from rfl,Sg,Option.bind_some]
  simp only
  rw [CV (by omega) (by omega),show (i:Int)+1=((i+1:Nat):Int) by omega]
  by_cases h:FJ (EZ ps i)
  ·rw [if_neg (by simp [h]),OK h2 d (i+1) n (by omega) (by omega)]
   by_cases g:∀j:Int,((i+1:Nat):Int)<=j->j <ps.length->FJ (EZ ps j)
   ·rw [if_pos g,if_pos (λ j h1 h2=> ?_)]
    rcases Int.lt_or_eq_of_le h1 with q|q
    ·exact g j (by omega) h2
    ·subst q;exact h
   ·rw [if_neg g,if_neg (λ z=>g λ j h1 h2=>z j (by omega) h2)]
  ·rw [if_pos (by simp [h]),if_neg (λ z=>h (z i (by omega) (by omega)))]
open Classical in
theorem OL (h2:ps.length<=200):∀(d:Nat) (i n:Nat),1<=i->i+d=ps.length+1->d <n->f68.l2 k n ps cs (i:Int)=if ∀j:Int,i<=j->j <ps.length->I6 (EZ ps (j - 1)) (EZ ps j) then f68.l4 k k ps cs (cs.length:Int) 0 else some (9,())
 | 0,i,n+1,h1,hd,hn=>by
   rw [f68.l2,f68.FG,if_neg (by omega),if_pos (λ j h1 h2=>by omega)]
 |d+1,i,n+1,h1,hd,hn=>by
  rw [f68.l2,f68.FG]
  by_cases hi:(i:Int) <(ps.length:Int)
  ·rw [CV (n:=(i:Int) - 1) (by omega) (by omega),if_pos hi,if_pos (by omega),if_pos (by omega),if_pos (by omega),if_pos hi]
   rw [show ((ps.getD ((i:Int)).toNat (0,0)).1,(ps.getD ((i:Int)).toNat (0,0)).2)=EZ ps i from rfl,show ((ps.getD ((i:Int) - 1).toNat (0,0)).1,(ps.getD ((i:Int) - 1).toNat (0,0)).2)=EZ ps ((i:Int) - 1) from rfl,Sm,Option.bind_some]
   simp only
   rw [CV (by omega) (by omega),show (i:Int)+1=((i+1:Nat):Int) by omega]
   by_cases h:I6 (EZ ps ((i:Int) - 1)) (EZ ps i)
   ·rw [if_pos h,if_neg (by omega),OL h2 d (i+1) n (by omega) (by omega) (by omega)]
    by_cases g:∀j:Int,((i+1:Nat):Int)<=j->j <ps.length->I6 (EZ ps (j - 1)) (EZ ps j)
    ·rw [if_pos g,if_pos (λ j h1 h2=> ?_)]
     rcases Int.lt_or_eq_of_le h1 with q|q
     ·exact g j (by omega) h2
     ·subst q;exact h
    ·rw [if_neg g,if_neg (λ z=>g λ j h1 h2=>z j (by omega) h2)]
   ·rw [if_neg h,if_pos (by split<;>omega),if_neg (λ z=>h (z i (by omega) hi))]
  ·rw [if_neg hi,if_pos (λ j h1 h2=>by omega)]
open Classical in
theorem Ss {r4:f68.G6} {GI F1:Int} (a b c:Int) (n:Nat) (hn:4<=n):f68.wv k r4 n ps cs a b c GI F1 0=if Ib ps a/\Ib ps b/\Ib ps c then (if b <a then (f68.L9 k r4 ps cs (a,(b,c)) GI F1 true) else (if c <a then (f68.L9 k r4 ps cs (a,(b,c)) GI F1 true) else (if 0 <F1 then (if 0<=(AJ (F1 - 1)) then (if (AJ (F1 - 1)) <(cs.length:Int) then ((f14 k ([(cs.getD (AJ (F1 - 1)).toNat (0,(0,0))).1,((cs.getD (AJ (F1 - 1)).toNat (0,(0,0))).2).1,((cs.getD (AJ (F1 - 1)).toNat (0,(0,0))).2).2]) ([a,b,c])).bind λ r1=>(f68.L9 k r4 ps cs (a,(b,c)) GI F1 (decide (0<=r1.1)))) else none) else none) else (f68.L9 k r4 ps cs (a,(b,c)) GI F1 false)))) else some (1,()):=by
 obtain ⟨n,rfl⟩:∃m,n=m+4:=⟨n - 4,by omega⟩
 have w1:AJ 1=1:=CV (by omega) (by omega)
 have w2:AJ 2=2:=CV (by omega) (by omega)
 have w3:AJ 3=3:=CV (by omega) (by omega)
 have step:∀(m:Nat) (x:Int) (q:Int),0<=x->x <3->([a,b,c]:List Int).getD x.toNat 0=q->f68.wv k r4 (m+1) ps cs a b c GI F1 x=if Ib ps q then f68.wv k r4 m ps cs a b c GI F1 (x+1) else some (1,()):=λ m x q h0 h3 hq=>by
  rw [f68.wv,f68.HX,if_pos h3,if_pos h0,if_pos h3,hq]
  simp only [f68.Tc,f68.Pv]
  rw [CV (by omega) (by omega)]
  unfold Ib
  by_cases h1:q <0
  ·rw [if_pos h1,if_pos trivial,if_neg (by omega)]
  ·rw [if_neg h1]
   by_cases h2:(ps.length:Int)<=q
   ·rw [if_pos (decide_eq_true h2),if_neg (by omega)]
   ·rw [if_neg (by simp;omega),if_pos (by omega)]
 rw [step (n+3) 0 a (by omega) (by omega) rfl]
 by_cases ha:Ib ps a
 ·rw [if_pos ha,step (n+2) (0+1) b (by omega) (by omega) rfl]
  by_cases hb:Ib ps b
  ·rw [if_pos hb,step (n+1) (0+1+1) c (by omega) (by omega) rfl]
   by_cases hc:Ib ps c
   ·rw [if_pos hc,if_pos ⟨ha,hb,hc⟩,f68.wv,f68.HX,if_neg (by omega)]
   ·rw [if_neg hc,if_neg (λ z=>hc z.2.2)]
  ·rw [if_neg hb,if_neg (λ z=>hb z.2.1)]
 ·rw [if_neg ha,if_neg (λ z=>ha z.1)]
open Classical in
theorem Q9 {r4:f68.G6} {c:ET} {GI F1:Int} {q:Bool} (ho:∀q∈ps,FJ q) (h0:0<=F1) (h1:F1 <400) (hc:Ib ps c.1/\Ib ps c.2.1/\Ib ps c.2.2):f68.L9 k r4 ps cs c GI F1 q=if q=true then some (9,()) else if EP (EZ ps c.1) (EZ ps c.2.1) (EZ ps c.2.2)<=0 then some (3,()) else r4 ps cs GI (F1+1):=by
 unfold Ib at hc
 obtain ⟨⟨a1,a2⟩,⟨b1,b2⟩,c1,c2⟩:=hc
 simp only [f68.L9,f68.Pw]
 by_cases hq:q=true
 ·rw [if_pos hq,if_pos hq]
 ·rw [if_neg hq,if_neg hq,if_pos a1,if_pos a2,if_pos b1,if_pos b2,if_pos c1,if_pos c2]
  have e:∀i:Int,((ps.getD i.toNat (0,0)).1,(ps.getD i.toNat (0,0)).2)=EZ ps i:=λ i=>rfl
  rw [e,e,e,M8 (G9 ho _) (G9 ho _) (G9 ho _),Option.bind_some]
  simp only
  rw [CV (by omega) (by omega)]
  have:=@Qt (EP (EZ ps c.1) (EZ ps c.2.1) (EZ ps c.2.2))
  by_cases g:EP (EZ ps c.1) (EZ ps c.2.1) (EZ ps c.2.2)<=0
  ·rw [if_pos (by omega),if_pos g]
  ·rw [if_neg (by omega),if_neg g]
open Classical in
theorem OM (hk:1000<=k) (ho:∀q∈ps,FJ q) (h2:cs.length<=400):∀(d:Nat) (i n:Nat),i+d=cs.length->d <n->f68.l4 k n ps cs (cs.length:Int) (i:Int)=some (cK ps cs d i,())
 | 0,i,n+1,hd,hn=>by
   rw [f68.l4,f68.Hj,if_neg (by omega)];rfl
 |d+1,i,n+1,hd,hn=>by
  rw [f68.l4,f68.Hj,if_pos (by omega),if_pos (by omega),if_pos (by omega),Ss _ _ _ _ (by omega)]
  rw [show (cs.getD ((i:Int)).toNat (0,(0,0)))=FT cs i from rfl]
  have hF:∀v,v≠0->H7 ps cs i=v->cK ps cs (d+1) i=v:=λ v h1 h2=>by unfold cK;rw [h2,if_neg h1]
  have h0:H7 ps cs i=0->cK ps cs (d+1) i=cK ps cs d (i+1):=λ h=>by unfold cK;rw [if_pos h];cases d<;>rfl
  have ih:=OM hk ho h2 d (i+1) n (by omega) (by omega)
  rw [show (((i+1:Nat)):Int)=(i:Int)+1 by omega] at ih
  by_cases hr:Ib ps (FT cs i).1/\Ib ps (FT cs i).2.1/\Ib ps (FT cs i).2.2
  ·rw [if_pos hr]
   have c1:((FT cs i).2.1 <(FT cs i).1\/(FT cs i).2.2 <(FT cs i).1\/(0 <(i:Int)/\ ¬F8 (FT cs ((i:Int) - 1)) (FT cs i)))->cK ps cs (d+1) i=9:=λ z=>hF 9 (by omega) (by unfold H7;rw [if_neg (λ q=>q hr),if_pos z])
   have c2: ¬((FT cs i).2.1 <(FT cs i).1\/(FT cs i).2.2 <(FT cs i).1\/(0 <(i:Int)/\ ¬F8 (FT cs ((i:Int) - 1)) (FT cs i)))->(if EP (EZ ps (FT cs i).1) (EZ ps (FT cs i).2.1) (EZ ps (FT cs i).2.2)<=0 then some (3,()) else f68.l4 k n ps cs (cs.length:Int) ((i:Int)+1))=some (cK ps cs (d+1) i,()):=λ z=>by
    by_cases g:EP (EZ ps (FT cs i).1) (EZ ps (FT cs i).2.1) (EZ ps (FT cs i).2.2)<=0
    ·rw [if_pos g,hF 3 (by omega) (by unfold H7;rw [if_neg (λ q=>q hr),if_neg z,if_pos g])]
    ·rw [if_neg g,ih,h0 (by unfold H7;rw [if_neg (λ q=>q hr),if_neg z,if_neg g])]
   have rr:∀q,f68.L9 k (f68.l4 k n) ps cs ((FT cs i).1,((FT cs i).2.1,(FT cs i).2.2)) (cs.length:Int) (i:Int) q=if q=true then some (9,()) else if EP (EZ ps (FT cs i).1) (EZ ps (FT cs i).2.1) (EZ ps (FT cs i).2.2)<=0 then some (3,()) else f68.l4 k n ps cs (cs.length:Int) ((i:Int)+1):=λ q=>Q9 ho (by omega) (by omega) hr
   by_cases g1:(FT cs i).2.1 <(FT cs i).1
   ·rw [if_pos g1,rr,if_pos rfl,c1 (.inl g1)]
   ·rw [if_neg g1]
    by_cases g2:(FT cs i).2.2 <(FT cs i).1
    ·rw [if_pos g2,rr,if_pos rfl,c1 (.inr (.inl g2))]
    ·rw [if_neg g2]
     by_cases g3:(0:Int) <i
     ·rw [if_pos g3,CV (by omega) (by omega),if_pos (by omega),if_pos (by omega)]
      rw [show (cs.getD ((i:Int) - 1).toNat (0,(0,0)))=FT cs ((i:Int) - 1) from rfl]
      obtain ⟨k',rfl⟩:∃m,k=m+4:=⟨k - 4,by omega⟩
      obtain ⟨r,e,r1,r2⟩:=Sl k' (FT cs ((i:Int) - 1)) (FT cs i)
      rw [e,Option.bind_some,rr]
      by_cases g4:F8 (FT cs ((i:Int) - 1)) (FT cs i)
      ·have:=r1.2 g4
       rw [if_neg (by simp;omega),c2 (λ z=>z.elim g1 λ z=>z.elim g2 λ z=>z.2 g4)]
      ·have: ¬r <0:=λ z=>g4 (r1.1 z)
       rw [if_pos (by simp;omega),c1 (.inr (.inr ⟨g3,g4⟩))]
     ·rw [if_neg g3,rr,if_neg (by simp),c2 (λ z=>z.elim g1 λ z=>z.elim g2 λ z=>g3 z.1)]
  ·rw [if_neg hr,hF 1 (by omega) (by unfold H7;rw [if_pos hr])]
theorem Sr (hk:1000<=k) (hc:cs.length <4611686018427387904) (hp:ps.length <4611686018427387904):f68 k (ps,cs)=some (Jd ps cs,()):=by
 classical
 simp only [f68,f68.ES,f68.r1,f68.I4]
 unfold Jd
 by_cases h1:(200:Int) <ps.length
 ·rw [if_pos h1,if_pos trivial,if_pos (.inl (by omega))]
 ·rw [if_neg h1]
  by_cases h2:(400:Int) <cs.length
  ·rw [if_pos (decide_eq_true h2),if_pos (.inr (by omega))]
  ·rw [if_neg (by simp;omega),if_neg (by omega)]
   have e:=OK (cs:=cs) (k:=k) (ps:=ps) (by omega) ps.length 0 k (by omega) (by omega)
   rw [show (((0:Nat)):Int)=0 from rfl] at e
   rw [e]
   by_cases h3:∀q∈ps,FJ q
   ·rw [if_pos (Qf.2 h3),if_neg (λ z=>z h3)]
    have e:=OL (cs:=cs) (k:=k) (ps:=ps) (by omega) ps.length 1 k (by omega) (by omega) (by omega)
    rw [show (((1:Nat)):Int)=1 from rfl] at e
    rw [e]
    by_cases h4:IK ps
    ·rw [if_pos (show ∀j:Int,1<=j->j <ps.length->I6 (EZ ps (j - 1)) (EZ ps j) from h4),if_neg (λ z=>z h4)]
     exact OM hk h3 (by omega) cs.length 0 k (by omega) (by omega)
    ·rw [if_neg (show ¬∀j:Int,1<=j->j <ps.length->I6 (EZ ps (j - 1)) (EZ ps j) from h4),if_pos h4]
   ·rw [if_neg (λ z=>h3 (Qf.1 z)),if_pos h3]
end
end Go.Proofs.YtollcjadobpfdaaGreat.Rw
namespace Go.Proofs.YtollcjadobpfdaaGreat.Rw
open Go.Rx
section
variable {ps:List (Int×Int)} {cs:List ET}
theorem QW (h:cK ps cs cs.length 0=0):∀i:Int,0<=i->i <cs.length->H7 ps cs i=0:=by
 have key:∀(d:Nat) (j:Int),cK ps cs d j=0->∀i,j<=i->i <j+d->H7 ps cs i=0:=λ d=>by
  induction d with
  |zero=>intro j _ i h1 h2;omega
  |succ d ih=>
   intro j hj i h1 h2
   unfold cK at hj
   split at hj
   ·rename_i g
    rcases Int.lt_or_eq_of_le h1 with q|q
    ·exact ih (j+1) hj i (by omega) (by omega)
    ·subst q;exact g
   ·rename_i g;exact absurd hj g
 intro i h0 h1
 exact key cs.length 0 h i h0 (by omega)
theorem Q8 (h:Jd ps cs=0):Jm ps cs:=by
 classical
 unfold Jd at h
 split at h
 ·omega
 ·rename_i g1
  split at h
  ·omega
  ·rename_i g2
   have g2:=Classical.not_not.1 g2
   split at h
   ·omega
   ·rename_i g3
    have g3:=Classical.not_not.1 g3
    have hc:=QW h
    have split:∀i:Int,0<=i->i <cs.length->(Ib ps (FT cs i).1/\Ib ps (FT cs i).2.1/\Ib ps (FT cs i).2.2)/\ ¬((FT cs i).2.1 <(FT cs i).1\/(FT cs i).2.2 <(FT cs i).1\/(0 <i/\ ¬F8 (FT cs (i - 1)) (FT cs i)))/\0 <EP (EZ ps (FT cs i).1) (EZ ps (FT cs i).2.1) (EZ ps (FT cs i).2.2):=λ i h0 h1=>by
     have:=hc i h0 h1
     unfold H7 at this
     split at this
     ·omega
     ·rename_i a
      split at this
      ·omega
      ·rename_i b
       split at this
       ·omega
       ·exact ⟨Classical.not_not.1 a,b,by omega⟩
    refine ⟨by omega,by omega,g2,g3,λ i h1 h2=> ?_,λ c zS=> ?_⟩
    ·exact Classical.byContradiction λ z=>(split i (by omega) h2).2.1 (.inr (.inr ⟨by omega,z⟩))
    ·obtain ⟨i,hi,rfl⟩:=List.mem_iff_getElem.1 zS
     have e:FT cs (i:Int)=cs[i]:=by unfold FT;simp [List.getD_eq_getElem?_getD,List.getElem?_eq_getElem hi]
     obtain ⟨⟨a,b,c⟩,s1,s2⟩:=split (i:Int) (by omega) (by omega)
     rw [e] at a b c s1 s2
     unfold Ib at a b c
     have n1:cs[i].1≠cs[i].2.1:=λ z=>by
      rw [<-z] at s2
      have:EP (EZ ps cs[i].1) (EZ ps cs[i].1) (EZ ps cs[i].2.2)=0:=by simp only [EP];grind
      omega
     have n2:cs[i].1≠cs[i].2.2:=λ z=>by
      rw [<-z] at s2
      have:EP (EZ ps cs[i].1) (EZ ps cs[i].2.1) (EZ ps cs[i].1)=0:=by simp only [EP];grind
      omega
     exact ⟨a.1,by omega,by omega,b.2,c.2,s2⟩
theorem Ld:∀(d:Nat) (j:Int),(∀i,j<=i->i <j+d->H7 ps cs i=0)->cK ps cs d j=0
 | 0,j,h=>rfl
 |d+1,j,h=>by
  unfold cK
  rw [if_pos (h j (Int.le_refl _) (by omega))]
  exact Ld d (j+1) λ i h1 h2=>h i (by omega) (by omega)
theorem Ph (h:Jm ps cs):Jd ps cs=0:=by
 classical
 have l1:=h.len;have l2:=h.SL
 unfold Jd
 rw [if_neg (by omega),if_neg (λ z=>z h.ok),if_neg (λ z=>z h.up)]
 refine Ld _ _ λ i h0 h1=> ?_
 have hc:FT cs i∈cs:=by
  unfold FT
  rw [List.getD_eq_getElem?_getD,List.getElem?_eq_getElem (by omega:i.toNat <cs.length)]
  exact List.getElem_mem _
 obtain ⟨lo,hb,hd,sv,q8,FY⟩:=h.cell _ hc
 unfold H7
 rw [if_neg (λ z=>z ⟨⟨lo,by omega⟩,⟨by omega,sv⟩,⟨by omega,q8⟩⟩),if_neg ?_,if_neg (by omega)]
 rintro (z|z|⟨z1,z2⟩)
 ·omega
 ·omega
 ·exact z2 (h.TR i (by omega) (by omega))
end
end Go.Proofs.YtollcjadobpfdaaGreat.Rw
namespace Go.Proofs.YtollcjadobpfdaaGreat.Rw
open Go.Rx
abbrev q7:(Int×Int)->(Int×Int)->Bool:=kB (.pair (.int .i64) (.int .i64))
theorem P7 {a b:Int×Int}:q7 a b=true↔a=b:=by
 show (iB a.1 b.1 && iB a.2 b.2)=true↔a=b
 rw [Bool.and_eq_true,pK,pK]
 exact ⟨λ h=>Prod.ext h.1 h.2,λ h=>by rw [h];exact ⟨rfl,rfl⟩⟩
theorem HO (a:Int×Int):q7 a a=true:=P7.2 rfl
theorem Ix {a b:Int×Int} (h:a≠b):q7 a b=false:=by
 cases e:q7 a b with
 |false=>rfl
 |true=>exact absurd (P7.1 e) h
section
variable {β:Type}
theorem JL (v:β) (k e:Int×Int):∀l:List ((Int×Int)×β),dA q7 (jV q7 l k v) e=if e=k then some v else dA q7 l e
 | []=>by
   by_cases h:e=k
   ·subst h;simp [jV,dA,HO]
   ·simp [jV,dA,Ix h,h]
 | (k',v')::r=>by
   by_cases g:k=k'
   ·subst g
    simp only [jV,HO]
    by_cases h:e=k
    ·subst h;simp [dA,HO]
    ·simp [dA,Ix h,h]
   ·simp only [jV,Ix g]
    by_cases h:e=k'
    ·subst h
     have: ¬e=k:=λ z=>g z.symm
     simp [dA,HO,this]
    ·simp only [dA,Ix h]
     exact JL v k e r
open Classical in
noncomputable def Hg (s:List (Int×Int)) (x:Int×Int):List (Int×Int):=if x∈s then s else s++[x]
theorem KT (v:β) (k:Int×Int):∀l:List ((Int×Int)×β),(jV q7 l k v).map Prod.fst=Hg (l.map Prod.fst) k
 | []=>by simp [jV,Hg]
 | (k',v')::r=>by
   by_cases g:k=k'
   ·subst g
    simp [jV,HO,Hg]
   ·simp only [jV,Ix g,List.map_cons,KT v k r]
    unfold Hg
    by_cases h:k∈r.map Prod.fst
    ·rw [if_pos h,if_pos (List.mem_cons_of_mem _ h)]
    ·rw [if_neg h,if_neg (λ z=>(List.mem_cons.1 z).elim g h),List.cons_append]
theorem Ki {s:List (Int×Int)} {x y:Int×Int}:y∈Hg s x↔y∈s\/y=x:=by
 unfold Hg
 by_cases h:x∈s
 ·rw [if_pos h];exact ⟨.inl,λ z=>z.elim id λ e=>e▸h⟩
 ·rw [if_neg h];simp
theorem Je {s:List (Int×Int)} {x:Int×Int} (h:s.Nodup):(Hg s x).Nodup:=by
 unfold Hg
 by_cases g:x∈s
 ·rw [if_pos g];exact h
 ·rw [if_neg g,List.nodup_append];exact ⟨h,by simp,λ a ha b hb=>by rw [List.mem_singleton] at hb;subst hb;exact λ e=>g (e▸ha)⟩
theorem MD:∀{E s:List (Int×Int)} {y:Int×Int},y∈E.foldl Hg s↔y∈s\/y∈E
 | [],s,y=>by simp
 |x::E,s,y=>by rw [List.foldl_cons,MD,Ki,List.mem_cons,or_assoc]
theorem Lg:∀{E s:List (Int×Int)},s.Nodup->(E.foldl Hg s).Nodup
 | [],s,h=>h
 |x::E,s,h=>by rw [List.foldl_cons];exact Lg (Je h)
theorem Lk:∀{E s:List (Int×Int)},(E.foldl Hg s).length<=s.length+E.length
 | [],s=>by simp
 |x::E,s=>by
  have:=Lk (E:=E) (s:=Hg s x)
  have h:(Hg s x).length<=s.length+1:=by unfold Hg;split<;>simp
  rw [List.foldl_cons,List.length_cons];omega
theorem MC:∀{E s:List (Int×Int)},(E.foldl Hg s).length=s.length+E.length↔E.Nodup/\∀x∈E,x∉s
 | [],s=>by simp
 |x::E,s=>by
  rw [List.foldl_cons,List.length_cons,List.nodup_cons]
  by_cases g:x∈s
  ·have:=Lk (E:=E) (s:=Hg s x)
   have h:(Hg s x).length=s.length:=by unfold Hg;rw [if_pos g]
   constructor
   ·intro z;omega
   ·intro z;exact absurd g (z.2 x (by simp))
  ·have h:(Hg s x).length=s.length+1:=by unfold Hg;rw [if_neg g];simp
   have ih:=MC (E:=E) (s:=Hg s x)
   rw [h,show s.length+1+E.length=s.length+(E.length+1) by omega] at ih
   rw [ih]
   constructor
   ·rintro ⟨a,b⟩
    refine ⟨⟨λ z=>b x z (Ki.2 (.inr rfl)),a⟩,λ y hy=> ?_⟩
    rcases List.mem_cons.1 hy with rfl|hy
    ·exact g
    ·exact λ z=>b y hy (Ki.2 (.inl z))
   ·rintro ⟨⟨a,b⟩,c⟩
    refine ⟨b,λ y hy z=> ?_⟩
    rcases Ki.1 z with z|z
    ·exact c y (List.mem_cons_of_mem _ hy) z
    ·subst z;exact a hy
theorem Kj {l:List ((Int×Int)×β)} {e:Int×Int}:(dA q7 l e).isSome=true↔e∈l.map Prod.fst:=by
 induction l with
 |nil=>simp [dA]
 |cons x l ih=>
  obtain ⟨k,v⟩:=x
  by_cases h:e=k
  ·subst h;simp [dA,HO]
  ·simp only [dA,Ix h,List.map_cons,List.mem_cons,h,false_or]
   exact ih
end
def Gr (m:List ((Int×Int)×Int)) (c:ET):List ((Int×Int)×Int):=jV q7 (jV q7 (jV q7 m (c.1,c.2.1) c.2.2) (c.2.1,c.2.2) c.1) (c.2.2,c.1) c.2.1
theorem K0:∀(cs:List ET) (m:List ((Int×Int)×Int)),(cs.foldl Gr m).map Prod.fst=(EX cs).foldl Hg (m.map Prod.fst)
 | [],m=>rfl
 |c::cs,m=>by
  rw [List.foldl_cons,K0 cs,show EX (c::cs)=EU c++EX cs from rfl,List.foldl_append]
  congr 1
  simp only [Gr,KT,EU,List.foldl_cons,List.foldl_nil]
section
variable {ps:List (Int×Int)} {cs:List ET} {k:Nat}
theorem Nk {sk:f69.E1} (m:List ((Int×Int)×Int)) (a b c uf:Int) (i n:Nat) (hi:i <4611686018427387904) (hn:4<=n):f69.l2 k sk n a b c m i 0 cs uf=sk (Gr m (a,(b,c))) ((i+1:Nat):Int) cs uf:=by
 obtain ⟨n,rfl⟩:∃m,n=m+4:=⟨n - 4,by omega⟩
 have w1:AJ 1=1:=CV (by omega) (by omega)
 have w2:AJ 2=2:=CV (by omega) (by omega)
 have w3:AJ 3=3:=CV (by omega) (by omega)
 have w4:AJ 4=4:=CV (by omega) (by omega)
 have wi:AJ ((i:Int)+1)=(i:Int)+1:=CV (by omega) (by omega)
 have t1:Int.tmod 3 3=0:=by decide
 have t2:Int.tmod 4 3=1:=by decide
 have t3:Int.tmod 1 3=1:=by decide
 have t4:Int.tmod 2 3=2:=by decide
 simp [f69.l2,f69.FG,w1,w2,w3,w4,wi,t1,t2,t3,t4,Gr]
theorem Nj (hk:1000<=k) (h2:cs.length<=400):∀(d:Nat) (i n:Nat) (m:List ((Int×Int)×Int)),i+d=cs.length->d <n->f69.l0 k n m (i:Int) cs (cs.length:Int)=some (((cs.drop i).foldl Gr m,()),())
 | 0,i,n+1,m,hd,hn=>by
   rw [f69.l0,f69.E0,if_neg (by omega),List.drop_of_length_le (by omega)]
   rfl
 |d+1,i,n+1,m,hd,hn=>by
  have hi:i <cs.length:=by omega
  rw [f69.l0,f69.E0,if_pos (by omega),if_pos (by omega),if_pos (by omega)]
  rw [Nk _ _ _ _ _ i k (by omega) (by omega),Nj hk h2 d (i+1) n _ (by omega) (by omega)]
  rw [List.drop_eq_getElem_cons hi,List.foldl_cons]
  simp [List.getD_eq_getElem?_getD,List.getElem?_eq_getElem hi]
theorem Ni (hk:1000<=k) (h2:cs.length<=400):f69 k cs=some ((cs.foldl Gr [],()),()):=by
 simp only [f69,f69.ES]
 exact Nj hk h2 cs.length 0 k [] (by omega) (by omega)
end
end Go.Proofs.YtollcjadobpfdaaGreat.Rw
namespace Go.Proofs.YtollcjadobpfdaaGreat.Rw
open Go.Rx
def GY (s:Int) (ps:List (Int×Int)):Int->Int×Int:=if s=1 then EZ ps else FP 2097153 (EZ ps)
theorem Qu {s:Int} (hs:s=1\/s= -1) {ps:List (Int×Int)} (ho:∀q∈ps,FJ q) (a b c:Int):AJ (s * sg (EP (EZ ps a) (EZ ps b) (EZ ps c))) <0↔EP (GY s ps a) (GY s ps b) (GY s ps c) <0:=by
 have h1:=RK (EP (EZ ps a) (EZ ps b) (EZ ps c))
 have h2:=@Th (EP (EZ ps a) (EZ ps b) (EZ ps c))
 have h3:=@Qt (EP (EZ ps a) (EZ ps b) (EZ ps c))
 unfold GY
 rcases hs with rfl|rfl
 ·rw [if_pos rfl,CV (by omega) (by omega)];omega
 ·have h4:=GJ (EZ ps a) (EZ ps b) (EZ ps c)
  rw [if_neg (by omega),Gc,CV (by omega) (by omega)];omega
def Ge (P:Int->Int×Int):Nat->List Int
 | 0=>[]
 |i+1=>(i:Int)::Hr P i (Ge P i)
theorem NX {P:Int->Int×Int} {k x:Int}:∀{s:List Int},x∈Hr P k s->x∈s
 | [],h=>h
 | [t],h=>h
 |t::a::s,h=>by
  simp only [Hr] at h
  split at h
  ·exact List.mem_cons_of_mem _ (NX h)
  ·exact h
theorem NW {P:Int->Int×Int} {k:Int}:∀(s:List Int),(Hr P k s).length<=s.length
 | []=>Nat.le_refl _
 | [t]=>Nat.le_refl _
 |t::a::s=>by
  simp only [Hr]
  split
  ·exact Nat.le_trans (NW (a::s)) (by simp)
  ·exact Nat.le_refl _
theorem Mz {P:Int->Int×Int}:∀{i:Nat} {x:Int},x∈Ge P i->0<=x/\x <i
 |i+1,x,h=>by
  simp only [Ge,List.mem_cons] at h
  rcases h with rfl|h
  ·omega
  ·have:=Mz (NX h);omega
theorem Kc {P:Int->Int×Int}:∀(i:Nat),(Ge P i).length<=i
 | 0=>Nat.le_refl _
 |i+1=>by
  have:=Kc (P:=P) i
  have:=NW (P:=P) (k:=i) (Ge P i)
  simp only [Ge,List.length_cons];omega
theorem Ja {P:Int->Int×Int} {K:Int} {n:Int} (hr:E2 P K n):∀(i:Nat),((i+1:Nat):Int)<=n->Gu P ((i+1:Nat):Int) (Ge P (i+1))
 | 0,h=>by simp [Ge,Hr,Gu]
 |i+1,h=>by
  have ih:=Ja hr i (by omega)
  simp only [Ge] at ih ⊢
  have:=JE hr (k:=((i+1:Nat):Int)) (by omega) (s:=Hr P i (Ge P i)) (by rw [show ((i+1:Nat):Int) - 1=(i:Int) by omega];exact ih)
  rw [show ((i+1:Nat):Int) - 1=(i:Int) by omega] at this
  rw [show ((i+1+1:Nat):Int)=((i+1:Nat):Int)+1 by omega]
  exact this
def Iz (l:List Int):Nat->Nat->List (Int×Int)
 | 0,_=>[]
 |d+1,i=>(l.getD (i - 1) 0,l.getD i 0)::Iz l d (i+1)
theorem L6 {l:List Int} {e:Int×Int}:∀{d i:Nat},e∈Iz l d i↔∃j,i<=j/\j <i+d/\e=(l.getD (j - 1) 0,l.getD j 0)
 | 0,i=>by simp only [Iz,List.not_mem_nil,false_iff];rintro ⟨j,a,b,_⟩;omega
 |d+1,i=>by
  simp only [Iz,List.mem_cons,L6]
  constructor
  ·rintro (h|⟨j,a,b,c⟩)
   ·exact ⟨i,by omega,by omega,h⟩
   ·exact ⟨j,by omega,by omega,c⟩
  ·rintro ⟨j,a,b,c⟩
   by_cases h:j=i
   ·subst h;exact .inl c
   ·exact .inr ⟨j,by omega,by omega,c⟩
theorem ML {e:Int×Int}:∀{s:List Int},e∈FF s↔∃j,j+1 <s.length/\e=(s.getD (j+1) 0,s.getD j 0)
 | []=>by simp [FF]
 | [x]=>by simp [FF]
 |t::a::s=>by
  rw [FF,List.mem_cons,ML]
  constructor
  ·rintro (h|⟨j,h1,h2⟩)
   ·exact ⟨0,by simp,by simpa using h⟩
   ·exact ⟨j+1,by simp at h1 ⊢; omega,by simpa using h2⟩
  ·rintro ⟨j,h1,h2⟩
   cases j with
   |zero=>exact .inl (by simpa using h2)
   |succ j=>exact .inr ⟨j,by simp at h1 ⊢; omega,by simpa using h2⟩
theorem Li {s:List Int} {e:Int×Int}:e∈Iz s.reverse (s.length - 1) 1↔e∈FF s:=by
 rw [L6,ML]
 have g:∀i,i <s.length->s.reverse.getD i 0=s.getD (s.length - 1 - i) 0:=λ i hi=>by
  simp only [List.getD_eq_getElem?_getD]
  rw [List.getElem?_reverse hi]
 constructor
 ·rintro ⟨j,a,b,rfl⟩
  refine ⟨s.length - 1 - j,by omega, ?_⟩
  rw [g _ (by omega),g _ (by omega),show s.length - 1 - (j - 1)=s.length - 1 - j+1 by omega]
 ·rintro ⟨j,a,rfl⟩
  refine ⟨s.length - 1 - j,by omega,by omega, ?_⟩
  rw [g _ (by omega),g _ (by omega),show s.length - 1 - (s.length - 1 - j - 1)=j+1 by omega,show s.length - 1 - (s.length - 1 - j)=j by omega]
def Lq (s:Int) (m:List ((Int×Int)×Bool)) (e:Int×Int):List ((Int×Int)×Bool):=if 0 <s then jV q7 m e true else jV q7 m (e.2,e.1) true
theorem Lr {s:Int} {e:Int×Int}:∀{E:List (Int×Int)} {m:List ((Int×Int)×Bool)},(dA q7 (E.foldl (Lq s) m) e).getD false=true↔(dA q7 m e).getD false=true\/(if 0 <s then e else (e.2,e.1))∈E
 | [],m=>by simp
 |x::E,m=>by
  rw [List.foldl_cons,Lr,List.mem_cons]
  unfold Lq
  by_cases hs:0 <s
  ·simp only [hs,if_true,JL]
   by_cases h:e=x
   ·simp [h]
   ·simp [h]
  ·simp only [hs,if_false,JL]
   by_cases h:e=(x.2,x.1)
   ·rw [if_pos h];simp [h]
   ·rw [if_neg h]
    have: ¬(e.2,e.1)=x:=λ z=>h (by rw [<-z])
    simp [this]
section
variable {ps:List (Int×Int)} {k:Nat}
theorem Qm {sk:f70.E1} (F7:List Int) (l:List Int) (hl:l.length<=1000) (FH:Int) (Fq:Nat) (h12:Fq <10) (s:Int):∀(d i n:Nat) (m:List ((Int×Int)×Bool)),i+d=max i l.length->1<=i->i<=1001->d <n->
 f70.wv k sk n F7 l m ps FH (Fq:Int) s (i:Int)=sk F7 ((Iz l d i).foldl (Lq s) m) ps FH ((Fq+1:Nat):Int)
 | 0,i,n+1,m,hd,hi,hi2,hn=>by
   rw [f70.wv,f70.HX,if_neg (by omega),CV (by omega) (by omega)]
   rfl
 |d+1,i,n+1,m,hd,hi,hi2,hn=>by
  have h1:(i:Int) <(l.length:Int):=by omega
  have wi:AJ ((i:Int) - 1)=(i:Int) - 1:=CV (by omega) (by omega)
  have e1:(((i:Int) - 1).toNat)=i - 1:=by omega
  have ih:=λ m=>Qm (sk:=sk) F7 l hl FH Fq h12 s d (i+1) n m (by omega) (by omega) (by omega) (by omega)
  rw [f70.wv,f70.HX,if_pos h1,wi]
  simp only [f70.SJ,f70.Pa]
  rw [CV (n:=(i:Int)+1) (by omega) (by omega),show (i:Int)+1=((i+1:Nat):Int) by omega,ih,ih,Iz,List.foldl_cons,e1]
  rw [Int.toNat_natCast]
  unfold Lq
  by_cases hs:0 <s
  ·rw [if_pos hs,if_pos (by omega),if_pos (by omega),if_pos (by omega),if_pos h1,if_pos hs]
  ·rw [if_neg hs,if_pos (by omega),if_pos h1,if_pos (by omega),if_pos (by omega),if_neg hs]
theorem Ql {r2:f70.FM} {sk:f70.E1} (ho:∀q∈ps,FJ q) (h2:ps.length<=200) {s:Int} (hs:s=1\/s= -1) (F7:List Int) (m:List ((Int×Int)×Bool)) (FH Fq HV:Int) (i:Nat) (hi:i <ps.length):∀(stk:List Int) (n:Nat),(∀x∈stk,0<=x/\x <ps.length)->stk.length<=400->stk.length <n->
 f70.l4 k r2 sk n F7 stk.reverse m ps FH Fq HV (i:Int) s=r2 F7 ((i:Int)::Hr (GY s ps) i stk).reverse m ps FH Fq HV ((i+1:Nat):Int) s
 | [],n+1,hx,hl,hn=>by
   rw [f70.l4,f70.Hj,if_neg (by simp)]
   simp only [f70.r9,f70.Km]
   rw [if_neg (by simp),if_pos (by simp),CV (by omega) (by omega)]
   rfl
 | [t],n+1,hx,hl,hn=>by
   rw [f70.l4,f70.Hj,if_neg (by simp)]
   simp only [f70.r9,f70.Km]
   rw [if_neg (by simp),if_pos (by simp),CV (by omega) (by omega)]
   rfl
 |t::a::st,n+1,hx,hl,hn=>by
  have ht:=hx t (by simp)
  have ha:=hx a (by simp)
  have hlen:((t::a::st).reverse.length:Int)=st.length+2:=by simp only [List.length_reverse,List.length_cons];omega
  simp only [List.length_cons] at hl hn
  have w1:AJ ((st.length:Int)+2 - 2)=st.length:=by rw [CV (by omega) (by omega)];omega
  have w2:AJ ((st.length:Int)+2 - 1)=((st.length+1:Nat):Int):=by rw [CV (by omega) (by omega)];omega
  have Dw:(t::a::st).reverse.getD st.length 0=a:=by simp [List.getD_eq_getElem?_getD]
  have gt:(t::a::st).reverse.getD (st.length+1) 0=t:=by simp [List.getD_eq_getElem?_getD]
  rw [f70.l4,f70.Hj,hlen,w1,w2,Int.toNat_natCast,Int.toNat_natCast,Dw,gt]
  rw [if_pos (by omega),if_pos (by omega),if_pos (by omega),if_pos ha.1,if_pos ha.2,if_pos (by omega),if_pos (by omega),if_pos ht.1,if_pos ht.2,if_pos (by omega),if_pos (by omega)]
  have e:∀i:Int,((ps.getD i.toNat (0,0)).1,(ps.getD i.toNat (0,0)).2)=EZ ps i:=λ i=>rfl
  rw [e,e,e,M8 (G9 ho _) (G9 ho _) (G9 ho _),Option.bind_some]
  simp only [f70.r9,f70.Km]
  have sp:=Qu hs ho a t i
  rw [hlen,w2,Int.toNat_natCast]
  rw [Hr]
  by_cases g:EP (GY s ps a) (GY s ps t) (GY s ps i) <0
  ·rw [if_pos (decide_eq_true (sp.2 g)),if_pos (by omega),if_pos (by omega),if_pos g]
   have tk:(t::a::st).reverse.take (st.length+1)=(a::st).reverse:=by
    rw [List.reverse_cons,List.take_append_of_le_length (by simp)]
    exact List.take_of_length_le (by simp)
   rw [tk]
   exact Ql ho h2 hs F7 m FH Fq HV i hi (a::st) n (λ x hx'=>hx x (List.mem_cons_of_mem _ hx')) (by simp;omega) (by simp;omega)
  ·rw [if_neg (by rw [decide_eq_true_iff];exact λ z=>g (sp.1 z)),if_pos (by simp;omega),if_neg g,CV (by omega) (by omega)]
   rw [List.reverse_cons (a:=(i:Int))]
   rfl
theorem N1 {sk:f70.E1} (hk:1000<=k) (ho:∀q∈ps,FJ q) (h2:ps.length<=200) {s:Int} (hs:s=1\/s= -1) (F7:List Int) (m:List ((Int×Int)×Bool)) (FH:Int) (Fq:Nat) (h12:Fq <10):∀(d i n:Nat),i+d=ps.length->d <n->
 f70.l2 k sk n F7 (Ge (GY s ps) i).reverse m ps FH (Fq:Int) (ps.length:Int) (i:Int) s=sk F7 ((Iz (Ge (GY s ps) ps.length).reverse ((Ge (GY s ps) ps.length).length - 1) 1).foldl (Lq s) m) ps FH ((Fq+1:Nat):Int)
 | 0,i,n+1,hd,hn=>by
   have:i=ps.length:=by omega
   subst this
   have hl:=Kc (P:=GY s ps) ps.length
   rw [f70.l2,f70.FG,if_neg (by omega)]
   have:=Qm (k:=k) (ps:=ps) (sk:=sk) F7 (Ge (GY s ps) ps.length).reverse (by simp;omega) FH Fq h12 s ((Ge (GY s ps) ps.length).length - 1) 1 k m (by simp;omega) (by omega) (by omega) (by omega)
   exact this
 |d+1,i,n+1,hd,hn=>by
  have hl:=Kc (P:=GY s ps) i
  rw [f70.l2,f70.FG,if_pos (by omega)]
  rw [Ql ho h2 hs F7 m FH _ _ i (by omega) (Ge (GY s ps) i) k (λ x hx=>by have:=Mz hx;omega) (by omega) (by omega)]
  exact N1 hk ho h2 hs F7 m FH Fq h12 d (i+1) n (by omega) (by omega)
def N0 (ps:List (Int×Int)):List ((Int×Int)×Bool):=
 let E:=λ s=>Iz (Ge (GY s ps) ps.length).reverse ((Ge (GY s ps) ps.length).length - 1) 1
 (E (-1)).foldl (Lq (-1)) ((E 1).foldl (Lq 1) [])
theorem Te (hk:1000<=k) (ho:∀q∈ps,FJ q) (h2:ps.length<=200):f70 k ps=some ((N0 ps,()),()):=by
 simp only [f70,f70.ES]
 obtain ⟨k,rfl⟩:∃m,k=m+4:=⟨k - 4,by omega⟩
 have a:=λ sk m=>N1 (k:=k+4) (sk:=sk) hk ho h2 (s:=1) (.inl rfl) [1, -1] m 2 0 (by omega) ps.length 0 (k+4) (by omega) (by omega)
 have b:=λ sk m=>N1 (k:=k+4) (sk:=sk) hk ho h2 (s:= -1) (.inr rfl) [1, -1] m 2 1 (by omega) ps.length 0 (k+4) (by omega) (by omega)
 have c0:∀s,(Ge (GY s ps) 0).reverse=[]:=λ s=>rfl
 simp only [c0] at a b
 show f70.l0 (k+4) (k+3+1) [1, -1] [] ps 2 0=_
 rw [f70.l0,f70.E0,if_pos (by omega),if_pos (by omega),if_pos (by simp)]
 refine (a _ _).trans ?_
 show f70.l0 (k+4) (k+2+1) [1, -1] _ ps 2 1=_
 rw [f70.l0,f70.E0,if_pos (by omega),if_pos (by omega),if_pos (by simp)]
 refine (b _ _).trans ?_
 show f70.l0 (k+4) (k+1+1) [1, -1] _ ps 2 2=_
 rw [f70.l0,f70.E0,if_neg (by omega)]
 rfl
theorem Qn (ho:∀q∈ps,FJ q) (hs:IK ps) (h1:1<=ps.length) (e:Int×Int):(dA q7 (N0 ps) e).getD false=true↔E6 (EZ ps) ps.length e/\e.1≠e.2:=by
 have hr:=KZ ho hs
 have st:∀{P:Int->Int×Int},E2 P 2097153 ps.length->∀e,e∈FF (Ge P ps.length)↔e.1 <e.2/\E6 P ps.length e:=λ {P} hP e=>by
  obtain ⟨n,hn⟩:∃n,ps.length=n+1:=⟨ps.length - 1,by omega⟩
  have:=Ja hP n (by omega)
  rw [hn] at hP ⊢
  simp only [Ge] at this ⊢
  generalize Hr P (n:Int) (Ge P n)=q at this ⊢
  rw [show (n:Int)=((n+1:Nat):Int) - 1 by omega] at this ⊢
  exact GM hP this
 unfold N0
 rw [Lr,Lr,Li,Li]
 have e1:GY 1 ps=EZ ps:=if_pos rfl
 have e2:GY (-1) ps=FP 2097153 (EZ ps):=if_neg (by omega)
 rw [e1,e2,if_pos (by omega),if_neg (by omega),st hr,st (Ga hr),F0]
 simp only [dA,Option.getD_none,Bool.false_eq_true,false_or]
 constructor
 ·rintro (⟨a,b⟩|⟨a,b⟩)
  ·exact ⟨b,by omega⟩
  ·exact ⟨b,by omega⟩
 ·rintro ⟨a,b⟩
  rcases Int.lt_or_gt_of_ne b with g|g
  ·exact .inl ⟨g,a⟩
  ·exact .inr ⟨g,a⟩
end
end Go.Proofs.YtollcjadobpfdaaGreat.Rw
