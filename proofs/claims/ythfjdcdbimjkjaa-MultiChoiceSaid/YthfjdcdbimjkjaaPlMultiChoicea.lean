/- Plain laws for MultiChoice. No condition. -/
import Derived.Test.YthfjdcdbimjkjaaRwMultiChoicea
set_option linter.unusedVariables false
set_option linter.unusedSimpArgs false
set_option linter.unusedSectionVars false
namespace Go.Proofs.Ythfjdcdbimjkjaa.Rw
open Go.Rx
def cut (x:Int):Int:=if x < -1048576 then -1048576 else if 1048576 <x then 1048576 else x
theorem JJ {x:Int} (h1: -1048576<=x) (h2:x<=1048576):cut x=x:=by unfold cut;rw [if_neg (by omega),if_neg (by omega)]
theorem Kd (k:Nat) (x:Int):f159 k x 1048576=some (cut x,()):=by
 have e:uB true (Ar (0 - 1048576)) (uB false x 1048576)=cut x:=by
  rw [CH (by omega) (by omega),BR,BS]
  unfold cut
  repeat' split
  all_goals omega
 simp only [f159,f159.sk,e]
theorem J5 (k:Nat) (p:Int×Int):f118 k p=some ((cut p.1,cut p.2),()):=by
 simp only [f118,f118.sk,Kd,Option.bind_some]
end Go.Proofs.Ythfjdcdbimjkjaa.Rw
namespace Go.Proofs.Ythfjdcdbimjkjaa.Rw
open Go.Rx
abbrev Pt:=Int×Int
abbrev Ed:=Int×(Int×(Int×Int))
abbrev Nt:=List Pt×(List Ed×List Pt)
def zE:Ed:=(0,(0,(0,0)))
def Iv (p:Pt):Prop:=p.1=cut p.1/\p.2=cut p.2
instance (p:Pt):Decidable (Iv p):=by unfold Iv;infer_instance
def Fe:List Pt->List Pt->Int
 |_,[]=>0
 |pre,p::l=>if Iv p then (if p∈pre then 5 else Fe (pre++[p]) l) else 1
def Cp (i:Int) (n:Nat):Prop:=0<=i/\i <(n:Int)
instance (i:Int) (n:Nat):Decidable (Cp i n):=by unfold Cp;infer_instance
def Ga (n:Nat) (e:Ed):Prop:=¬Cp e.1 n\/ ¬Cp e.2.1 n\/e.2.2.1 <0\/1099511627776 <e.2.2.1
instance (n:Nat) (e:Ed):Decidable (Ga n e):=by unfold Ga;infer_instance
def FH (n:Nat):List Ed->Int
 | []=>0
 |e::l=>if Ga n e then 1 else if e.1=e.2.1 then 11 else FH n l
def DX (E:List Ed) (i:Int):Int:=(E.getD i.toNat zE).1
def D8 (E:List Ed) (i:Int):Int:=(E.getD i.toNat zE).2.1
def DG (E:List Ed) (i:Int):Int:=(E.getD i.toNat zE).2.2.1
def Fz (E:List Ed):List Pt->List Pt->Int
 |_,[]=>0
 |pre,b::l=>if Cp b.1 E.length/\Cp b.2 E.length then (if D8 E b.1=DX E b.2 then (if b∈pre then 5 else Fz E (pre++[b]) l) else 9) else 1
def Fm (n:Nt):Int:=if 200 <(n.1.length:Int)\/600 <(n.2.1.length:Int)\/600 <(n.2.2.length:Int) then 2 else if Fe [] n.1=0 then (if FH n.1.length n.2.1=0 then Fz n.2.1 [] n.2.2 else FH n.1.length n.2.1) else Fe [] n.1
theorem HE (a b:Int):∀(l pre:List (Int×Int)),((pre++l).length:Int)<=1000000->(a,b)∉pre->
 ∃r:Int,gb (λ k n=>f127.l0 k n a b (pre++l) ((pre++l).length:Int) (pre.length:Int)) (r,())/\(0<=r↔(a,b)∈pre++l)
 | [],pre,hl,hn=>⟨-1,gb.step (g:=λ _ _=>some (-1,())) (λ k n=>by rw [f127.l0,f127.u0,if_neg (by simp)]) (gb.pure _),by simpa using hn⟩
 |x::l,pre,hl,hn=>by
  have h0:(0:Int)<=(pre.length:Int):=by omega
  have h1:(pre.length:Int) <((pre++x::l).length:Int):=by simp;omega
  have hw:Ar ((pre.length:Int)+1)=(((pre++[x]).length:Nat):Int):=by
   rw [CH (by omega) (by simp at hl;omega)];simp
  by_cases hx:a=x.1/\b=x.2
  ·refine ⟨(pre.length:Int),gb.step (g:=λ _ _=>some ((pre.length:Int),())) (λ k n=>by rw [f127.l0,f127.u0,if_pos h1,if_pos h0,if_pos h1,Bp,if_pos hx]) (gb.pure _),⟨λ _=> ?_,λ _=>h0⟩⟩
   rw [show (a,b)=x by ext<;>simp [hx.1,hx.2]]
   simp
  ·have hne:(a,b)≠x:=λ z=>hx ⟨by rw [<-z],by rw [<-z]⟩
   obtain ⟨r,k1,k2⟩:=HE a b l (pre++[x]) (by simpa using hl) (by simp [hn,hne])
   rw [show pre++[x]++l=pre++x::l by simp] at k1 k2
   refine ⟨r,gb.step (λ k n=> ?_) k1,k2⟩
   rw [f127.l0,f127.u0,if_pos h1,if_pos h0,if_pos h1,Bp,if_neg hx,hw]
theorem Ho (l:List (Int×Int)) (p:Int×Int) (hl:l.length<=1000000):Ev (λ k=>f126 k l p) (decide (p∈l),()):=by
 obtain ⟨r,k1,k2⟩:=HE p.1 p.2 l [] (by simp;omega) (by simp)
 have k2:0<=r↔p∈l:=k2
 have h:Ev (λ k=>f127 k l (p.1,p.2)) (r,()):=k1.diag
 simp only [f126,f126.sk]
 refine h.bind ?_
 rw [show decide (p∈l)=decide (0<=r) from decide_eq_decide.2 k2.symm]
 exact Ev.pure _
theorem HD (a b:Int):∀(l pre:List (Int×Int)),((pre++l).length:Int)<=1000000->(a,b)∉pre->
 ∃r:Int,gb (λ k n=>f153.l0 k n a b (pre++l) ((pre++l).length:Int) (pre.length:Int)) (r,())/\(0<=r↔(a,b)∈pre++l)
 | [],pre,hl,hn=>⟨-1,gb.step (g:=λ _ _=>some (-1,())) (λ k n=>by rw [f153.l0,f153.u0,if_neg (by simp)]) (gb.pure _),by simpa using hn⟩
 |x::l,pre,hl,hn=>by
  have h0:(0:Int)<=(pre.length:Int):=by omega
  have h1:(pre.length:Int) <((pre++x::l).length:Int):=by simp;omega
  have hw:Ar ((pre.length:Int)+1)=(((pre++[x]).length:Nat):Int):=by
   rw [CH (by omega) (by simp at hl;omega)];simp
  by_cases hx:a=x.1/\b=x.2
  ·refine ⟨(pre.length:Int),gb.step (g:=λ _ _=>some ((pre.length:Int),())) (λ k n=>by rw [f153.l0,f153.u0,if_pos h1,if_pos h0,if_pos h1,Bp,if_pos hx]) (gb.pure _),⟨λ _=> ?_,λ _=>h0⟩⟩
   rw [show (a,b)=x by ext<;>simp [hx.1,hx.2]]
   simp
  ·have hne:(a,b)≠x:=λ z=>hx ⟨by rw [<-z],by rw [<-z]⟩
   obtain ⟨r,k1,k2⟩:=HD a b l (pre++[x]) (by simpa using hl) (by simp [hn,hne])
   rw [show pre++[x]++l=pre++x::l by simp] at k1 k2
   refine ⟨r,gb.step (λ k n=> ?_) k1,k2⟩
   rw [f153.l0,f153.u0,if_pos h1,if_pos h0,if_pos h1,Bp,if_neg hx,hw]
theorem Gp (l:List (Int×Int)) (p:Int×Int) (hl:l.length<=1000000):Ev (λ k=>f105 k l p) (decide (p∈l),()):=by
 obtain ⟨r,k1,k2⟩:=HD p.1 p.2 l [] (by simp;omega) (by simp)
 have k2:0<=r↔p∈l:=k2
 have h:Ev (λ k=>f153 k l (p.1,p.2)) (r,()):=k1.diag
 simp only [f105,f105.sk]
 refine h.bind ?_
 rw [show decide (p∈l)=decide (0<=r) from decide_eq_decide.2 k2.symm]
 exact Ev.pure _
theorem ok_eq (k:Nat) (p:Pt):f137 k p=some (decide (Iv p),()):=by
 simp only [f137,f137.sk,J5,Option.bind_some]
 rfl
theorem node_eq (k:Nat) (N:List Pt) (E:List Ed) (B:List Pt) (i:Int):f138 k (N,(E,B)) i=some (decide (Cp i N.length),()):=by
 simp only [f138,f138.sk,f138.r1,f138.DZ,Cp]
 by_cases h:0<=i<;>simp [h]
theorem EM (k:Nat) (N:List Pt) (E:List Ed) (B:List Pt) (i:Int):f91 k (N,(E,B)) i=some (decide (Cp i E.length),()):=by
 simp only [f91,f91.sk,f91.r1,f91.DZ,Cp]
 by_cases h:0<=i<;>simp [h]
theorem H9 (N:List Pt) (E:List Ed) (B:List Pt) (hB:B.length<=600):∀(l pre:List Pt),pre++l=B->
 gb (λ k n=>f71.l4 k n N E B (B.length:Int) (pre.length:Int)) (Fz E pre l,())
 | [],pre,A2=>by
   subst A2
   exact gb.step (g:=λ _ _=>some (0,())) (λ k n=>by rw [f71.l4,f71.Es,if_neg (by simp)]) (gb.pure _)
 |b::l,pre,A2=>by
  have ih:=H9 N E B hB l (pre++[b]) (by simp [<-A2])
  have h0:(0:Int)<=(pre.length:Int):=by omega
  have h1:(pre.length:Int) <(B.length:Int):=by rw [<-A2];simp;omega
  have h1':(pre.length:Int)<=(B.length:Int):=by omega
  have hg:B.getD ((pre.length:Int)).toNat (0,0)=b:=by rw [<-A2];exact Bp
  have ht:B.take ((pre.length:Int)).toNat=pre:=by rw [<-A2];simp
  have hpre:pre.length<=600:=by rw [<-A2] at hB;simp at hB;omega
  have hw:Ar ((pre.length:Int)+1)=(((pre++[b]).length:Nat):Int):=by
   rw [CH (by omega) (by omega)];simp
  by_cases c1:Cp b.1 E.length
  ·by_cases c2:Cp b.2 E.length
   ·have d1:=c1;have d2:=c2
    unfold Cp at d1 d2
    by_cases c3:D8 E b.1=DX E b.2
    ·have F8:(E.getD b.1.toNat (0,(0,(0,0)))).2.1=(E.getD b.2.toNat (0,(0,(0,0)))).1:=c3
     refine gb.step (g:=λ k n=>(f105 k pre b).bind λ r1=>if r1.1=true then some (5,()) else f71.l4 k n N E B (B.length:Int) (((pre++[b]).length:Nat):Int)) (λ k n=> ?_) ((Gp pre b (by omega)).CO ?_)
     ·rw [f71.l4,f71.Es,if_pos h1,if_pos h0,if_pos h1,hg]
      simp only [EM,Option.bind_some,decide_eq_true c1,decide_eq_true c2,not_true_eq_false,if_false,decide_false,f71.IW,f71.Gs,Bool.false_eq_true,if_pos d1.1,if_pos d1.2,if_pos d2.1,if_pos d2.2,if_pos F8,F8,if_pos h0,if_pos h1',ht,hw]
     ·simp only [Fz]
      rw [if_pos ⟨c1,c2⟩,if_pos c3]
      by_cases c4:b∈pre
      ·simp only [decide_eq_true c4,if_true,if_pos c4];exact gb.pure _
      ·simp only [decide_eq_false c4,Bool.false_eq_true,if_false,if_neg c4];exact ih
    ·have F8: ¬(E.getD b.1.toNat (0,(0,(0,0)))).2.1=(E.getD b.2.toNat (0,(0,(0,0)))).1:=c3
     refine gb.step (g:=λ _ _=>some (9,())) (λ k n=> ?_) (by simp only [Fz];rw [if_pos ⟨c1,c2⟩,if_neg c3];exact gb.pure _)
     rw [f71.l4,f71.Es,if_pos h1,if_pos h0,if_pos h1,hg]
     simp only [EM,Option.bind_some,decide_eq_true c1,decide_eq_true c2,not_true_eq_false,if_false,decide_false,f71.IW,f71.Gs,Bool.false_eq_true,if_pos d1.1,if_pos d1.2,if_pos d2.1,if_pos d2.2]
     rw [if_pos F8]
   ·refine gb.step (g:=λ _ _=>some (1,())) (λ k n=> ?_) (by simp only [Fz];rw [if_neg (λ z=>c2 z.2)];exact gb.pure _)
    rw [f71.l4,f71.Es,if_pos h1,if_pos h0,if_pos h1,hg]
    simp only [EM,Option.bind_some,decide_eq_true c1,decide_eq_false c2,not_true_eq_false,if_false,decide_true,f71.IW,f71.Gs,Bool.false_eq_true,not_false_eq_true,if_true]
  ·refine gb.step (g:=λ _ _=>some (1,())) (λ k n=> ?_) (by simp only [Fz];rw [if_neg (λ z=>c1 z.1)];exact gb.pure _)
   rw [f71.l4,f71.Es,if_pos h1,if_pos h0,if_pos h1,hg]
   simp only [EM,Option.bind_some,decide_eq_false c1,Bool.false_eq_true,not_false_eq_true,if_true,f71.IW,f71.Gs]
theorem Hz (N:List Pt) (E:List Ed) (B:List Pt) (hE:E.length<=600) {res:Int×Unit} (hB:Ev (λ k=>f71.l4 k k N E B (B.length:Int) 0) res):∀(l pre:List Ed),pre++l=E->
 gb (λ k n=>f71.l2 k n N E B (E.length:Int) (pre.length:Int)) (if FH N.length l=0 then res else (FH N.length l,()))
 | [],pre,A2=>by
   subst A2
   exact gb.step (λ k n=>by rw [f71.l2,f71.Dl,if_neg (by simp)]) (by simpa [FH] using hB.two)
 |e::l,pre,A2=>by
  have ih:=Hz N E B hE hB l (pre++[e]) (by simp [<-A2])
  have h0:(0:Int)<=(pre.length:Int):=by omega
  have h1:(pre.length:Int) <(E.length:Int):=by rw [<-A2];simp;omega
  have hg:E.getD ((pre.length:Int)).toNat (0,(0,(0,0)))=e:=by rw [<-A2];exact Bp
  have hw:Ar ((pre.length:Int)+1)=(((pre++[e]).length:Nat):Int):=by
   rw [CH (by omega) (by omega)];simp
  have Nr:∀k n,f71.l2 k (n+1) N E B (E.length:Int) (pre.length:Int)=if Ga N.length e then some (1,()) else if e.1=e.2.1 then some (11,()) else f71.l2 k n N E B (E.length:Int) (((pre++[e]).length:Nat):Int):=λ k n=>by
   rw [f71.l2,f71.Dl,if_pos h1,if_pos h0,if_pos h1,hg]
   simp only [node_eq,Option.bind_some,f71.FI,f71.Fv,hw]
   unfold Ga
   by_cases c1:Cp e.1 N.length<;>by_cases c2:Cp e.2.1 N.length<;>by_cases c3:e.2.2.1 <0<;>by_cases c4:1099511627776 <e.2.2.1<;>simp [c1,c2,c3,c4]
  refine gb.step Nr ?_
  simp only [FH]
  by_cases c1:Ga N.length e
  ·simp only [if_pos c1];exact gb.pure _
  ·simp only [if_neg c1]
   by_cases c2:e.1=e.2.1
   ·simp only [if_pos c2];exact gb.pure _
   ·simp only [if_neg c2];exact ih
theorem HA (N:List Pt) (E:List Ed) (B:List Pt) (hN:N.length<=200) {res:Int×Unit} (hE:Ev (λ k=>f71.l2 k k N E B (E.length:Int) 0) res):∀(l pre:List Pt),pre++l=N->
 gb (λ k n=>f71.l0 k n N E B (N.length:Int) (pre.length:Int)) (if Fe pre l=0 then res else (Fe pre l,()))
 | [],pre,A2=>by
   subst A2
   exact gb.step (λ k n=>by rw [f71.l0,f71.u0,if_neg (by simp)]) (by simpa [Fe] using hE.two)
 |p::l,pre,A2=>by
  have ih:=HA N E B hN hE l (pre++[p]) (by simp [<-A2])
  have h0:(0:Int)<=(pre.length:Int):=by omega
  have h1:(pre.length:Int) <(N.length:Int):=by rw [<-A2];simp;omega
  have h1':(pre.length:Int)<=(N.length:Int):=by omega
  have hg:N.getD ((pre.length:Int)).toNat (0,0)=p:=by rw [<-A2];exact Bp
  have ht:N.take ((pre.length:Int)).toNat=pre:=by rw [<-A2];simp
  have hw:Ar ((pre.length:Int)+1)=(((pre++[p]).length:Nat):Int):=by
   rw [CH (by omega) (by omega)];simp
  simp only [Fe]
  by_cases c1:Iv p
  ·refine gb.step (g:=λ k n=>(f126 k pre p).bind λ r1=>if r1.1=true then some (5,()) else f71.l0 k n N E B (N.length:Int) (((pre++[p]).length:Nat):Int)) (λ k n=> ?_) ((Ho pre p (by omega)).CO ?_)
   ·rw [f71.l0,f71.u0,if_pos h1,if_pos h0,if_pos h1,hg]
    simp only [ok_eq,Option.bind_some,decide_eq_true c1,not_true_eq_false,if_false,if_pos h0,if_pos h1',ht,hw]
   ·simp only [if_pos c1]
    by_cases c4:p∈pre
    ·simp only [decide_eq_true c4,if_true,if_pos c4];exact gb.pure _
    ·simp only [decide_eq_false c4,Bool.false_eq_true,if_false,if_neg c4];exact ih
  ·refine gb.step (g:=λ _ _=>some (1,())) (λ k n=> ?_) (by simp only [if_neg c1];exact gb.pure _)
   rw [f71.l0,f71.u0,if_pos h1,if_pos h0,if_pos h1,hg]
   simp only [ok_eq,Option.bind_some,decide_eq_false c1,Bool.false_eq_true,not_false_eq_true,if_true]
theorem JG (n:Nt):Ev (λ k=>f71 k n) (Fm n,()):=by
 obtain ⟨N,E,B⟩:=n
 unfold Fm
 simp only [f71,f71.sk,f71.r1,f71.DZ]
 by_cases h1:200 <(N.length:Int)
 ·rw [if_pos (.inl h1)];exact Ev.of (λ k=>by rw [if_pos h1];rfl) (Ev.pure _)
 ·by_cases h2:600 <(E.length:Int)
  ·rw [if_pos (.inr (.inl h2))];exact Ev.of (λ k=>by rw [if_neg h1,if_pos h2];rfl) (Ev.pure _)
  ·by_cases h3:600 <(B.length:Int)
   ·rw [if_pos (.inr (.inr h3))];exact Ev.of (λ k=>by rw [if_neg h1,if_neg h2,decide_eq_true h3];rfl) (Ev.pure _)
   ·rw [if_neg (by omega)]
    have kB:=(H9 N E B (by omega) B [] rfl).diag
    have r6:=(Hz N E B (by omega) kB E [] rfl).diag
    have q8:=(HA N E B (by omega) r6 N [] rfl).diag
    have e:(if Fe [] N=0 then (if FH N.length E=0 then (Fz E [] B,()) else (FH N.length E,())) else (Fe [] N,()):Int×Unit)=(if Fe [] N=0 then (if FH N.length E=0 then Fz E [] B else FH N.length E) else Fe [] N,()):=by
     repeat' split
     all_goals rfl
    rw [e] at q8
    exact Ev.of (λ k=>by rw [if_neg h1,if_neg h2,decide_eq_false h3];rfl) q8
theorem Ke {n:Nt} (h:Fm n=0):n.1.length<=200/\n.2.1.length<=600/\n.2.2.length<=600:=by
 unfold Fm at h
 split at h
 ·cases h
 ·omega
end Go.Proofs.Ythfjdcdbimjkjaa.Rw
namespace Go.Proofs.Ythfjdcdbimjkjaa.Rw
open Go.Rx
def DY (u:Int):Nat->List Ed->List Int
 |_,[]=>[]
 |i,e::l=>if e.1=u then (i:Int)::DY u (i+1) l else DY u (i+1) l
theorem GF (u:Int):∀(l:List Ed) (i:Nat),(DY u i l).length<=l.length
 | [],i=>by simp [DY]
 |e::l,i=>by
  have:=GF u l (i+1)
  simp only [DY]
  split<;>simp<;>omega
theorem Ix (u:Int):∀(l:List Ed) (i:Nat) (k:Int),k∈DY u i l↔(i:Int)<=k/\k <(i:Int)+(l.length:Int)/\(l.getD (k - i).toNat zE).1=u
 | [],i,k=>by simp only [DY,List.length_nil];exact ⟨λ h=>(by cases h),λ ⟨h1,h2,_⟩=>(by omega)⟩
 |e::l,i,k=>by
  have ih:=Ix u l (i+1) k
  have key:(i:Int)+1<=k->(e::l).getD (k - i).toNat zE=l.getD (k - ((i+1:Nat):Int)).toNat zE:=λ h=>by
   rw [show (k - (i:Int)).toNat=(k - ((i+1:Nat):Int)).toNat+1 by omega];rfl
  have h0:(e::l).getD ((i:Int) - i).toNat zE=e:=by rw [show ((i:Int) - i).toNat=0 by omega];rfl
  have hlen:((e::l).length:Int)=(l.length:Int)+1:=by simp
  simp only [DY]
  split
  ·rename_i c
   simp only [List.mem_cons,ih]
   constructor
   ·rintro (rfl|⟨h1,h2,h3⟩)
    ·exact ⟨by omega,by omega,by rw [h0];exact c⟩
    ·exact ⟨by omega,by omega,by rw [key (by omega)];exact h3⟩
   ·rintro ⟨h1,h2,h3⟩
    by_cases g:k=(i:Int)
    ·exact .inl g
    ·exact .inr ⟨by omega,by omega,by rw [<-key (by omega)];exact h3⟩
  ·rename_i c
   rw [ih]
   constructor
   ·rintro ⟨h1,h2,h3⟩
    exact ⟨by omega,by omega,by rw [key (by omega)];exact h3⟩
   ·rintro ⟨h1,h2,h3⟩
    by_cases g:k=(i:Int)
    ·subst g;rw [h0] at h3;exact (c h3).elim
    ·exact ⟨by omega,by omega,by rw [<-key (by omega)];exact h3⟩
theorem Iw {E:List Ed} {u k:Int}:k∈DY u 0 E↔Cp k E.length/\DX E k=u:=by
 rw [Ix];unfold Cp DX
 rw [show ((0:Nat):Int)=0 from rfl,Int.zero_add,Int.sub_zero,and_assoc]
end Go.Proofs.Ythfjdcdbimjkjaa.Rw
namespace Go.Proofs.Ythfjdcdbimjkjaa.Rw
open Go.Rx
theorem Gi (E:List Ed) (u:Int) (hE:E.length<=600):∀(l pre:List Ed) (ks:List Int),pre++l=E->ks.length<=pre.length->gb (λ k n=>f73.l0 k n ks u (E.length:Int) (pre.length:Int) E) (ks++DY u pre.length l,())
 | [],pre,ks,A2,hk=>by
   have e:pre=E:=by simpa using A2
   subst e
   exact gb.step (g:=λ _ _=>some (ks,())) (λ k n=>by rw [f73.l0,f73.u0,if_neg (by simp)]) (by simpa [DY] using gb.pure _)
 |e::l,pre,ks,A2,hk=>by
  have i0:(0:Int)<=(pre.length:Int):=by omega
  have i1:(pre.length:Int) <(E.length:Int):=by rw [<-A2];simp;omega
  have hg:E.getD ((pre.length:Int)).toNat (0,(0,(0,0)))=e:=by rw [<-A2];exact Bp
  have hw:Ar ((pre.length:Int)+1)=(((pre++[e]).length:Nat):Int):=by
   rw [CH (by omega) (by omega)];simp
  have Ij:(pre++[e])++l=E:=by simp [<-A2]
  have hlen:(pre++[e]).length=pre.length+1:=by simp
  by_cases c:e.1=u
  ·have ih:=Gi E u hE l (pre++[e]) (ks++[(pre.length:Int)]) Ij (by simp;exact hk)
   rw [hlen] at ih
   simp only [DY,if_pos c]
   rw [show ks++[(pre.length:Int)]++DY u (pre.length+1) l=ks++((pre.length:Int)::DY u (pre.length+1) l) by simp] at ih
   refine gb.step (λ k n=> ?_) ih
   rw [f73.l0,f73.u0,if_pos i1,if_pos i0,if_pos i1,hg,if_pos c,if_pos (by omega),f73.mm,f73.E1,hw,hlen]
  ·have ih:=Gi E u hE l (pre++[e]) ks Ij (by simp;omega)
   rw [hlen] at ih
   simp only [DY,if_neg c]
   refine gb.step (λ k n=> ?_) ih
   rw [f73.l0,f73.u0,if_pos i1,if_pos i0,if_pos i1,hg,if_neg c,f73.mm,f73.E1,hw,hlen]
theorem KW (N:List Pt) (E:List Ed) (B:List Pt) (u:Int) (hE:E.length<=600):Ev (λ k=>f73 k (N,(E,B)) u) (DY u 0 E,()):=by
 have h:=(Gi E u hE E [] [] rfl (by simp)).diag
 simp only [f73,f73.sk]
 simpa using h
end Go.Proofs.Ythfjdcdbimjkjaa.Rw
namespace Go.Proofs.Ythfjdcdbimjkjaa.Rw
open Go.Rx
theorem HH {α:Type} {p m:List α} {q z:α}:((p.concat q)++m).getD ((p.length:Int)).toNat z=q:=by simp
end Go.Proofs.Ythfjdcdbimjkjaa.Rw
namespace Go.Proofs.Ythfjdcdbimjkjaa.Rw
open Go.Rx
def HS (E:List Ed) (B:List Pt) (a b:Int):Bool:=decide (Cp a E.length/\Cp b E.length/\D8 E a=DX E b/\(a,b)∉B)
theorem KX (N:List Pt) (E:List Ed) (B:List Pt) (hB:B.length<=1000000) (a b:Int):Ev (λ k=>f92 k (N,(E,B)) a b) (HS E B a b,()):=by
 simp only [f92,f92.sk,EM,Option.bind_some,f92.r1,f92.DZ,HS]
 by_cases c1:Cp a E.length
 ·by_cases c2:Cp b E.length
  ·have d1:=c1;have d2:=c2
   unfold Cp at d1 d2
   simp only [c1,c2,decide_true,if_true,if_pos d1.1,if_pos d1.2,if_pos d2.1,if_pos d2.2,true_and]
   by_cases c3:D8 E a=DX E b
   ·have F8:(E.getD a.toNat (0,(0,(0,0)))).2.1=(E.getD b.toNat (0,(0,(0,0)))).1:=c3
    simp only [if_pos F8]
    refine (Gp B (a,b) hB).bind ?_
    by_cases c4:(a,b)∈B
    ·simp only [c3,c4,decide_true,not_true_eq_false,decide_false,true_and,Bool.false_eq_true];exact Ev.pure _
    ·simp only [c3,c4,decide_false,Bool.false_eq_true,not_false_eq_true,decide_true,true_and];exact Ev.pure _
   ·have F8: ¬(E.getD a.toNat (0,(0,(0,0)))).2.1=(E.getD b.toNat (0,(0,(0,0)))).1:=c3
    simp only [if_neg F8,c3,false_and,decide_false,Bool.false_eq_true]
    exact Ev.pure _
  ·simp only [c1,c2,decide_true,decide_false,if_true,Bool.false_eq_true,if_false,false_and,and_false]
   exact Ev.pure _
 ·simp only [c1,decide_false,Bool.false_eq_true,if_false,false_and]
  exact Ev.pure _
end Go.Proofs.Ythfjdcdbimjkjaa.Rw
namespace Go.Proofs.Ythfjdcdbimjkjaa.Rw
open Go.Rx
def Fq (E:List Ed) (B:List Pt):Option Int->Int->List Int->Int×Int×Unit
 |_,s,[]=>(s,0,())
 |p,s,x::w=>if Cp x E.length then (match p with
  |none=>Fq E B (some x) (Ar (s+DG E x)) w
  |some y=>if D8 E y=DX E x then (if (y,x)∈B then (0,19,()) else Fq E B (some x) (Ar (s+DG E x)) w) else (0,9,())) else (0,1,())
theorem HF (N:List Pt) (E:List Ed) (B:List Pt) (hB:B.length<=1000000):∀(w pre:List Int) (s:Int),((pre++w).length:Int)<=9000000000000000000->(∀y,pre.getLast?=some y->Cp y E.length)->
 gb (λ k n=>f32.l0 k n N E B (pre++w) ((pre++w).length:Int) (pre.length:Int) s) (Fq E B pre.getLast? s w)
 | [],pre,s,hl,hv=>gb.step (g:=λ _ _=>some (s,0,())) (λ k n=>by rw [f32.l0,f32.u0,if_neg (by simp)]) (gb.pure _)
 |x::w,pre,s,hl,hv=>by
  have h0:(0:Int)<=(pre.length:Int):=by omega
  have h1:(pre.length:Int) <((pre++x::w).length:Int):=by simp;omega
  have hw:Ar ((pre.length:Int)+1)=(((pre++[x]).length:Nat):Int):=by
   rw [CH (by omega) (by simp at hl;omega)];simp
  simp only [Fq]
  by_cases c1:Cp x E.length
  ·have d1:=c1
   unfold Cp at d1
   have ih:=HF N E B hB w (pre++[x]) (Ar (s+DG E x)) (by simpa using hl) (λ y hy=>by simp at hy;subst hy;exact c1)
   rw [show pre++[x]++w=pre++x::w by simp,show (pre++[x]).getLast?=some x by simp] at ih
   rw [if_pos c1]
   rcases List.eq_nil_or_concat pre with rfl|⟨p,y,rfl⟩
   ·refine gb.step (λ k n=> ?_) ih
    rw [f32.l0,f32.u0,if_pos h1,if_pos h0,if_pos h1,Bp]
    simp only [EM,Option.bind_some,c1,decide_true,not_true_eq_false,if_false,List.length_nil,Int.ofNat_zero,Int.lt_irrefl,f32.F9,f32.ET,f32.JN,f32.G7,Bool.false_eq_true,if_pos d1.1,if_pos d1.2]
    rfl
   ·have hy:=hv y (by simp)
    have q6:=hy
    unfold Cp at q6
    have e1:(((p.concat y).length:Nat):Int)=(p.length:Int)+1:=by simp
    have e2:Ar ((((p.concat y).length:Nat):Int) - 1)=(p.length:Int):=by rw [e1,CH (by omega) (by simp at hl;omega)];omega
    have e5:(0:Int) <((p.concat y).length:Int):=by rw [e1];omega
    have e6:(p.length:Int) <((p.concat y++x::w).length:Int):=by simp;omega
    have q7:(0:Int)<=(p.length:Int):=by omega
    have e9:(p.concat y).getLast?=some y:=by simp
    rw [e9]
    simp only
    by_cases c3:D8 E y=DX E x
    ·have F8:(E.getD y.toNat (0,(0,(0,0)))).2.1=(E.getD x.toNat (0,(0,(0,0)))).1:=c3
     rw [if_pos c3]
     refine gb.step (g:=λ k n=>(f92 k (N,(E,B)) y x).bind λ r1=>if r1.1=true then f32.l0 k n N E B (p.concat y++x::w) ((p.concat y++x::w).length:Int) (((p.concat y++[x]).length:Nat):Int) (Ar (s+DG E x)) else some (0,19,())) (λ k n=> ?_) ((KX N E B hB y x).CO ?_)
     ·rw [f32.l0,f32.u0,if_pos h1,if_pos h0,if_pos h1,Bp]
      simp only [EM,Option.bind_some,c1,decide_true,not_true_eq_false,if_false,if_pos e5,e2,if_pos e6,if_pos q7,HH,if_pos q6.1,if_pos q6.2,if_pos d1.1,if_pos d1.2,F8,decide_false,f32.F9,f32.ET,Bool.false_eq_true,hw]
      congr 1
      funext r1
      by_cases g:r1.1=true
      ·simp only [g,not_true_eq_false,decide_false,f32.JN,f32.G7,Bool.false_eq_true,if_false,if_pos d1.1,if_pos d1.2,if_true,hw]
       rfl
      ·simp only [g,Bool.false_eq_true,not_false_eq_true,decide_true,f32.JN,f32.G7,if_true,if_false]
     ·by_cases c4:(y,x)∈B
      ·simp only [HS,hy,c1,c3,c4,not_true_eq_false,and_false,decide_false,Bool.false_eq_true,if_false,if_true];exact gb.pure _
      ·simp only [HS,hy,c1,c3,c4,not_false_eq_true,and_self,decide_true,if_true,if_false];exact ih
    ·have F8: ¬(E.getD y.toNat (0,(0,(0,0)))).2.1=(E.getD x.toNat (0,(0,(0,0)))).1:=c3
     rw [if_neg c3]
     refine gb.step (g:=λ _ _=>some (0,9,())) (λ k n=> ?_) (gb.pure _)
     rw [f32.l0,f32.u0,if_pos h1,if_pos h0,if_pos h1,Bp]
     simp only [EM,Option.bind_some,c1,decide_true,not_true_eq_false,if_false,if_pos e5,e2,if_pos e6,if_pos q7,HH,if_pos q6.1,if_pos q6.2,if_pos d1.1,if_pos d1.2,F8,not_false_eq_true,f32.F9,f32.ET,if_true]
  ·rw [if_neg c1]
   refine gb.step (g:=λ _ _=>some (0,1,())) (λ k n=> ?_) (gb.pure _)
   rw [f32.l0,f32.u0,if_pos h1,if_pos h0,if_pos h1,Bp]
   simp only [EM,Option.bind_some,c1,decide_false,Bool.false_eq_true,not_false_eq_true,if_true]
def I4 (n:Nt) (way:List Int):Int×Int×Unit:=if Fm n=0 then Fq n.2.1 n.2.2 none 0 way else (0,Fm n,())
theorem KU (n:Nt) (way:List Int) (I6:(way.length:Int)<=9000000000000000000):Ev (λ k=>f32 k n way) (I4 n way):=by
 obtain ⟨N,E,B⟩:=n
 simp only [f32,f32.sk]
 refine (JG (N,(E,B))).bind ?_
 unfold I4
 by_cases h:Fm (N,(E,B))=0
 ·have hl:=Ke h
  simp only [h,not_true_eq_false,if_false,if_true]
  exact (HF N E B (by have:B.length<=600:=hl.2.2;omega) way [] 0 (by simpa using I6) (λ y hy=>by cases hy)).diag
 ·simp only [h,not_false_eq_true,if_true,if_false]
  exact Ev.pure _
end Go.Proofs.Ythfjdcdbimjkjaa.Rw
namespace Go.Proofs.Ythfjdcdbimjkjaa.Rw
open Go.Rx
theorem _root_.Go.Rx.qI.Eo {α:Type} {f g:Nat->Nat->Nat->Option α} {r:α} (K:Nat) (h:∀k n m,K<=k->f k n (m+1)=g k n m) (hg:qI g r):qI f r:=by
 obtain ⟨K',hK⟩:=hg
 refine ⟨max K K'+1,λ k n m hk hn hm=> ?_⟩
 cases m with
 |zero=>omega
 |succ m=>rw [h _ _ _ (by omega)];exact hK k n m (by omega) (by omega) (by omega)
theorem _root_.Go.Rx.gb.Eo {α:Type} {f g:Nat->Nat->Option α} {r:α} (K:Nat) (h:∀k n,K<=k->f k (n+1)=g k n) (hg:gb g r):gb f r:=by
 obtain ⟨K',hK⟩:=hg
 refine ⟨max K K'+1,λ k n hk hn=> ?_⟩
 cases n with
 |zero=>omega
 |succ n=>rw [h _ _ (by omega)];exact hK k n (by omega) (by omega)
end Go.Proofs.Ythfjdcdbimjkjaa.Rw
namespace Go.Proofs.Ythfjdcdbimjkjaa.Rw
open Go.Rx
def FP:List Int->List Int->Int
 | [],[]=>0
 | [],_::_=> -1
 |_::_,[]=>1
 |a::l,b::m=>if a <b then -1 else if b <a then 1 else FP l m
theorem MN (k:Nat) (a b:Int):f156 k a b=some (if a <b then -1 else if b <a then 1 else 0,()):=by
 simp only [f156,f156.sk,f193,f193.sk]
 by_cases h1:a <b<;>by_cases h2:b <a<;>simp [h1,h2]
theorem Ic:∀(l m p q:List Int),p.length=q.length->((p++l).length:Int)<=1073741824->gb (λ k n=>f110.l0 k n (p++l) (q++m) ((p++l).length:Int) (p.length:Int)) (FP l m,())
 | [],m,p,q,hpq,hl=>gb.step (g:=λ _ _=>some (FP [] m,())) (λ k n=>by
     rw [f110.l0,f110.u0,if_neg (by simp)]
     cases m with
     |nil=>rw [if_neg (by simp;omega)];rfl
     |cons b m=>rw [if_pos (by simp;omega)];rfl) (gb.pure _)
 |a::l,m,p,q,hpq,hl=>by
  have h0:(p.length:Int) <((p++a::l).length:Int):=by simp;omega
  have h1:(0:Int)<=p.length:=by omega
  have hw:Ar ((p.length:Int)+1)=(((p++[a]).length:Nat):Int):=by
   rw [CH (by omega) (by simp at hl;omega)];simp
  cases m with
  |nil=>
   refine gb.step (g:=λ _ _=>some (1,())) (λ k n=> ?_) (gb.pure _)
   rw [f110.l0,f110.u0,if_pos h0,if_pos h1,if_pos h0,if_pos (by simp;omega)]
  |cons b m=>
   have h2: ¬((q++b::m).length:Int)<=(p.length:Int):=by simp;omega
   have h3:(p.length:Int) <((q++b::m).length:Int):=by simp;omega
   have h4:(q++b::m).getD ((p.length:Int)).toNat 0=b:=by rw [hpq];exact Bp
   refine gb.step (g:=λ k n=>if a <b then some (-1,()) else if b <a then some (1,()) else f110.l0 k n (p++a::l) (q++b::m) ((p++a::l).length:Int) (((p++[a]).length:Nat):Int)) (λ k n=> ?_) ?_
   ·rw [f110.l0,f110.u0,if_pos h0,if_pos h1,if_pos h0,if_neg h2,if_pos h1,if_pos h3,Bp,h4,MN]
    simp only [Option.bind_some,hw]
    by_cases g1:a <b
    ·simp [g1]
    ·by_cases g2:b <a<;>simp [g1,g2]
   ·simp only [FP]
    split
    ·exact gb.pure _
    ·split
     ·exact gb.pure _
     ·have:=Ic l m (p++[a]) (q++[b]) (by simp;omega) (by simpa using hl)
      rw [show p++[a]++l=p++a::l by simp,show q++[b]++m=q++b::m by simp] at this
      exact this
theorem JH (l m:List Int) (hl:(l.length:Int)<=1073741824):Ev (λ k=>f110 k l m) (FP l m,()):=by
 simp only [f110,f110.sk]
 simpa using (Ic l m [] [] rfl (by simpa using hl)).diag
end Go.Proofs.Ythfjdcdbimjkjaa.Rw
namespace Go.Proofs.Ythfjdcdbimjkjaa.Rw
open Go.Rx
def Fk (x n:Int):Int:=if x.tmod n <0 then x.tmod n+n else x.tmod n
theorem HX {x n:Int} (h:1<=n):0<=Fk x n/\Fk x n <n:=by
 have h1:=Int.lt_tmod_of_pos x (show 0 <n by omega)
 have h2:=Int.tmod_lt_of_pos x (show 0 <n by omega)
 unfold Fk
 split<;>omega
theorem HW (k:Nat) (x n:Int) (h:1<=n) (h2:n<=1000000000000):f15 k x n=some (Fk x n,()):=by
 have g1:=Int.lt_tmod_of_pos x (show 0 <n by omega)
 have g2:=Int.tmod_lt_of_pos x (show 0 <n by omega)
 simp only [f15,f15.sk,f15.c3,f15.J3,Fk]
 rw [if_pos (by omega)]
 split
 ·rw [CH (by omega) (by omega)]
 ·rfl
def Dv (a:List Int) (n:Int):List Int×Int:=if a.length=0 then (a,0) else (a.drop 1,Fk (a.getD 0 0) n)
theorem Em {a:List Int} {n:Int} (h:1<=n):0<=(Dv a n).2/\(Dv a n).2 <n:=by
 unfold Dv
 split
 ·exact ⟨by simp,by simp;omega⟩
 ·exact HX h
theorem next_eq (k:Nat) (a:List Int) (n:Int) (h:1<=n) (h2:n<=1000000000000):f51 k a n=some ((((Dv a n).1,()),()),((Dv a n).2,())):=by
 have h3: ¬n <1:=by omega
 simp only [f51,f51.sk,f51.r1,f51.DZ,Dv]
 by_cases h0:a.length=0
 ·simp [h0]
 ·rw [if_neg (by omega),decide_eq_false h3,if_neg (by simp),if_pos (by omega),if_pos (by omega),HW k _ n h h2,if_neg h0]
  rfl
end Go.Proofs.Ythfjdcdbimjkjaa.Rw
namespace Go.Proofs.Ythfjdcdbimjkjaa.Rw
open Go.Rx
def Ia (p q:Pt):Int:=if p.1=q.1 then Ar (p.2 - q.2) else Ar (p.1 - q.1)
theorem IT (k:Nat) (p q:Pt):f133 k p q=some (Ia p q,()):=by
 simp only [f133,f133.sk,Ia]
 by_cases h:p.1=q.1<;>simp [h]
theorem swap_perm (y:List Pt) {i j:Nat} (hi:i <y.length) (hj:j <y.length) (z:Pt):((y.set i (y.getD j z)).set j (y.getD i z)).Perm y:=by
 rw [List.getD_eq_getElem?_getD,List.getElem?_eq_getElem hj,List.getD_eq_getElem?_getD,List.getElem?_eq_getElem hi]
 exact List.set_set_perm hi hj
theorem JL {b i:Nat} (hi:(i:Int)<=1000000):∀(j:Nat) (y:List Pt),j<=i->j <y.length->
 ∃y',y'.Perm y/\∀res,gb (λ k n=>f209.l0 k n y' 0 (b:Int) ((i+1:Nat):Int)) res->qI (λ k n m=>f209.l2 k (f209.l0 k n) m y 0 (b:Int) (i:Int) (j:Int)) res
 | 0,y,hji,hj=>by
   have hw:Ar ((i:Int)+1)=((i+1:Nat):Int):=by rw [CH (by omega) (by omega)];omega
   refine ⟨y,List.Perm.refl _,λ res h=>qI.step (λ k n m=> ?_) h.three⟩
   rw [f209.l2,f209.Dl,if_neg (by omega),f209.r4,f209.Iz,if_neg (by simp),hw]
 |j+1,y,hji,hj=>by
  have hw:Ar ((i:Int)+1)=((i+1:Nat):Int):=by rw [CH (by omega) (by omega)];omega
  have hw1:Ar (((j+1:Nat):Int) - 1)=(j:Int):=by rw [CH (by omega) (by omega)];omega
  have c0:(0:Int) <((j+1:Nat):Int):=by omega
  have c1:(0:Int)<=((j+1:Nat):Int):=by omega
  have c2:((j+1:Nat):Int) <(y.length:Int):=by omega
  have c3:(0:Int)<=(j:Int):=by omega
  have c4:(j:Int) <(y.length:Int):=by omega
  by_cases hc:Ia (y.getD (j+1) (0,0)) (y.getD j (0,0)) <0
  ·obtain ⟨y',p1,p2⟩:=JL hi j ((y.set (j+1) (y.getD j (0,0))).set j (y.getD (j+1) (0,0))) (by omega) (by simp;omega)
   refine ⟨y',p1.trans (swap_perm y hj (by omega) (0,0)),λ res h=>qI.step (λ k n m=> ?_) (p2 res h)⟩
   rw [f209.l2,f209.Dl,if_pos c0,if_pos c1,if_pos c2,hw1,if_pos c3,if_pos c4]
   simp only [Int.toNat_natCast,IT,Option.bind_some]
   rw [show decide (Ia (y.getD (j+1) (0,0)) (y.getD j (0,0)) <0)=true from decide_eq_true hc,f209.r4,f209.Iz,if_pos rfl,hw1,if_pos c3,if_pos c4,if_pos c1,if_pos c2,if_pos c1,if_pos c2,if_pos c3,if_pos (by simp only [List.length_set];exact c4)]
   simp only [Int.toNat_natCast]
  ·refine ⟨y,List.Perm.refl _,λ res h=>qI.step (λ k n m=> ?_) h.three⟩
   rw [f209.l2,f209.Dl,if_pos c0,if_pos c1,if_pos c2,hw1,if_pos c3,if_pos c4]
   simp only [Int.toNat_natCast,IT,Option.bind_some]
   rw [show decide (Ia (y.getD (j+1) (0,0)) (y.getD j (0,0)) <0)=false from decide_eq_false hc,f209.r4,f209.Iz,if_neg (by simp),hw]
theorem IU {b:Nat} (hb:b<=1000):∀(d i:Nat) (y:List Pt),b<=i+d->y.length=b->i<=1000->
 ∃y',y'.Perm y/\gb (λ k n=>f209.l0 k n y 0 (b:Int) (i:Int)) ((y',()),())
 | 0,i,y,hd,hl,hi=>⟨y,List.Perm.refl _,gb.step (g:=λ _ _=>some ((y,()),())) (λ k n=>by rw [f209.l0,f209.u0,if_neg (by omega)]) (gb.pure _)⟩
 |d+1,i,y,hd,hl,hi=>by
  by_cases h:i <b
  ·obtain ⟨y1,p1,p2⟩:=JL (b:=b) (i:=i) (by omega) i y (Nat.le_refl _) (by omega)
   obtain ⟨y2,q1,q2⟩:=IU hb d (i+1) y1 (by omega) (p1.length_eq.trans hl) (by omega)
   refine ⟨y2,q1.trans p1,gb.step (λ k n=> ?_) (p2 _ q2).C8⟩
   rw [f209.l0,f209.u0,if_pos (by omega)]
  ·exact ⟨y,List.Perm.refl _,gb.step (g:=λ _ _=>some ((y,()),())) (λ k n=>by rw [f209.l0,f209.u0,if_neg (by omega)]) (gb.pure _)⟩
theorem MU (n:Nat) (h:n<=3):∃r,∀k,f145 k (IntKind.u64.wrap (n:Int))=some (r,()):=by
 match n,h with
 | 0,_=>exact ⟨0,λ k=>by kernel_rfl⟩
 | 1,_=>exact ⟨1,λ k=>by kernel_rfl⟩
 | 2,_=>exact ⟨2,λ k=>by kernel_rfl⟩
 | 3,_=>exact ⟨2,λ k=>by kernel_rfl⟩
theorem Kk (y:List Pt) (h:y.length<=3):∃y',y'.Perm y/\Ev (λ k=>f132 k y ()) ((y',()),()):=by
 obtain ⟨r,hr⟩:=MU y.length h
 obtain ⟨y',p1,p2⟩:=IU (b:=y.length) (by omega) y.length 1 y (by omega) rfl (by omega)
 refine ⟨y',p1, ?_⟩
 simp only [f132,f132.sk,hr,Option.bind_some]
 have hw:Ar ((y.length:Int) - 0)=(y.length:Int):=by rw [CH (by omega) (by omega)];omega
 have hp:Ev (λ k=>f167 k y 0 (y.length:Int) r ()) ((y',()),()):=by
  simp only [f167,f167.sk]
  refine gb.diag (f:=λ k n=>f167.l0 k n y 0 (y.length:Int) r) ?_
  have hi:Ev (λ k=>f209 k y 0 (y.length:Int) ()) ((y',()),()):=by
   simp only [f209,f209.sk]
   exact p2.diag
  refine gb.step (g:=λ k _=>(f209 k y 0 (y.length:Int) ()).bind λ r1=>some ((r1.1.1,()),())) (λ k n=> ?_) (Ev.two (hi.bind (Ev.pure _)))
  rw [f167.l0,f167.u0,hw,if_pos (by omega)]
 exact hp.bind (Ev.pure _)
end Go.Proofs.Ythfjdcdbimjkjaa.Rw
namespace Go.Proofs.Ythfjdcdbimjkjaa.Rw
open Go.Rx
def GH (N:List Pt):Prop:=N.Nodup/\∀q∈N, -100<=q.1/\q.1<=100/\ -100<=q.2/\q.2<=100
def EK (n:Nat) (E:List Ed):Prop:=∀e∈E,Cp e.1 n/\Cp e.2.1 n/\e.1≠e.2.1/\1<=e.2.2.1/\e.2.2.1<=20
def Gn (E:List Ed) (B:List Pt):Prop:=B.Nodup/\∀b∈B,Cp b.1 E.length/\Cp b.2 E.length/\D8 E b.1=DX E b.2
theorem Kg (a:List Int):∃(a':List Int) (p:Pt),(∀k,f131 k a=some (((a',()),()),(p,())))/\ -40<=p.1/\p.1<=40/\ -40<=p.2/\p.2<=40:=by
 have h1:=Em (a:=a) (n:=81) (by omega)
 have h2:=Em (a:=(Dv a 81).1) (n:=81) (by omega)
 refine ⟨(Dv (Dv a 81).1 81).1,((Dv a 81).2 - 40,(Dv (Dv a 81).1 81).2 - 40),λ k=> ?_,by simp only;omega,by simp only;omega,by simp only;omega,by simp only;omega⟩
 simp only [f131,f131.sk,next_eq k _ 81 (by omega) (by omega),Option.bind_some]
 rw [CH (by omega) (by omega),CH (by omega) (by omega)]
theorem He (N:List Pt) (a:List Int) (y:Int) (hN:N.length<=8):∀(d:Nat) (x:Int),(N.filter (λ q=>decide (x<=q.1))).length<=d-> -40<=x->x+d<=60->
 ∃x',x<=x'/\x'<=x+d/\(x',y)∉N/\∀res,gb (λ k n=>f67.l0 k n a (N++[(x',y)])) res->qI (λ k n m=>f67.l2 k (f67.l0 k n) m a N x y) res
 | 0,x,hd,h0,h1=>by
   have hm:(x,y)∉N:=λ h=>by
    have:(x,y)∈N.filter (λ q=>decide (x<=q.1)):=List.mem_filter.2 ⟨h,by simp⟩
    have:=List.length_pos_of_mem this
    omega
   refine ⟨x,by omega,by omega,hm,λ res h=> ?_⟩
   obtain ⟨K,hK⟩:=Ho N (x,y) (by omega)
   refine qI.Eo K (λ k n m hk=> ?_) h.three
   have hk':=hK k hk;simp only at hk'
   rw [f67.l2,f67.Dl,hk',Option.bind_some,if_neg (by simp [hm]),if_pos (by omega)]
 |d+1,x,hd,h0,h1=>by
  obtain ⟨K,hK⟩:=Ho N (x,y) (by omega)
  by_cases hm:(x,y)∈N
  ·have hlt:(N.filter (λ q=>decide (x+1<=q.1))).length <(N.filter (λ q=>decide (x<=q.1))).length:=by
    have hsub:N.filter (λ q=>decide (x+1<=q.1))=(N.filter (λ q=>decide (x<=q.1))).filter (λ q=>decide (x+1<=q.1)):=by
     rw [List.filter_filter]
     refine List.filter_congr λ q _=> ?_
     by_cases g:x+1<=q.1
     ·simp [g];omega
     ·simp [g]
    rw [hsub]
    refine List.length_filter_lt_length_iff_exists.2 ⟨(x,y),List.mem_filter.2 ⟨hm,by simp⟩,by simp;omega⟩
   obtain ⟨x',k1,k2,k3,k4⟩:=He N a y hN d (x+1) (by omega) (by omega) (by omega)
   refine ⟨x',by omega,by omega,k3,λ res h=>qI.Eo K (λ k n m hk=> ?_) (k4 res h)⟩
   have hk':=hK k hk;simp only at hk'
   rw [f67.l2,f67.Dl,hk',Option.bind_some,if_pos (by simp [hm]),CH (by omega) (by omega)]
  ·refine ⟨x,by omega,by omega,hm,λ res h=>qI.Eo K (λ k n m hk=> ?_) h.three⟩
   have hk':=hK k hk;simp only at hk'
   rw [f67.l2,f67.Dl,hk',Option.bind_some,if_neg (by simp [hm]),if_pos (by omega)]
theorem GR:∀(d:Nat) (a:List Int) (N:List Pt),N.length+d=8->GH N->
 ∃(a':List Int) (N':List Pt),GH N'/\2<=N'.length/\N'.length<=8/\∀res,Ev (λ k=>(f51 k a' 17).bind λ r2=>f67.l4 k k r2.1.1.1 N' ([]:List Ed) r2.2.1 0) res->gb (λ k n=>f67.l0 k n a N) res
 | 0,a,N,hl,hN=>by
   have h1:=Em (a:=a) (n:=7) (by omega)
   have hw:Ar (2+(Dv a 7).2)=2+(Dv a 7).2:=CH (by omega) (by omega)
   refine ⟨(Dv a 7).1,N,hN,by omega,by omega,λ res h=>gb.step (λ k n=> ?_) h.two⟩
   rw [f67.l0,f67.u0]
   simp only [next_eq k a 7 (by omega) (by omega),Option.bind_some]
   rw [hw,if_neg (by omega),decide_eq_false (by omega),f67.r3,f67.Hr,if_neg (by simp)]
 |d+1,a,N,hl,hN=>by
  have h1:=Em (a:=a) (n:=7) (by omega)
  have hw:Ar (2+(Dv a 7).2)=2+(Dv a 7).2:=CH (by omega) (by omega)
  by_cases c:(N.length:Int) <2+(Dv a 7).2\/(N.length:Int) <2
  ·obtain ⟨b,p,hp,p1,p2,p3,r8⟩:=Kg (Dv a 7).1
   have hf:(N.filter (λ q=>decide (p.1<=q.1))).length<=8:=by
    have:=List.length_filter_le (λ q=>decide (p.1<=q.1)) N
    omega
   obtain ⟨x',k1,k2,k3,k4⟩:=He N b p.2 (by omega) 8 p.1 hf p1 (by omega)
   have Nf:GH (N++[(x',p.2)]):=by
    refine ⟨List.nodup_append.2 ⟨hN.1,by simp,λ q hq r hr e=> ?_⟩,λ q hq=> ?_⟩
    ·simp only [List.mem_singleton] at hr
     subst hr;subst e;exact k3 hq
    ·rcases List.mem_append.1 hq with hq|hq
     ·exact hN.2 q hq
     ·simp only [List.mem_singleton] at hq
      subst hq;simp only;omega
   obtain ⟨a',N',g1,g2,g3,g4⟩:=GR d b (N++[(x',p.2)]) (by simp;omega) Nf
   refine ⟨a',N',g1,g2,g3,λ res h=>gb.step (λ k n=> ?_) (k4 res (g4 res h)).C8⟩
   rw [f67.l0,f67.u0]
   simp only [next_eq k a 7 (by omega) (by omega),Option.bind_some]
   rw [hw]
   have fin:f67.r3 k (f67.l0 k n) (Dv a 7).1 N true=f67.l2 k (f67.l0 k n) k b N p.1 p.2:=by
    rw [f67.r3,f67.Hr,if_pos rfl,hp k,Option.bind_some]
   by_cases c1:(N.length:Int) <2+(Dv a 7).2
   ·rw [if_pos c1,fin]
   ·rw [if_neg c1,decide_eq_true (by omega),fin]
  ·refine ⟨(Dv a 7).1,N,hN,by omega,by omega,λ res h=>gb.step (λ k n=> ?_) h.two⟩
   rw [f67.l0,f67.u0]
   simp only [next_eq k a 7 (by omega) (by omega),Option.bind_some]
   rw [hw,if_neg (by omega),decide_eq_false (by omega),f67.r3,f67.Hr,if_neg (by simp)]
theorem FY (N:List Pt) (h2:2<=N.length) (h8:N.length<=8) (cnt:Nat) (hc:cnt<=100):∀(d i:Nat) (a:List Int) (E:List Ed),i+d=cnt->E.length<=i->EK N.length E->
 ∃(a':List Int) (E':List Ed),EK N.length E'/\E'.length<=cnt/\∀res,Ev (λ k=>(f51 k a' 4).bind λ r5=>f67.nk k k r5.1.1.1 ([]:List Pt) N E' r5.2.1 0) res->gb (λ k n=>f67.l4 k n a N E (cnt:Int) (i:Int)) res
 | 0,i,a,E,hi,hE,hG=>by
   refine ⟨a,E,hG,by omega,λ res h=>gb.step (λ k n=> ?_) h.two⟩
   rw [f67.l4,f67.Es,if_neg (by omega)]
 |d+1,i,a,E,hi,hE,hG=>by
  have hw:Ar ((i:Int)+1)=((i+1:Nat):Int):=by rw [CH (by omega) (by omega)];omega
  have c1:(i:Int) <(cnt:Int):=by omega
  have l1:=Em (a:=a) (n:=(N.length:Int)) (by omega)
  have l2:=Em (a:=(Dv a (N.length:Int)).1) (n:=(N.length:Int)) (by omega)
  generalize wT:Dv a (N.length:Int)=r1 at l1 l2
  generalize pG:Dv r1.1 (N.length:Int)=r2 at l2
  by_cases c2:r1.2=r2.2
  ·obtain ⟨a',E',g1,g2,g3⟩:=FY N h2 h8 cnt hc d (i+1) r2.1 E (by omega) (by omega) hG
   refine ⟨a',E',g1,g2,λ res h=>gb.step (λ k n=> ?_) (g3 res h)⟩
   rw [f67.l4,f67.Es,if_pos c1]
   simp only [next_eq k _ (N.length:Int) (by omega) (by omega),Option.bind_some,wT,pG]
   rw [if_neg (by simpa using c2),f67.F7,f67.EL,hw]
  ·have l3:=Em (a:=r2.1) (n:=20) (by omega)
   generalize Nj:Dv r2.1 20=r3 at l3
   generalize Nk:Dv r3.1 5=r4
   have hw1:Ar (1+r3.2)=1+r3.2:=CH (by omega) (by omega)
   have Lf:EK N.length (E++[(r1.2,(r2.2,(1+r3.2,r4.2)))]):=λ e he=>by
    rcases List.mem_append.1 he with he|he
    ·exact hG e he
    ·simp only [List.mem_singleton] at he
     subst he
     unfold Cp
     simp only
     omega
   obtain ⟨a',E',g1,g2,g3⟩:=FY N h2 h8 cnt hc d (i+1) r4.1 _ (by omega) (by simp;omega) Lf
   refine ⟨a',E',g1,g2,λ res h=>gb.step (λ k n=> ?_) (g3 res h)⟩
   rw [f67.l4,f67.Es,if_pos c1]
   simp only [next_eq k _ (N.length:Int) (by omega) (by omega),Option.bind_some,wT,pG]
   rw [if_pos (by simpa using c2)]
   simp only [next_eq k _ 20 (by omega) (by omega),next_eq k _ 5 (by omega) (by omega),Option.bind_some,Nj,Nk,hw1]
   rw [if_pos (by omega),f67.F7,f67.EL,hw]
theorem Gb (N:List Pt) (E:List Ed) (hE:E.length<=1000) (cnt:Nat) (hc:cnt<=3):∀(d i:Nat) (a:List Int) (B:List Pt),i+d=cnt->B.length<=i->Gn E B->
 ∃(B':List Pt),Gn E B'/\B'.length<=cnt/\∀res,Ev (λ k=>f67.b6 k B' N E) res->gb (λ k n=>f67.nk k n a B N E (cnt:Int) (i:Int)) res
 | 0,i,a,B,hi,hB,hG=>by
   refine ⟨B,hG,by omega,λ res h=>gb.step (λ k n=> ?_) h.two⟩
   rw [f67.nk,f67.Hp,if_neg (by omega)]
 |d+1,i,a,B,hi,hB,hG=>by
  have hw:Ar ((i:Int)+1)=((i+1:Nat):Int):=by rw [CH (by omega) (by omega)];omega
  have c1:(i:Int) <(cnt:Int):=by omega
  by_cases c0:(E.length:Int)=0
  ·refine ⟨B,hG,by omega,λ res h=>gb.step (λ k n=> ?_) h.two⟩
   rw [f67.nk,f67.Hp,if_pos c1,if_pos c0]
  ·have l1:=Em (a:=a) (n:=(E.length:Int)) (by omega)
   have l2:=Em (a:=(Dv a (E.length:Int)).1) (n:=(E.length:Int)) (by omega)
   generalize wT:Dv a (E.length:Int)=r1 at l1 l2
   generalize pG:Dv r1.1 (E.length:Int)=r2 at l2
   have start:∀k n,f67.nk k (n+1) a B N E (cnt:Int) (i:Int)=if (((E.getD ((r1.2).toNat) zE).2).1)=((E.getD ((r2.2).toNat) zE).1) then ((f105 k B (r1.2,r2.2)).bind λ r3=>f67.Iy k (f67.nk k n) r2.1 B N E r1.2 r2.2 (decide (¬(r3.1=true))) (cnt:Int) (i:Int)) else f67.Iy k (f67.nk k n) r2.1 B N E r1.2 r2.2 false (cnt:Int) (i:Int):=λ k n=>by
    rw [f67.nk,f67.Hp,if_pos c1,if_neg c0]
    simp only [next_eq k _ (E.length:Int) (by omega) (by omega),Option.bind_some,wT,pG]
    rw [if_pos l1.1,if_pos l1.2,if_pos l2.1,if_pos l2.2]
    rfl
   have no:∀k n,f67.Iy k (f67.nk k n) r2.1 B N E r1.2 r2.2 false (cnt:Int) (i:Int)=f67.nk k n r2.1 B N E (cnt:Int) ((i+1:Nat):Int):=λ k n=>by
    rw [f67.Iy,f67.G8,if_neg (by simp),f67.Kx,f67.HP,hw]
   have skip:∃(B':List Pt),Gn E B'/\B'.length<=cnt/\∀res,Ev (λ k=>f67.b6 k B' N E) res->gb (λ k n=>f67.nk k n r2.1 B N E (cnt:Int) ((i+1:Nat):Int)) res:=Gb N E hE cnt hc d (i+1) r2.1 B (by omega) (by omega) hG
   by_cases c2:(((E.getD ((r1.2).toNat) zE).2).1)=((E.getD ((r2.2).toNat) zE).1)
   ·obtain ⟨K,hK⟩:=Gp B (r1.2,r2.2) (by omega)
    by_cases c3:(r1.2,r2.2)∈B
    ·obtain ⟨B',g1,g2,g3⟩:=skip
     refine ⟨B',g1,g2,λ res h=>gb.Eo K (λ k n hk=> ?_) (g3 res h)⟩
     have hk':=hK k hk;simp only at hk'
     rw [start,if_pos c2,hk',Option.bind_some]
     simp only [c3,decide_true,not_true_eq_false,decide_false]
     exact no k n
    ·have Lf:Gn E (B++[(r1.2,r2.2)]):=by
      refine ⟨List.nodup_append.2 ⟨hG.1,by simp,λ q hq r hr e=> ?_⟩,λ q hq=> ?_⟩
      ·simp only [List.mem_singleton] at hr
       subst hr;subst e;exact c3 hq
      ·rcases List.mem_append.1 hq with hq|hq
       ·exact hG.2 q hq
       ·simp only [List.mem_singleton] at hq
        subst hq
        exact ⟨⟨l1.1,l1.2⟩,⟨l2.1,l2.2⟩,c2⟩
     obtain ⟨B',g1,g2,g3⟩:=Gb N E hE cnt hc d (i+1) r2.1 _ (by omega) (by simp;omega) Lf
     refine ⟨B',g1,g2,λ res h=>gb.Eo K (λ k n hk=> ?_) (g3 res h)⟩
     have hk':=hK k hk;simp only at hk'
     rw [start,if_pos c2,hk',Option.bind_some]
     simp only [c3,decide_false,Bool.false_eq_true,not_false_eq_true,decide_true]
     rw [f67.Iy,f67.G8,if_pos rfl,if_pos (by omega),f67.Kx,f67.HP,hw]
   ·obtain ⟨B',g1,g2,g3⟩:=skip
    refine ⟨B',g1,g2,λ res h=>gb.step (λ k n=> ?_) (g3 res h)⟩
    rw [start,if_neg c2]
    exact no k n
theorem Lo (a:List Int):∃(N:List Pt) (E:List Ed) (B:List Pt),GH N/\2<=N.length/\N.length<=8/\EK N.length E/\E.length<=16/\Gn E B/\B.length<=3/\Ev (λ k=>f67 k a) ((N,(E,B)),()):=by
 obtain ⟨a1,N,n1,n2,n3,n4⟩:=GR 8 a [] rfl ⟨List.nodup_nil,λ q hq=>by cases hq⟩
 have l1:=Em (a:=a1) (n:=17) (by omega)
 obtain ⟨c1,hc1⟩:∃c:Nat,(Dv a1 17).2=(c:Int):=⟨(Dv a1 17).2.toNat,by omega⟩
 obtain ⟨a2,E,e1,e2,e3⟩:=FY N n2 n3 c1 (by omega) c1 0 (Dv a1 17).1 [] (by omega) (by simp) (λ e he=>by cases he)
 have l2:=Em (a:=a2) (n:=4) (by omega)
 obtain ⟨c2,uk⟩:∃c:Nat,(Dv a2 4).2=(c:Int):=⟨(Dv a2 4).2.toNat,by omega⟩
 obtain ⟨B,b1,b2,b3⟩:=Gb N E (by omega) c2 (by omega) c2 0 (Dv a2 4).1 [] (by omega) (by simp) ⟨List.nodup_nil,λ b hb=>by cases hb⟩
 obtain ⟨B',p1,p2⟩:=Kk B (by omega)
 refine ⟨N,E,B',n1,n2,n3,e1,by omega,⟨p1.nodup_iff.2 b1.1,λ b hb=>b1.2 b (p1.mem_iff.1 hb)⟩,by have:=p1.length_eq;omega, ?_⟩
 simp only [f67,f67.sk]
 refine (n4 _ ?_).diag
 simp only [next_eq _ a1 17 (show (1:Int)<=17 by omega) (show (17:Int)<=1000000000000 by omega),Option.bind_some,hc1]
 refine (e3 _ ?_).diag
 simp only [next_eq _ a2 4 (show (1:Int)<=4 by omega) (show (4:Int)<=1000000000000 by omega),Option.bind_some,uk]
 refine (b3 _ ?_).diag
 simp only [f67.b6,f67.J1]
 exact p2.bind (Ev.pure _)
theorem HL:∀(l pre:List Pt),(∀p∈l,Iv p)->(pre++l).Nodup->Fe pre l=0
 | [],_,_,_=>rfl
 |p::l,pre,h,hn=>by
  simp only [Fe]
  rw [if_pos (h p (List.mem_cons_self ..)),if_neg,HL l (pre++[p]) (λ q hq=>h q (List.mem_cons_of_mem _ hq)) (by simpa using hn)]
  intro hp
  exact (List.nodup_append.1 hn).2.2 p hp p (List.mem_cons_self ..) rfl
theorem Ie {n:Nat}:∀{E:List Ed},(∀e∈E,¬Ga n e/\e.1≠e.2.1)->FH n E=0
 | [],_=>rfl
 |e::l,h=>by
  simp only [FH]
  rw [if_neg (h e (List.mem_cons_self ..)).1,if_neg (h e (List.mem_cons_self ..)).2]
  exact Ie λ e' he=>h e' (List.mem_cons_of_mem _ he)
theorem Hv {E:List Ed}:∀(l pre:List Pt),(∀b∈l,Cp b.1 E.length/\Cp b.2 E.length/\D8 E b.1=DX E b.2)->(pre++l).Nodup->Fz E pre l=0
 | [],_,_,_=>rfl
 |b::l,pre,h,hn=>by
  have hb:=h b (List.mem_cons_self ..)
  simp only [Fz]
  rw [if_pos ⟨hb.1,hb.2.1⟩,if_pos hb.2.2,if_neg,Hv l (pre++[b]) (λ q hq=>h q (List.mem_cons_of_mem _ hq)) (by simpa using hn)]
  intro hp
  exact (List.nodup_append.1 hn).2.2 b hp b (List.mem_cons_self ..) rfl
theorem I7 {N:List Pt} {E:List Ed} {B:List Pt} (h1:GH N) (h2:N.length<=8) (h3:EK N.length E) (h4:E.length<=16) (h5:Gn E B) (h6:B.length<=3):Fm (N,(E,B))=0:=by
 unfold Fm
 simp only
 have k1:=HL N [] (λ p hp=>by
  have:=h1.2 p hp
  unfold Iv
  rw [JJ (by omega) (by omega),JJ (by omega) (by omega)]
  exact ⟨rfl,rfl⟩) (by simpa using h1.1)
 have k2:FH N.length E=0:=Ie λ e he=>by
  have:=h3 e he
  exact ⟨λ hb=>by unfold Ga at hb;rcases hb with hb|hb|hb|hb<;>first|exact hb this.1|exact hb this.2.1|omega,this.2.2.1⟩
 have k3:=Hv (E:=E) B [] h5.2 (by simpa using h5.1)
 rw [if_neg (by omega),if_pos k1,if_pos k2,k3]
end Go.Proofs.Ythfjdcdbimjkjaa.Rw
namespace Go.Proofs.Ythfjdcdbimjkjaa.Rw
open Go.Rx
def Fl (E:List Ed) (B:List Pt):Option Int->List Int->Prop
 |_,[]=>True
 |p,x::w=>Cp x E.length/\(∀y,p=some y->D8 E y=DX E x/\(y,x)∉B)/\Fl E B (some x) w
def EC (E:List Ed):List Int->Int
 | []=>0
 |x::w=>DG E x+EC E w
def FZ (E:List Ed) (s:Int) (p:Option Int):List Int->Int
 | []=>match p with
   |none=>s
   |some y=>D8 E y
 |x::w=>FZ E s (some x) w
theorem FO {E:List Ed} {B:List Pt} {q:Int} (hq:Cp q E.length):∀(w:List Int) (p:Option Int),Fl E B p w->(∀y,(match w.getLast? with|some z=>some z|none=>p)=some y->D8 E y=DX E q/\(y,q)∉B)->Fl E B p (w++[q])
 | [],p,_,h=>⟨hq,h,trivial⟩
 |x::w,p,hc,h=>by
  refine ⟨hc.1,hc.2.1,FO hq w (some x) hc.2.2 λ y hy=>h y ?_⟩
  cases w with
  |nil=>simpa using hy
  |cons z w=>
   have e:(x::z::w).getLast?=(z::w).getLast?:=List.getLast?_cons_cons
   rw [e]
   cases hl:(z::w).getLast? with
   |none=>simp at hl
   |some u=>rw [hl] at hy;exact hy
theorem Gk {E:List Ed} {q:Int}:∀(w:List Int),EC E (w++[q])=EC E w+DG E q
 | []=>by simp [EC]
 |x::w=>by simp only [List.cons_append,EC];rw [Gk w];omega
structure FG (E:List Ed) (B:List Pt) (s:Int) (way:List Int) (sum at_:Int):Prop where
 ch:Fl E B none way
 sm:sum=EC E way
 at_:at_=match way.getLast? with|none=>s|some y=>D8 E y
 le:0<=sum/\sum<=20 * (way.length:Int)
 fst:∀y,way.head?=some y->DX E y=s
def Hi (E:List Ed) (B:List Pt) (way:List Int) (at_ q:Int):Prop:=DX E q=at_/\∀y,way.getLast?=some y->(y,q)∉B
theorem FG.add {E:List Ed} {B:List Pt} {n:Nat} (hE:EK n E) {s:Int} {way:List Int} {sum at_ q:Int} (h:FG E B s way sum at_) (hq:Cp q E.length) (hc:Hi E B way at_ q):FG E B s (way++[q]) (sum+DG E q) (D8 E q):=by
 have F2:1<=DG E q/\DG E q<=20:=by
  have hi:q.toNat <E.length:=by unfold Cp at hq;omega
  have hm:E.getD q.toNat zE∈E:=by
   rw [List.getD_eq_getElem?_getD,List.getElem?_eq_getElem hi];exact List.getElem_mem hi
  have:=hE _ hm
  exact ⟨this.2.2.2.1,this.2.2.2.2⟩
 refine ⟨FO hq way none h.ch λ y hy=> ?_,by rw [Gk,h.sm],by simp, ?_,λ y hy=> ?_⟩
 ·have hy':way.getLast?=some y:=by
   cases hl:way.getLast? with
   |none=>rw [hl] at hy;cases hy
   |some z=>rw [hl] at hy;exact hy
  refine ⟨?_,hc.2 y hy'⟩
  have:=h.at_
  rw [hy'] at this
  simp only at this
  rw [<-this,hc.1]
 ·have:=h.le
  simp only [List.length_append,List.length_singleton]
  omega
 ·cases way with
  |nil=>
   simp only [List.nil_append,List.head?_cons,Option.some.injEq] at hy
   subst hy
   rw [hc.1];exact h.at_
  |cons z w=>exact h.fst y (by simpa using hy)
theorem Hu (N:List Pt) {E:List Ed} {B:List Pt} (Ii:E.length<=600) (Ih:B.length<=600) {m way:List Int} {sum at_ x:Int} {i:Nat} (hi:i<=1000) (hs:0<=sum/\sum<=1000000) (F2:∀q,Cp q E.length->0<=DG E q/\DG E q<=20) (I6:way.length<=1000):
 ∀(l pre:List Ed) (out:List Int),pre++l=E->out.length<=pre.length->(∀q∈out,Cp q E.length/\Hi E B way at_ q)->
 qI (λ k n r=>f47.l2 k (f47.l0 k n) r N E B out way sum at_ x m (m.length:Int) (i:Int) (E.length:Int) (pre.length:Int)) (way,sum,at_,())\/
 ∃q,Cp q E.length/\Hi E B way at_ q/\∀res,gb (λ k n=>f47.l0 k n N E B (way++[q]) (sum+DG E q) (D8 E q) m (m.length:Int) ((i+1:Nat):Int)) res->
  qI (λ k n r=>f47.l2 k (f47.l0 k n) r N E B out way sum at_ x m (m.length:Int) (i:Int) (E.length:Int) (pre.length:Int)) res
 | [],pre,out,A2,hlo,ho=>by
   have e:pre=E:=by simpa using A2
   subst e
   by_cases c:(out.length:Int)=0
   ·left
    refine qI.step (g:=λ _ _ _=>some (way,sum,at_,())) (λ k n r=> ?_) (gb.three (gb.pure _))
    rw [f47.l2,f47.Dl,if_neg (by omega),if_pos c,f47.b0,f47.IZ]
   ·right
    have hb:=HX (x:=x) (n:=(out.length:Int)) (by omega)
    obtain ⟨b,Ng⟩:∃b:Nat,Fk x (out.length:Int)=(b:Int):=⟨(Fk x (out.length:Int)).toNat,by omega⟩
    have hmem:out.getD b 0∈out:=by
     rw [List.getD_eq_getElem?_getD,List.getElem?_eq_getElem (by omega)];exact List.getElem_mem _
    obtain ⟨q1,q2⟩:=ho _ hmem
    have Bd:=q1
    unfold Cp at Bd
    have hc:=F2 _ q1
    have hw:Ar ((i:Int)+1)=((i+1:Nat):Int):=by rw [CH (by omega) (by omega)];omega
    refine ⟨out.getD b 0,q1,q2,λ res h=>qI.step (λ k n r=> ?_) h.three⟩
    have Nn:Ar (sum+DG pre (out.getD b 0))=sum+DG pre (out.getD b 0):=CH (by omega) (by omega)
    unfold DG D8 at *
    rw [f47.l2,f47.Dl,if_neg (by omega),if_neg c,HW k x _ (by omega) (by omega),Option.bind_some]
    simp only [Ng,Int.toNat_natCast]
    rw [if_pos (by omega),if_pos (by omega),if_pos (by omega),if_pos Bd.1,if_pos Bd.2,if_pos Bd.1,if_pos Bd.2,hw]
    exact congrArg (λ z=>f47.l0 k n N pre B (way++[out.getD b 0]) z ((pre.getD (out.getD b 0).toNat zE).2.1) m (m.length:Int) ((i+1:Nat):Int)) Nn
 |e::l,pre,out,A2,hlo,ho=>by
  have h0:(0:Int)<=(pre.length:Int):=by omega
  have hlt:pre.length <E.length:=by rw [<-A2];simp
  have h1:(pre.length:Int) <(E.length:Int):=by omega
  have hg:E.getD ((pre.length:Int)).toNat (0,(0,(0,0)))=e:=by rw [<-A2];exact Bp
  have hw:Ar ((pre.length:Int)+1)=(((pre++[e]).length:Nat):Int):=by
   rw [CH (by omega) (by omega)];simp
  have Ij:(pre++[e])++l=E:=by simp [<-A2]
  have hfr:DX E (pre.length:Int)=e.1:=by unfold DX;exact congrArg Prod.fst hg
  have MR:Cp (pre.length:Int) E.length:=⟨h0,h1⟩
  have no:∀k n r,f47.F9 k (f47.l2 k (f47.l0 k n) r) (f47.l0 k n) N E B out way sum at_ x (pre.length:Int) m (m.length:Int) (i:Int) (E.length:Int) false=f47.l2 k (f47.l0 k n) r N E B out way sum at_ x m (m.length:Int) (i:Int) (E.length:Int) (((pre++[e]).length:Nat):Int):=λ k n r=>by
   rw [f47.F9,f47.ET,if_neg (by simp),f47.Kv,f47.HN,hw]
  have yes:∀k n r,f47.F9 k (f47.l2 k (f47.l0 k n) r) (f47.l0 k n) N E B out way sum at_ x (pre.length:Int) m (m.length:Int) (i:Int) (E.length:Int) true=f47.l2 k (f47.l0 k n) r N E B (out++[(pre.length:Int)]) way sum at_ x m (m.length:Int) (i:Int) (E.length:Int) (((pre++[e]).length:Nat):Int):=λ k n r=>by
   rw [f47.F9,f47.ET,if_pos rfl,if_pos (by omega),f47.Kv,f47.HN,hw]
  have lift:∀(out':List Int),(∃K,∀k n r,K<=k->f47.l2 k (f47.l0 k n) (r+1) N E B out way sum at_ x m (m.length:Int) (i:Int) (E.length:Int) (pre.length:Int)=f47.l2 k (f47.l0 k n) r N E B out' way sum at_ x m (m.length:Int) (i:Int) (E.length:Int) (((pre++[e]).length:Nat):Int))->
   (qI (λ k n r=>f47.l2 k (f47.l0 k n) r N E B out' way sum at_ x m (m.length:Int) (i:Int) (E.length:Int) (((pre++[e]).length:Nat):Int)) (way,sum,at_,())\/
   ∃q,Cp q E.length/\Hi E B way at_ q/\∀res,gb (λ k n=>f47.l0 k n N E B (way++[q]) (sum+DG E q) (D8 E q) m (m.length:Int) ((i+1:Nat):Int)) res->
    qI (λ k n r=>f47.l2 k (f47.l0 k n) r N E B out' way sum at_ x m (m.length:Int) (i:Int) (E.length:Int) (((pre++[e]).length:Nat):Int)) res)->
   qI (λ k n r=>f47.l2 k (f47.l0 k n) r N E B out way sum at_ x m (m.length:Int) (i:Int) (E.length:Int) (pre.length:Int)) (way,sum,at_,())\/
   ∃q,Cp q E.length/\Hi E B way at_ q/\∀res,gb (λ k n=>f47.l0 k n N E B (way++[q]) (sum+DG E q) (D8 E q) m (m.length:Int) ((i+1:Nat):Int)) res->
    qI (λ k n r=>f47.l2 k (f47.l0 k n) r N E B out way sum at_ x m (m.length:Int) (i:Int) (E.length:Int) (pre.length:Int)) res:=λ out' hst h=>by
   obtain ⟨K,hK⟩:=hst
   rcases h with h|⟨q,q1,q2,q3⟩
   ·exact .inl (qI.Eo K (λ k n r hk=>hK k n r hk) h)
   ·exact .inr ⟨q,q1,q2,λ res hr=>qI.Eo K (λ k n r hk=>hK k n r hk) (q3 res hr)⟩
  have Lm:=Hu N Ii Ih (m:=m) (way:=way) (sum:=sum) (at_:=at_) (x:=x) (i:=i) hi hs F2 I6 l (pre++[e]) out Ij (by simp;omega) ho
  by_cases c1:e.1=at_
  ·have K5:Hi E B way at_ (pre.length:Int)->_:=λ hcan=>Hu N Ii Ih (m:=m) (way:=way) (sum:=sum) (at_:=at_) (x:=x) (i:=i) hi hs F2 I6 l (pre++[e]) (out++[(pre.length:Int)]) Ij (by simp;omega) (λ q hq=>by
    rcases List.mem_append.1 hq with hq|hq
    ·exact ho q hq
    ·simp only [List.mem_singleton] at hq;subst hq;exact ⟨MR,hcan⟩)
   by_cases c2:(way.length:Int)=0
   ·have hnil:way=[]:=List.length_eq_zero_iff.1 (by omega)
    refine lift _ ⟨0,λ k n r _=> ?_⟩ (K5 ⟨by rw [hfr,c1],λ y hy=>by rw [hnil] at hy;cases hy⟩)
    rw [f47.l2,f47.Dl,if_pos h1,if_pos h0,if_pos h1,hg,if_pos c1,if_pos c2,yes]
   ·obtain ⟨y,hy⟩:∃y,way.getLast?=some y:=by
     cases hl:way.getLast? with
     |none=>rw [List.getLast?_eq_none_iff] at hl;subst hl;simp at c2
     |some y=>exact ⟨y,rfl⟩
    obtain ⟨w0,hw0⟩:=List.getLast?_eq_some_iff.1 hy
    have Ll:Ar ((way.length:Int) - 1)=(w0.length:Int):=by
     rw [CH (by omega) (by omega),hw0];simp
    have Mp:way.getD ((w0.length:Int)).toNat 0=y:=by rw [hw0];exact Bp
    have c3:(0:Int)<=(w0.length:Int):=by omega
    have c4:(w0.length:Int) <(way.length:Int):=by rw [hw0];simp;omega
    obtain ⟨K,hK⟩:=Gp B (y,(pre.length:Int)) (by omega)
    by_cases c5:(y,(pre.length:Int))∈B
    ·refine lift _ ⟨K,λ k n r hk=> ?_⟩ Lm
     have hk':=hK k hk;simp only at hk'
     rw [f47.l2,f47.Dl,if_pos h1,if_pos h0,if_pos h1,hg,if_pos c1,if_neg c2,Ll,if_pos c3,if_pos c4]
     have J9:way.getD (w0.length:Int).toNat 0=y:=Mp
     rw [J9,hk',Option.bind_some]
     simp only [c5,decide_true,not_true_eq_false,decide_false]
     exact no k n r
    ·refine lift _ ⟨K,λ k n r hk=> ?_⟩ (K5 ⟨by rw [hfr,c1],λ z hz=>by rw [hy] at hz;cases hz;exact c5⟩)
     have hk':=hK k hk;simp only at hk'
     rw [f47.l2,f47.Dl,if_pos h1,if_pos h0,if_pos h1,hg,if_pos c1,if_neg c2,Ll,if_pos c3,if_pos c4]
     have J9:way.getD (w0.length:Int).toNat 0=y:=Mp
     rw [J9,hk',Option.bind_some]
     simp only [c5,decide_false,Bool.false_eq_true,not_false_eq_true,decide_true]
     exact yes k n r
  ·refine lift _ ⟨0,λ k n r _=> ?_⟩ Lm
   rw [f47.l2,f47.Dl,if_pos h1,if_pos h0,if_pos h1,hg,if_neg c1,no]
theorem IJ (N:List Pt) {E:List Ed} {B:List Pt} {n0:Nat} (hE:EK n0 E) (Ii:E.length<=600) (Ih:B.length<=600) (s:Int) {m:List Int} (hm:m.length<=12):∀(d i:Nat) (way:List Int) (sum at_:Int),i+d=m.length->way.length<=i->FG E B s way sum at_->
 ∃IK sum' Ku,FG E B s IK sum' Ku/\IK.length<=m.length/\gb (λ k n=>f47.l0 k n N E B way sum at_ m (m.length:Int) (i:Int)) (IK,sum',Ku,())
 | 0,i,way,sum,at_,hid,hl,hI=>by
   refine ⟨way,sum,at_,hI,by omega,gb.step (g:=λ _ _=>some (way,sum,at_,())) (λ k n=> ?_) (gb.pure _)⟩
   rw [f47.l0,f47.u0,if_neg (by omega),f47.b0,f47.IZ]
 |d+1,i,way,sum,at_,hid,hl,hI=>by
  have F2:∀q,Cp q E.length->0<=DG E q/\DG E q<=20:=λ q hq=>by
   have hi:q.toNat <E.length:=by unfold Cp at hq;omega
   have hm:E.getD q.toNat zE∈E:=by
    rw [List.getD_eq_getElem?_getD,List.getElem?_eq_getElem hi];exact List.getElem_mem hi
   have:=hE _ hm
   unfold DG;omega
  have hle:=hI.le
  have h1:(i:Int) <(m.length:Int):=by omega
  have h0:(0:Int)<=(i:Int):=by omega
  have start:∀k n,f47.l0 k (n+1) N E B way sum at_ m (m.length:Int) (i:Int)=f47.l2 k (f47.l0 k n) k N E B ([]:List Int) way sum at_ (m.getD (i:Int).toNat 0) m (m.length:Int) (i:Int) (E.length:Int) 0:=λ k n=>by
   rw [f47.l0,f47.u0,if_pos h1,if_pos h0,if_pos h1]
  rcases Hu N Ii Ih (m:=m) (way:=way) (sum:=sum) (at_:=at_) (x:=m.getD (i:Int).toNat 0) (i:=i) (by omega) (by omega) F2 (by omega) E [] [] rfl (by simp) (λ q hq=>by cases hq) with h|⟨q,q1,q2,q3⟩
  ·exact ⟨way,sum,at_,hI,by omega,gb.step start h.C8⟩
  ·obtain ⟨IK,sum',Ku,g1,g2,g3⟩:=IJ N hE Ii Ih s hm d (i+1) (way++[q]) _ _ (by omega) (by simp;omega) (hI.add hE q1 q2)
   exact ⟨IK,sum',Ku,g1,g2,gb.step start (q3 _ g3).C8⟩
theorem KY {N:List Pt} {E:List Ed} {B:List Pt} {n0:Nat} (hE:EK n0 E) (Ii:E.length<=600) (Ih:B.length<=600) (s:Int) {m:List Int} (hm:m.length<=12):
 ∃way sum at_,FG E B s way sum at_/\way.length<=m.length/\Ev (λ k=>f47 k (N,(E,B)) s m) (way,sum,at_,()):=by
 obtain ⟨way,sum,at_,h1,h2,h3⟩:=IJ N hE Ii Ih s hm m.length 0 [] 0 s (by omega) (by simp) ⟨trivial,rfl,rfl,by simp,λ y hy=>by cases hy⟩
 refine ⟨way,sum,at_,h1,h2, ?_⟩
 simp only [f47,f47.sk]
 exact h3.diag
theorem Gt {E:List Ed} {B:List Pt} {n0:Nat} (hE:EK n0 E):∀(w:List Int) (p:Option Int) (s:Int),Fl E B p w->0<=s->s+20 * (w.length:Int)<=1000000->Fq E B p s w=(s+EC E w,0,())
 | [],p,s,_,_,_=>by simp [Fq,EC]
 |x::w,p,s,hc,h0,h1=>by
  have hi:x.toNat <E.length:=by have:=hc.1;unfold Cp at this;omega
  have hm:E.getD x.toNat zE∈E:=by
   rw [List.getD_eq_getElem?_getD,List.getElem?_eq_getElem hi];exact List.getElem_mem hi
  have F2:1<=DG E x/\DG E x<=20:=⟨(hE _ hm).2.2.2.1,(hE _ hm).2.2.2.2⟩
  simp only [List.length_cons] at h1
  have ih:=Gt hE w (some x) (s+DG E x) hc.2.2 (by omega) (by omega)
  have hw:Ar (s+DG E x)=s+DG E x:=CH (by omega) (by omega)
  have e:s+DG E x+EC E w=s+(DG E x+EC E w):=by omega
  cases p with
  |none=>
   simp only [Fq]
   rw [if_pos hc.1,hw,ih]
   simp only [EC,e]
  |some y=>
   obtain ⟨t1,t2⟩:=hc.2.1 y rfl
   simp only [Fq]
   rw [if_pos hc.1,if_pos t1,if_neg t2,hw,ih]
   simp only [EC,e]
end Go.Proofs.Ythfjdcdbimjkjaa.Rw
namespace Go.Proofs.Ythfjdcdbimjkjaa.Rw
open Go.Rx Go.Sort
def FQ (x y:Int×Int):Int:=if x.1 <y.1 then -1 else if y.1 <x.1 then 1 else if x.2 <y.2 then -1 else if y.2 <x.2 then 1 else 0
def EE (x y:Int×Int):Prop:=x.1 <y.1\/x.1=y.1/\x.2 <y.2
theorem KQ {x y:Int×Int}:FQ x y <0↔EE x y:=by
 unfold FQ EE
 split
 ·constructor<;>intro<;>omega
 ·split
  ·constructor<;>intro<;>omega
  ·split
   ·constructor<;>intro<;>omega
   ·split<;>constructor<;>intro<;>omega
theorem LF (k:Nat) (a b:Int):f156 k a b=some (if a <b then -1 else if b <a then 1 else 0,()):=by
 simp only [f156,f156.sk,f193,f193.sk]
 by_cases h1:a <b<;>by_cases h2:b <a<;>simp [h1,h2]
theorem MO (k:Nat) (a b c d:Int):f110 (k+3) [a,b] [c,d]=some (FQ (a,b) (c,d),()):=by
 have w1:Ar 1=1:=CH (by omega) (by omega)
 have w2:Ar 2=2:=CH (by omega) (by omega)
 simp only [f110,f110.sk]
 simp [f110.l0,f110.u0,LF,w1,w2,FQ]
 by_cases h1:a <c
 ·simp [h1]
 ·by_cases h2:c <a
  ·simp [h1,h2]
  ·by_cases h3:b <d
   ·simp [h1,h2,h3]
   ·by_cases h4:d <b<;>simp [h1,h2,h3,h4]
theorem IV (x y:Int×Int):nV (λ x y=>some (FQ x y,())) x y=true↔EE x y:=decide_eq_true_iff.trans KQ
theorem Hq (x y:Int×Int):nV (λ x y=>some (FQ x y,())) x y=false↔ ¬EE x y:=by rw [<-IV];simp
theorem Na:SWO (nV λ x y:Int×Int=>some (FQ x y,())) where
 irrefl x:=by rw [Hq];simp [EE]
 trans x y z h1 h2:=by rw [IV] at *; unfold EE at *; omega
 ntrans x y z h1 h2:=by rw [Hq] at *; unfold EE at *; omega
theorem Ml (l:List (Int×Int)) (hl:l.length<=1000000000000000):∃m:List (Int×Int),qa (e:=.pair (.int .i64) (.int .i64)) (λ x y=>some (FQ x y,())) l=some ((m,()),())/\m.Perm l/\m.Pairwise λ x y=>¬EE y x:=by
 obtain ⟨m,h1,h2,h3⟩:=vO (e:=.pair (.int .i64) (.int .i64)) (f:=λ x y=>some (FQ x y,())) (l:=l) (λ _ _=>rfl) Na (Nat.lt_of_le_of_lt hl (by decide))
 refine ⟨m,h1,h2,List.Pairwise.imp (λ h=>(Hq _ _).1 h) h3⟩
theorem Jj:∀{l m:List (Int×Int)},l.Pairwise EE->m.Pairwise EE->(∀x,x∈l↔x∈m)->l=m
 | [],[],_,_,_=>rfl
 | [],y::m,_,_,h=>by have:=(h y).2 (by simp);simp at this
 |x::l,[],_,_,h=>by have:=(h x).1 (by simp);simp at this
 |x::l,y::m,h1,h2,h=>by
  rw [List.pairwise_cons] at h1 h2
  have hxy:x=y:=by
   rcases List.mem_cons.1 ((h x).1 (by simp)) with e|e
   ·exact e
   ·rcases List.mem_cons.1 ((h y).2 (by simp)) with e2|e2
    ·exact e2.symm
    ·have a:=h1.1 _ e2
     have b:=h2.1 _ e
     unfold EE at a b;omega
  subst hxy
  have ih:=Jj h1.2 h2.2 λ z=>by
   constructor
   ·intro hz
    rcases List.mem_cons.1 ((h z).1 (by simp [hz])) with e|e
    ·subst e;have:=h1.1 _ hz;unfold EE at this;omega
    ·exact e
   ·intro hz
    rcases List.mem_cons.1 ((h z).2 (by simp [hz])) with e|e
    ·subst e;have:=h2.1 _ hz;unfold EE at this;omega
    ·exact e
  rw [ih]
end Go.Proofs.Ythfjdcdbimjkjaa.Rw
namespace Go.Proofs.Ythfjdcdbimjkjaa.Rw
open Go.Rx
def DN (a:List (Int×Int)):Nat->List (Int×Int)
 | 0=>[]
 |i+1=>if i≠0/\a.getD i (0,0)=a.getD (i - 1) (0,0) then DN a i else DN a i++[a.getD i (0,0)]
theorem Ib (a:List (Int×Int)):∀i,(DN a i).length<=i
 | 0=>Nat.le_refl _
 |i+1=>by
  have:=Ib a i
  unfold DN
  split
  ·omega
  ·simp;omega
theorem Ep {a:List (Int×Int)} {i:Nat} (h:i <a.length):a.take (i+1)=a.take i++[a.getD i (0,0)]:=by
 rw [List.take_add_one,List.getElem?_eq_getElem h,List.getD_eq_getElem?_getD,List.getElem?_eq_getElem h];rfl
theorem FA {a:List (Int×Int)} (ha:a.length<=1000000000000000) {k0:Nat} (hk:k0 <a.length):∀(d m:Nat) (y:List (Int×Int)) (i:Nat),k0+m+d=a.length->1<=m->y.length=a.length->i=(DN a (k0+m)).length->y.take i=DN a (k0+m)->(∀q,k0+m<=q+1->y.getD q (0,0)=a.getD q (0,0))->i <k0+m->
 qI (λ k n l=>f111.l2 k (f111.l0 k n) l y (i:Int) ((k0:Int)).toNat ((a.length:Int).toNat - ((k0:Int)).toNat) (m:Int)) ((DN a a.length,()),())
 | 0,m,y,i,hd,hm,hy,hi,ht,hq,hlt=>by
   have e:k0+m=a.length:=by omega
   rw [e] at hi ht hlt
   refine qI.step (g:=λ _ _ _=>some ((DN a a.length,()),())) (λ k n l=> ?_) (gb.pure _).three
   have hcl:(xK y ((0,0):Int×Int) i (y.length - i)).length=y.length:=by simp [xK];omega
   have KK:(xK y ((0,0):Int×Int) i (y.length - i)).take i=y.take i:=by
    unfold xK
    rw [List.append_assoc,List.take_append_of_le_length (by rw [List.length_take];omega),List.take_take,Nat.min_self]
   rw [f111.l2,f111.Dl,if_neg (by simp only [Int.toNat_natCast];omega),if_pos (by omega),if_pos (by omega),if_pos (by omega)]
   simp only [Int.toNat_natCast]
   rw [if_pos (by rw [hcl];omega),KK,ht]
 |d+1,m,y,i,hd,hm,hy,hi,ht,hq,hlt=>by
  have m0:(0:Int)<=(m:Int):=by omega
  have m1:(m:Int) <(((a.length:Int).toNat - ((k0:Int)).toNat:Nat):Int):=by simp only [Int.toNat_natCast];omega
  have hw:Ar ((m:Int)+1)=((m+1:Nat):Int):=by rw [CH (by omega) (by omega)];omega
  have JK:Ar ((m:Int) - 1)=((m - 1:Nat):Int):=by rw [CH (by omega) (by omega)];omega
  have hwi:Ar ((i:Int)+1)=((i+1:Nat):Int):=by rw [CH (by omega) (by omega)];omega
  have q1:=hq (k0+m) (by omega)
  have q2:=hq (k0+(m - 1)) (by omega)
  have e2:k0+m - 1=k0+(m - 1):=by omega
  have e3:k0+(m+1)=k0+m+1:=by omega
  by_cases c:a.getD (k0+m) (0,0)=a.getD (k0+(m - 1)) (0,0)
  ·have hn:DN a (k0+(m+1))=DN a (k0+m):=by rw [e3,DN,if_pos ⟨by omega,by rw [e2];exact c⟩]
   have ih:=FA ha hk d (m+1) y i (by omega) (by omega) hy (by rw [hn];exact hi) (by rw [hn];exact ht) (λ q h=>hq q (by omega)) (by omega)
   refine qI.step (λ k n l=> ?_) ih
   rw [f111.l2,f111.Dl,if_pos m1,if_pos m0,if_pos m1,JK,if_pos (by omega),if_pos (by simp only [Int.toNat_natCast];omega)]
   simp only [Int.toNat_natCast]
   rw [q1,q2,if_neg (λ z=>z (Prod.ext_iff.1 c)),f111.F7,f111.EL,hw]
  ·have hn:DN a (k0+(m+1))=DN a (k0+m)++[a.getD (k0+m) (0,0)]:=by rw [e3,DN,if_neg (λ z=>c (by rw [e2] at z;exact z.2))]
   have hil:i <y.length:=by omega
   have ih:=FA ha hk d (m+1) (y.set i (a.getD (k0+m) (0,0))) (i+1) (by omega) (by omega) (by simpa using hy) (by rw [hn];simp;exact hi) (by
    rw [hn,Ep (by simpa using hil),List.take_set_of_le (Nat.le_refl _),ht]
    congr 1
    rw [List.getD_eq_getElem?_getD,List.getElem?_set_self hil];rfl) (λ q h=>by
     rw [List.getD_eq_getElem?_getD,List.getElem?_set_ne (by omega), <-List.getD_eq_getElem?_getD];exact hq q (by omega)) (by omega)
   refine qI.step (λ k n l=> ?_) ih
   rw [f111.l2,f111.Dl,if_pos m1,if_pos m0,if_pos m1,JK,if_pos (by omega),if_pos (by simp only [Int.toNat_natCast];omega)]
   simp only [Int.toNat_natCast] at m1 ⊢
   rw [q1,q2,if_pos (λ z=>c (Prod.ext_iff.2 z)),if_pos m0,if_pos m1,if_pos (by omega),if_pos (by omega),f111.F7,f111.EL,hw,hwi]
theorem Gc {a:List (Int×Int)} (ha:a.length<=1000000000000000):∀(d i:Nat),i+d=a.length->1<=i->DN a i=a.take i->
 gb (λ k n=>f111.l0 k n a (i:Int)) ((DN a a.length,()),())
 | 0,i,hd,h1,hc=>by
   have e:i=a.length:=by omega
   subst e
   rw [List.take_length] at hc
   refine gb.step (g:=λ _ _=>some ((a,()),())) (λ k n=> ?_) (by rw [hc];exact gb.pure _)
   rw [f111.l0,f111.u0,if_neg (by omega)]
 |d+1,i,hd,h1,hc=>by
  have i0:(0:Int)<=(i:Int):=by omega
  have i1:(i:Int) <(a.length:Int):=by omega
  have hw:Ar ((i:Int)+1)=((i+1:Nat):Int):=by rw [CH (by omega) (by omega)];omega
  have JK:Ar ((i:Int) - 1)=((i - 1:Nat):Int):=by rw [CH (by omega) (by omega)];omega
  by_cases c:a.getD i (0,0)=a.getD (i - 1) (0,0)
  ·have hn:DN a (i+1)=DN a i:=by rw [DN,if_pos ⟨by omega,c⟩]
   have hl:(DN a i).length=i:=by rw [hc,List.length_take];omega
   have h2:=FA ha (k0:=i) (by omega) d 1 a i (by omega) (by omega) rfl (by rw [hn];exact hl.symm) (by rw [hn];exact hc.symm) (λ q _=>rfl) (by omega)
   refine gb.step (λ k n=> ?_) h2.C8
   rw [f111.l0,f111.u0,if_pos i1,if_pos i0,if_pos i1,JK,if_pos (by omega),if_pos (by omega)]
   rw [show ((i:Int)).toNat=i from Int.toNat_natCast i,show (((i - 1:Nat):Int)).toNat=i - 1 from Int.toNat_natCast _,if_pos (Prod.ext_iff.1 c),if_pos i0,if_pos (by omega)]
   rfl
  ·have ih:=Gc ha d (i+1) (by omega) (by omega) (by rw [DN,if_neg (λ z=>c z.2),hc,Ep (by omega)])
   refine gb.step (λ k n=> ?_) ih
   rw [f111.l0,f111.u0,if_pos i1,if_pos i0,if_pos i1,JK,if_pos (by omega),if_pos (by omega)]
   rw [show ((i:Int)).toNat=i from Int.toNat_natCast i,show (((i - 1:Nat):Int)).toNat=i - 1 from Int.toNat_natCast _,if_neg (λ z=>c (Prod.ext_iff.2 z)),f111.ox,f111.FM,hw]
theorem IQ (a:List (Int×Int)) (ha:a.length<=1000000000000000):Ev (λ k=>f111 k a) ((DN a a.length,()),()):=by
 simp only [f111,f111.sk]
 by_cases c:(a.length:Int) <2
 ·refine Ev.of (g:=λ _=>some ((DN a a.length,()),())) (λ k=> ?_) (Ev.pure _)
  rw [if_pos c]
  match a,c with
  | [],_=>rfl
  | [x],_=>simp [DN]
  |_::_::_,c=>simp at c;omega
 ·refine Ev.of (λ k=>by rw [if_neg c];rfl) (Gc ha (a.length - 1) 1 (by omega) (by omega) ?_).diag
  rw [Ep (by omega),DN,if_neg (λ z=>z.1 rfl)]
  rfl
theorem HC {a:List (Int×Int)} (hs:a.Pairwise (λ x y=>¬EE y x)):∀i,i<=a.length->(DN a i).Pairwise EE/\(∀x,x∈DN a i↔x∈a.take i)/\(∀x∈DN a i,i=0\/ ¬EE (a.getD (i - 1) (0,0)) x)
 | 0,_=>⟨List.Pairwise.nil,λ x=>by simp [DN],λ x h=>by simp [DN] at h⟩
 |i+1,hi=>by
  obtain ⟨h1,h2,h3⟩:=HC hs i (by omega)
  have hle:∀x∈a.take i,¬EE (a.getD i (0,0)) x:=λ x hx=>by
   obtain ⟨j,hj,rfl⟩:=List.mem_iff_getElem.1 hx
   rw [List.length_take] at hj
   rw [List.getElem_take,List.getD_eq_getElem?_getD,List.getElem?_eq_getElem (by omega:i <a.length)]
   exact List.pairwise_iff_getElem.1 hs j i (by omega) (by omega) (by omega)
  have hir:∀x:Int×Int,¬EE x x:=λ x h=>by unfold EE at h;omega
  rw [DN]
  split
  ·rename_i hc
   obtain ⟨hc0,hc⟩:=hc
   refine ⟨h1,λ x=> ?_,λ x hx=>.inr ?_⟩
   ·rw [h2,Ep (by omega),List.mem_append,List.mem_singleton]
    refine ⟨.inl,λ h=>h.elim id λ e=> ?_⟩
    subst e
    rw [hc]
    have:a.take i=a.take (i - 1)++[a.getD (i - 1) (0,0)]:=by rw [<-Ep (by omega),show i - 1+1=i by omega]
    rw [this];simp
   ·rw [Nat.add_sub_cancel,hc]
    exact (h3 x hx).resolve_left hc0
  ·rename_i hc
   refine ⟨List.pairwise_append.2 ⟨h1,List.pairwise_singleton _ _,λ x hx y hy=> ?_⟩,λ x=> ?_,λ x hx=>.inr ?_⟩
   ·rw [List.mem_singleton] at hy
    subst hy
    rcases h3 x hx with rfl|h
    ·simp [DN] at hx
    ·by_cases e:i=0
     ·subst e;simp [DN] at hx
     ·have g1:=hle (a.getD (i - 1) (0,0)) (by
       have:a.take i=a.take (i - 1)++[a.getD (i - 1) (0,0)]:=by rw [<-Ep (by omega),show i - 1+1=i by omega]
       rw [this];simp)
      have g2: ¬((a.getD i (0,0)).1=(a.getD (i - 1) (0,0)).1/\(a.getD i (0,0)).2=(a.getD (i - 1) (0,0)).2):=λ z=>hc ⟨e,Prod.ext z.1 z.2⟩
      unfold EE at *
      omega
   ·rw [Ep (by omega),List.mem_append,List.mem_append,h2]
   ·rw [Nat.add_sub_cancel]
    rcases List.mem_append.1 hx with hx|hx
    ·exact hle x ((h2 x).1 hx)
    ·rw [List.mem_singleton] at hx;subst hx;exact hir _
end Go.Proofs.Ythfjdcdbimjkjaa.Rw
namespace Go.Proofs.Ythfjdcdbimjkjaa.Rw
open Go.Rx Go.Sort
theorem KR {k:Nat} (hk:3<=k):(λ x y=>f109 k x y)=λ x y=>some (FQ x y,()):=by
 obtain ⟨k,rfl⟩:∃m,k=m+3:=⟨k - 3,by omega⟩
 funext x y
 simp only [f109,f109.sk,MO]
 rfl
noncomputable abbrev Lv:=f108
theorem Kl (l:List (Int×Int)) (hl:l.length<=1000000000000000):∃m:List (Int×Int),Ev (λ k=>Lv k l ()) ((m,()),())/\m.Perm l/\m.Pairwise λ x y=>¬EE y x:=by
 obtain ⟨m,h1,h2,h3⟩:=Ml l hl
 refine ⟨m,⟨3,λ k hk=> ?_⟩,h2,h3⟩
 show qa (e:=.pair (.int .i64) (.int .i64)) (λ x y=>f109 k x y) l=_
 exact (congrArg (λ f=>qa (e:=.pair (.int .i64) (.int .i64)) f l) (KR hk)).trans h1
end Go.Proofs.Ythfjdcdbimjkjaa.Rw
namespace Go.Proofs.Ythfjdcdbimjkjaa.Rw
open Go.Rx
theorem Ky {l:List (Int×Int)} {i:Nat} (h:i <l.length):l.drop i=l.getD i (0,0)::l.drop (i+1):=by
 rw [List.drop_eq_getElem_cons h,List.getD_eq_getElem?_getD,List.getElem?_eq_getElem h];rfl
theorem I8 {l:List (Int×Int)} {i:Nat} (hl:l.length<=1000000000000000) (h:i <l.length):Ar ((i:Int)+1)=((i+1:Nat):Int):=by
 rw [CH (by omega) (by omega)];omega
def EJ (y x:Int×Int):Prop:=¬(y.1=x.1/\y.2=x.2)/\y.1<=x.1/\y.2<=x.2
open Classical in
theorem under_eq (k:Nat) (y x:Int×Int):f107 k y x=some (decide (EJ y x),()):=by
 simp only [f107,f107.sk,f107.r1,f107.DZ,f48,f48.sk,f48.r1,f48.DZ]
 unfold EJ
 by_cases h1:y.1=x.1/\y.2=x.2
 ·rw [if_neg (by simpa using h1)];simp [h1]
 ·rw [if_pos h1]
  by_cases h2:y.1<=x.1
  ·simp [h1,h2]
  ·simp [h1,h2]
theorem GQ (l:List (Int×Int)) (x:Int×Int) (hl:l.length<=1000000000000000):∀(d i:Nat),i+d=l.length->∃r:Int,gb (λ k n=>f154.l0 k n l x (l.length:Int) (i:Int)) (r,())/\(0<=r↔∃y∈l.drop i,EJ y x)
 | 0,i,hd=>⟨-1,gb.step (g:=λ _ _=>some (-1,())) (λ k n=>by
    rw [f154.l0,f154.u0,if_neg (by omega)]) (gb.pure _),by simp [List.drop_eq_nil_of_le (show l.length<=i by omega)]⟩
 |d+1,i,hd=>by
  have h:i <l.length:=by omega
  obtain ⟨r,h1,h2⟩:=GQ l x hl d (i+1) (by omega)
  by_cases c:EJ (l.getD i (0,0)) x
  ·refine ⟨i,gb.step (g:=λ _ _=>some ((i:Int),())) (λ k n=> ?_) (gb.pure _),by rw [Ky h];exact ⟨λ _=>⟨_,List.mem_cons_self ..,c⟩,λ _=>by omega⟩⟩
   rw [f154.l0,f154.u0,if_pos (by omega),if_pos (by omega),if_pos (by omega),Int.toNat_natCast,under_eq,Option.bind_some,if_pos (by simpa using c)]
  ·refine ⟨r,gb.step (λ k n=> ?_) h1, ?_⟩
   ·rw [f154.l0,f154.u0,if_pos (by omega),if_pos (by omega),if_pos (by omega),Int.toNat_natCast,under_eq,Option.bind_some,if_neg (by simpa using c),I8 hl h]
   ·rw [h2,Ky h]
    constructor
    ·rintro ⟨y,hy,hu⟩;exact ⟨y,List.mem_cons_of_mem _ hy,hu⟩
    ·rintro ⟨y,hy,hu⟩
     rcases List.mem_cons.1 hy with rfl|hy
     ·exact absurd hu c
     ·exact ⟨y,hy,hu⟩
open Classical in
theorem JO (l:List (Int×Int)) (x:Int×Int) (hl:l.length<=1000000000000000):Ev (λ k=>f106 k l x) (decide (∃y∈l,EJ y x),()):=by
 obtain ⟨r,h1,h2⟩:=GQ l x hl l.length 0 (by omega)
 have h1:Ev (λ k=>f154 k l x) (r,()):=h1.diag
 have h:=h1.bind (g:=λ _ r1=>some (decide (0<=r1.1),())) (Ev.pure _)
 rw [show decide (∃y∈l,EJ y x)=decide (0<=r) from decide_eq_decide.2 (by rw [h2];simp)]
 exact h
def Gr (l:List (Int×Int)) (x:Int×Int):Prop:=x∈l/\∀y∈l,¬EJ y x
theorem F0 (l:List (Int×Int)) (hl:l.length * 16<=140737488351232):∀(d i:Nat) (out:List (Int×Int)),i+d=l.length->out.length<=i->(∀x,x∈out↔x∈l.take i/\∀y∈l,¬EJ y x)->
 ∃m:List (Int×Int),gb (λ k n=>f50.l0 k n out l (l.length:Int) (i:Int)) (m,())/\m.Pairwise EE/\(∀x,x∈m↔Gr l x)/\m.length<=l.length
 | 0,i,out,hd,ho,hm=>by
   obtain ⟨m1,h1,h2,h3⟩:=Kl out (by omega)
   have h4:=IQ m1 (by rw [h2.length_eq];omega)
   obtain ⟨h5,h6,_⟩:=HC h3 m1.length (Nat.le_refl _)
   refine ⟨DN m1 m1.length,gb.step (g:=λ k n=>(Lv k out ()).bind λ r2=>((f111 k r2.1.1).bind λ r3=>some (r3.1.1,()))) (λ k n=> ?_) (h1.two.bind (h4.two.bind (gb.pure _))),h5,λ x=> ?_, ?_⟩
   ·rw [f50.l0,f50.u0,if_neg (by omega)]
   ·rw [h6,List.take_length,h2.mem_iff,hm,List.take_of_length_le (by omega)];rfl
   ·have:=Ib m1 m1.length
    have:=h2.length_eq;omega
 |d+1,i,out,hd,ho,hm=>by
  have h:i <l.length:=by omega
  have hw:=I8 (l:=l) (by omega) h
  have hs:=JO l (l.getD i (0,0)) (by omega)
  have ht:l.take (i+1)=l.take i++[l.getD i (0,0)]:=Ep h
  by_cases c:∃y∈l,EJ y (l.getD i (0,0))
  ·obtain ⟨m,h1,h2⟩:=F0 l hl d (i+1) out (by omega) (by omega) (λ x=>by
    rw [hm,ht,List.mem_append,List.mem_singleton]
    refine ⟨λ z=>⟨.inl z.1,z.2⟩,λ z=>⟨z.1.elim id λ e=> ?_,z.2⟩⟩
    subst e
    obtain ⟨y,hy,hu⟩:=c
    exact absurd hu (z.2 y hy))
   refine ⟨m,gb.step (g:=λ k n=>(f106 k l (l.getD i (0,0))).bind λ r1=>if ¬(r1.1=true) then (if (out.length+1) * 16<=140737488355328 then f50.l0 k n (out++[l.getD i (0,0)]) l (l.length:Int) ((i+1:Nat):Int) else none) else f50.l0 k n out l (l.length:Int) ((i+1:Nat):Int)) (λ k n=> ?_) (hs.two.bind (gb.of (λ k n=> ?_) h1)),h2⟩
   ·rw [f50.l0,f50.u0,if_pos (by omega),if_pos (by omega),if_pos (by omega),Int.toNat_natCast]
    simp only [f50.mm,f50.E1,hw]
   ·rw [if_neg (by simpa using c)]
  ·obtain ⟨m,h1,h2⟩:=F0 l hl d (i+1) (out++[l.getD i (0,0)]) (by omega) (by simp;omega) (λ x=>by
    rw [ht,List.mem_append,List.mem_singleton,List.mem_append,List.mem_singleton,hm]
    constructor
    ·rintro (z|rfl)
     ·exact ⟨.inl z.1,z.2⟩
     ·exact ⟨.inr rfl,λ y hy hu=>c ⟨y,hy,hu⟩⟩
    ·rintro ⟨z|z,z2⟩
     ·exact .inl ⟨z,z2⟩
     ·exact .inr z)
   refine ⟨m,gb.step (g:=λ k n=>(f106 k l (l.getD i (0,0))).bind λ r1=>if ¬(r1.1=true) then (if (out.length+1) * 16<=140737488355328 then f50.l0 k n (out++[l.getD i (0,0)]) l (l.length:Int) ((i+1:Nat):Int) else none) else f50.l0 k n out l (l.length:Int) ((i+1:Nat):Int)) (λ k n=> ?_) (hs.two.bind (gb.of (λ k n=> ?_) h1)),h2⟩
   ·rw [f50.l0,f50.u0,if_pos (by omega),if_pos (by omega),if_pos (by omega),Int.toNat_natCast]
    simp only [f50.mm,f50.E1,hw]
   ·rw [if_pos (by simpa using c),if_pos (by omega)]
theorem Ig (l:List (Int×Int)) (hl:l.length * 16<=140737488351232):∃m:List (Int×Int),Ev (λ k=>f50 k l) (m,())/\m.Pairwise EE/\(∀x,x∈m↔Gr l x)/\m.length<=l.length:=by
 obtain ⟨m,h1,h2⟩:=F0 l hl l.length 0 [] (by omega) (Nat.zero_le _) (λ x=>by simp)
 exact ⟨m,h1.diag,h2⟩
end Go.Proofs.Ythfjdcdbimjkjaa.Rw
namespace Go.Proofs.Ythfjdcdbimjkjaa.Rw
open Go.Rx
theorem Gu (l:List (Int×Int)) (hl:l.length<=1000000000000000):∀(d i:Nat),i+d=l.length->gb (λ k n=>f49.l0 k n l l (l.length:Int) (i:Int)) (true,())
 | 0,i,hd=>gb.step (g:=λ _ _=>some (true,())) (λ k n=>by rw [f49.l0,f49.u0,if_neg (by omega)]) (gb.pure _)
 |d+1,i,hd=>by
  have h:i <l.length:=by omega
  refine gb.step (λ k n=> ?_) (Gu l hl d (i+1) (by omega))
  rw [f49.l0,f49.u0,if_pos (by omega),if_pos (by omega),if_pos (by omega),if_pos (by omega),if_pos (by omega),if_neg (by simp),I8 hl h]
theorem HG (l:List (Int×Int)) (hl:l.length<=1000000000000000):Ev (λ k=>f49 k l l) (true,()):=by
 refine Ev.of (λ k=> ?_) (Gu l hl l.length 0 (by omega)).diag
 simp only [f49,f49.sk,not_true_eq_false,if_false]
 rfl
theorem KV (k:Nat) (y x:Int×Int):f48 k y x=some (decide (y.1<=x.1/\y.2<=x.2),()):=by
 simp only [f48,f48.sk,f48.r1,f48.DZ]
 by_cases h2:y.1<=x.1<;>simp [h2]
end Go.Proofs.Ythfjdcdbimjkjaa.Rw
namespace Go.Proofs.Ythfjdcdbimjkjaa.Rw
open Go.Rx
abbrev W2:=List Int×(Int×Int)
abbrev L2:=Int×W2
def Eh (x y:Int×Int):Prop:=x.1<=y.1/\x.2<=y.2
def ES (x y:Int×Int):Prop:=x.1 <y.1\/x.1=y.1/\x.2<=y.2
instance (x y:Int×Int):Decidable (Eh x y):=inferInstanceAs (Decidable (_/\_))
instance (x y:Int×Int):Decidable (ES x y):=inferInstanceAs (Decidable (_\/_))
theorem HK {x y z:Int×Int} (h1:ES x y) (h2:ES y z):ES x z:=by unfold ES at *; omega
theorem Io (x:Int×Int):ES x x:=by unfold ES;omega
theorem HJ {x y z:Int×Int} (h1:Eh x y) (h2:Eh y z):Eh x z:=by unfold Eh at *; omega
def c2 (E:List Ed) (b:List Int) (k:Int):Int×Int:=(DG E k,b.getD k.toNat 0)
def EY (p q:Int×Int):Int×Int:=(p.1+q.1,p.2+q.2)
inductive Fj (E:List Ed) (b:List Int) (s:Int):Int->W2->Prop
 |nil:Fj E b s s ([],(0,0))
 |snoc {u:Int} {w:W2} (k:Int):Fj E b s u w->Cp k E.length->DX E k=u->Fj E b s (D8 E k) (w.1++[k],EY w.2 (c2 E b k))
def HT (E:List Ed) (b:List Int):Prop:=∀k,Cp k E.length->(0<=(c2 E b k).1/\(c2 E b k).1<=1099511627776)/\0<=(c2 E b k).2/\(c2 E b k).2<=1099511627776
theorem Fj.le {E:List Ed} {b:List Int} {s v:Int} {w:W2} (hc:HT E b) (h:Fj E b s v w):(0<=w.2.1/\w.2.1<=1099511627776 * (w.1.length:Int))/\0<=w.2.2/\w.2.2<=1099511627776 * (w.1.length:Int):=by
 induction h with
 |nil=>simp
 |snoc k _ hk _ ih=>
  have:=hc k hk
  simp only [EY,List.length_append,List.length_cons,List.length_nil]
  omega
def EP:List (List W2)->Nat
 | []=>0
 |l::r=>l.length+EP r
theorem Hl {m:Nat}:∀{e4:List (List W2)},(∀l∈e4,l.length<=m)->EP e4<=m * e4.length
 | [],_=>by simp [EP]
 |l::r,h=>by
  have h1:=h l (by simp)
  have h2:=Hl (e4:=r) (λ l hl=>h l (List.mem_cons_of_mem _ hl))
  simp only [EP,List.length_cons,Nat.mul_add]
  omega
theorem Gz {x:W2}:∀{e4:List (List W2)} {v:Nat},v <e4.length->EP (e4.set v (e4.getD v []++[x]))=EP e4+1
 |l::r,0,_=>by simp [EP];omega
 |l::r,v+1,h=>by
  have:=Gz (x:=x) (e4:=r) (v:=v) (by simpa using h)
  simp only [List.set_cons_succ,EP,List.getD_cons_succ,this];omega
theorem Gf {α:Type} {d x:α} {e4:List α} {v u:Nat} (hv:v <e4.length):(e4.set v x).getD u d=if u=v then x else e4.getD u d:=by
 simp only [List.getD_eq_getElem?_getD,List.getElem?_set,hv,if_true]
 split
 ·rename_i h;subst h;simp
 ·rename_i h;rw [if_neg (λ z=>h z.symm)]
def Gd (e4:List (List W2)) (op:List L2) (v:Int) (p:Int×Int):Prop:=(∃z∈e4.getD v.toNat [],Eh z.2 p)\/∃y∈op,y.1=v/\Eh y.2.2 p
def JF (l:List W2):Prop:=l.Pairwise λ x y=>x.2.1 <y.2.1/\y.2.2 <x.2.2
structure MI (E:List Ed) (b:List Int) (s:Int) (n:Nat) (ex:Int->W2->Int->Prop) (e4:List (List W2)) (op:List L2):Prop where
 len:e4.length=n
 pd:∀v,Cp v n->∀x∈e4.getD v.toNat [],Fj E b s v x/\x.1.length<=EP e4
 po:∀y∈op,Cp y.1 n/\Fj E b s y.1 y.2/\y.2.1.length<=EP e4
 st:∀v,Cp v n->JF (e4.getD v.toNat [])/\(e4.getD v.toNat []).length<=50
 lo:∀v,Cp v n->∀x∈e4.getD v.toNat [],∀y∈op,ES x.2 y.2.2
 c0:Gd e4 op s (0,0)
 q5:∀v,Cp v n->∀x∈e4.getD v.toNat [],∀k,Cp k E.length->DX E k=v-> ¬ex v x k->Gd e4 op (D8 E k) (EY x.2 (c2 E b k))
def FC:Int->W2->Int->Prop:=λ _ _ _=>False
section
variable {E:List Ed} {b:List Int} {s:Int} {n:Nat}
theorem EN (n v:Nat):(List.replicate n ([]:List W2)).getD v []=[]:=by
 rw [List.getD_eq_getElem?_getD,List.getElem?_replicate];split<;>rfl
theorem MI.start (hs:Cp s n):MI E b s n FC (List.replicate n []) [(s,([],(0,0)))] where
 len:=List.length_replicate
 pd v hv x hx:=by rw [EN] at hx;cases hx
 po y hy:=by
  obtain rfl:=List.mem_singleton.1 hy
  exact ⟨hs,.nil,Nat.zero_le _⟩
 st v hv:=by rw [EN];exact ⟨List.Pairwise.nil,by simp⟩
 lo v hv x hx:=by rw [EN] at hx;cases hx
 c0:=.inr ⟨_,List.mem_singleton.2 rfl,rfl,by unfold Eh;simp⟩
 q5 v hv x hx:=by rw [EN] at hx;cases hx
structure JX (op:List L2) (x:L2) (op':List L2):Prop where
 mem:∀y,y∈op↔y=x\/y∈op'
 len:op.length=op'.length+1
 least:∀y∈op,ES x.2.2 y.2.2
theorem MI.K8 {e4:List (List W2)} {op op':List L2} {x:L2} (h:MI E b s n FC e4 op) (hp:JX op x op') (hb:∃z∈e4.getD x.1.toNat [],Eh z.2 x.2.2):MI E b s n FC e4 op':=by
 have hc:∀v p,Gd e4 op v p->Gd e4 op' v p:=λ v p hc=>by
  rcases hc with hc|⟨y,h1,h2,h3⟩
  ·exact .inl hc
  ·rcases (hp.mem y).1 h1 with rfl|h1
   ·obtain ⟨z,g1,g2⟩:=hb
    rw [h2] at g1
    exact .inl ⟨z,g1,HJ g2 h3⟩
   ·exact .inr ⟨y,h1,h2,h3⟩
 exact ⟨h.len,h.pd,λ y hy=>h.po y ((hp.mem y).2 (.inr hy)),h.st,λ v hv z hz y hy=>h.lo v hv z hz y ((hp.mem y).2 (.inr hy)),hc _ _ h.c0,λ v hv z hz k hk hf he=>hc _ _ (h.q5 v hv z hz k hk hf he)⟩
theorem Fi {v:Int} (h:Cp v n):v.toNat <n:=by unfold Cp at h;omega
theorem toNat_eq {u v:Int} (hu:Cp u n) (hv:Cp v n):u.toNat=v.toNat↔u=v:=by unfold Cp at *; omega
theorem MI.settle {e4:List (List W2)} {op op':List L2} {x:L2} (h:MI E b s n FC e4 op) (hp:JX op x op') (hb: ¬∃z∈e4.getD x.1.toNat [],Eh z.2 x.2.2) (h50:(e4.getD x.1.toNat []).length <50):
 MI E b s n (λ v y k=>v=x.1/\y=x.2) (e4.set x.1.toNat (e4.getD x.1.toNat []++[x.2])) op':=by
 have hx:x∈op:=(hp.mem x).2 (.inl rfl)
 obtain ⟨x1,x2,dr⟩:=h.po x hx
 have hlt:x.1.toNat <e4.length:=by rw [h.len];exact Fi x1
 have Li:=Gz (x:=x.2) hlt
 have hg:=λ (u:Nat)=>Gf (d:=[]) (x:=e4.getD x.1.toNat []++[x.2]) (e4:=e4) (u:=u) hlt
 have hm:∀v,Cp v n->∀y,y∈(e4.set x.1.toNat (e4.getD x.1.toNat []++[x.2])).getD v.toNat []->y∈e4.getD v.toNat []\/(v=x.1/\y=x.2):=λ v hv y hy=>by
  rw [hg] at hy
  split at hy
  ·rename_i e
   rw [e]
   rcases List.mem_append.1 hy with hy|hy
   ·exact .inl hy
   ·exact .inr ⟨(toNat_eq hv x1).1 e,List.mem_singleton.1 hy⟩
  ·exact .inl hy
 have hk:∀(u:Nat) y,y∈e4.getD u []->y∈(e4.set x.1.toNat (e4.getD x.1.toNat []++[x.2])).getD u []:=λ u y hy=>by
  rw [hg]
  split
  ·rename_i e;rw [<-e];exact List.mem_append_left _ hy
  ·exact hy
 have hc:∀v p,Gd e4 op v p->Gd (e4.set x.1.toNat (e4.getD x.1.toNat []++[x.2])) op' v p:=λ v p hc=>by
  rcases hc with ⟨z,g1,g2⟩|⟨y,h1,h2,h3⟩
  ·exact .inl ⟨z,hk _ _ g1,g2⟩
  ·rcases (hp.mem y).1 h1 with rfl|h1
   ·refine .inl ⟨y.2, ?_,h3⟩
    rw [<-h2,hg,if_pos rfl];simp
   ·exact .inr ⟨y,h1,h2,h3⟩
 refine ⟨by rw [List.length_set];exact h.len,λ v hv y hy=> ?_,λ y hy=> ?_,λ v hv=> ?_,λ v hv z hz y hy=> ?_,hc _ _ h.c0,λ v hv z hz k hk hf he=> ?_⟩
 ·rw [Li]
  rcases hm v hv y hy with hy|⟨rfl,rfl⟩
  ·have:=h.pd v hv y hy;exact ⟨this.1,by omega⟩
  ·exact ⟨x2,by omega⟩
 ·rw [Li]
  obtain ⟨g1,g2,g3⟩:=h.po y ((hp.mem y).2 (.inr hy))
  exact ⟨g1,g2,by omega⟩
 ·rw [hg]
  split
  ·rename_i e
   rw [<-e]
   obtain ⟨g1,g2⟩:=h.st v hv
   refine ⟨List.pairwise_append.2 ⟨g1,List.pairwise_singleton ..,λ z hz y hy=> ?_⟩,by rw [List.length_append,e,List.length_singleton];omega⟩
   obtain rfl:=List.mem_singleton.1 hy
   have q1:=h.lo v hv z hz x hx
   have q2: ¬Eh z.2 x.2.2:=λ q=>hb ⟨z,by rw [<-e];exact hz,q⟩
   unfold Eh at q2
   unfold ES at q1
   omega
  ·exact h.st v hv
 ·rcases hm v hv z hz with hz|⟨_,rfl⟩
  ·exact h.lo v hv z hz y ((hp.mem y).2 (.inr hy))
  ·exact hp.least y ((hp.mem y).2 (.inr hy))
 ·rcases hm v hv z hz with hz|he'
  ·exact hc _ _ (h.q5 v hv z hz k hk hf (λ q=>q))
  ·exact absurd he' he
theorem MI.MP {e4:List (List W2)} {op op':List L2} {x:L2} {k:Int} {ex ex':Int->W2->Int->Prop} (h:MI E b s n ex e4 op) (hc:HT E b) (hE:∀k,Cp k E.length->Cp (D8 E k) n) (hx:Cp x.1 n) (hd:x.2∈e4.getD x.1.toNat []) (hlo:∀v,Cp v n->∀z∈e4.getD v.toNat [],ES z.2 x.2.2) (hlen:x.2.1.length+1<=EP e4) (hp:Fj E b s x.1 x.2) (hk:Cp k E.length) (hf:DX E k=x.1)
 (hex:∀v y k',ex v y k'-> ¬ex' v y k'->v=x.1/\y=x.2/\k'=k)
 (ho:(op'=op/\∃z∈e4.getD (D8 E k).toNat [],Eh z.2 (EY x.2.2 (c2 E b k)))\/op'=op++[(D8 E k,(x.2.1++[k],EY x.2.2 (c2 E b k)))]):MI E b s n ex' e4 op':=by
 have hm:∀y,y∈op->y∈op':=λ y hy=>by
  rcases ho with ⟨rfl,_⟩|rfl
  ·exact hy
  ·exact List.mem_append_left _ hy
 have hm':∀y,y∈op'->y∈op\/y=(D8 E k,(x.2.1++[k],EY x.2.2 (c2 E b k))):=λ y hy=>by
  rcases ho with ⟨rfl,_⟩|rfl
  ·exact .inl hy
  ·rcases List.mem_append.1 hy with hy|hy
   ·exact .inl hy
   ·exact .inr (List.mem_singleton.1 hy)
 have Lj:∀v p,Gd e4 op v p->Gd e4 op' v p:=λ v p hc=>by
  rcases hc with hc|⟨y,h1,h2,h3⟩
  ·exact .inl hc
  ·exact .inr ⟨y,hm y h1,h2,h3⟩
 refine ⟨h.len,h.pd,λ y hy=> ?_,h.st,λ v hv z hz y hy=> ?_,Lj _ _ h.c0,λ v hv z hz k' hk' hf' he=> ?_⟩
 ·rcases hm' y hy with hy|rfl
  ·exact h.po y hy
  ·exact ⟨hE k hk,.snoc k hp hk hf,by simpa using hlen⟩
 ·rcases hm' y hy with hy|rfl
  ·exact h.lo v hv z hz y hy
  ·refine HK (hlo v hv z hz) ?_
   have:=hc k hk
   unfold ES EY
   simp only
   omega
 ·by_cases g:ex v z k'
  ·obtain ⟨rfl,rfl,rfl⟩:=hex v z k' g he
   rcases ho with ⟨rfl,A7⟩|rfl
   ·exact .inl A7
   ·exact .inr ⟨_,List.mem_append_right _ (List.mem_singleton.2 rfl),rfl,by unfold Eh;exact ⟨Int.le_refl _,Int.le_refl _⟩⟩
  ·exact Lj _ _ (h.q5 v hv z hz k' hk' hf' g)
structure Fw (E:List Ed) (b:List Int) (s t:Int) (l:List W2):Prop where
 len:l.length<=50
 path:∀x∈l,Fj E b s t x
 wl:∀x∈l,x.1.length<=10000
 st:JF l
 all:∀w,Fj E b s t w->∃x∈l,Eh x.2 w.2
theorem MI.done {e4:List (List W2)} (h:MI E b s n FC e4 []) (hn:n<=200) (hF:∀k,Cp k E.length->Cp (DX E k) n/\Cp (D8 E k) n) (hs:Cp s n) {t:Int} (ht:Cp t n):Fw E b s t (e4.getD t.toNat []) where
 len:=(h.st t ht).2
 path x hx:=(h.pd t ht x hx).1
 wl x hx:=by
  have h1:=(h.pd t ht x hx).2
  have h2:=Hl (m:=50) (e4:=e4) λ l hl=>by
   obtain ⟨i,hi,rfl⟩:=List.getElem_of_mem hl
   have:=(h.st (i:Int) ⟨Int.natCast_nonneg _,by rw [<-h.len];omega⟩).2
   rw [Int.toNat_natCast,List.getD_eq_getElem?_getD,List.getElem?_eq_getElem hi] at this
   exact this
  rw [h.len] at h2
  omega
 st:=(h.st t ht).1
 all:=λ w hw=>by
  have key:∀v w,Fj E b s v w->Cp v n/\∃x∈e4.getD v.toNat [],Eh x.2 w.2:=λ v w hw=>by
   induction hw with
   |nil=>
    rcases h.c0 with g|⟨y,g,_⟩
    ·exact ⟨hs,g⟩
    ·cases g
   |snoc k _ hk hf ih=>
    obtain ⟨i1,x,i2,i3⟩:=ih
    refine ⟨(hF k hk).2, ?_⟩
    rcases h.q5 _ i1 x i2 k hk hf (λ q=>q) with ⟨z,g1,g2⟩|⟨y,g,_⟩
    ·refine ⟨z,g1,HJ g2 ?_⟩
     unfold Eh EY at *
     simp only
     omega
    ·cases g
  exact (key t w hw).2
end
end Go.Proofs.Ythfjdcdbimjkjaa.Rw
namespace Go.Proofs.Ythfjdcdbimjkjaa.Rw
open Go.Rx
def Ec (b:List Int):List Int->Int
 | []=>0
 |k::w=>b.getD k.toNat 0+Ec b w
theorem Gj (b:List Int) (k:Int):∀w:List Int,Ec b (w++[k])=Ec b w+b.getD k.toNat 0
 | []=>by simp [Ec]
 |x::w=>by simp only [List.cons_append,Ec];rw [Gj b k w];omega
section
variable {E:List Ed} {b:List Int} {s:Int}
theorem Fj.chain {v:Int} {w:W2} (h:Fj E b s v w):Fl E [] none w.1/\EC E w.1=w.2.1/\Ec b w.1=w.2.2/\(∀y,w.1.getLast?=some y->D8 E y=v)/\(∀k∈w.1,Cp k E.length)/\(w.1=[]->v=s):=by
 induction h with
 |nil=>exact ⟨trivial,rfl,rfl,by simp,by simp,λ _=>rfl⟩
 |snoc k h hk hf ih=>
  obtain ⟨i1,i2,i3,i4,i5,i6⟩:=ih
  refine ⟨FO hk _ _ i1 λ y hy=>⟨?_,by simp⟩,by rw [Gk,i2];rfl,by rw [Gj,i3];rfl,λ y hy=> ?_,λ k' hk'=> ?_,λ e=>by simp at e⟩
  ·rename_i u w
   cases hl:w.1.getLast? with
   |none=>rw [hl] at hy;cases hy
   |some z=>
    rw [hl] at hy
    have e:z=y:=by simpa using hy
    rw [<-e,i4 z hl,hf]
  ·simp only [List.getLast?_append,List.getLast?_singleton,Option.some_or,Option.some.injEq] at hy
   rw [<-hy]
  ·rcases List.mem_append.1 hk' with g|g
   ·exact i5 k' g
   ·rw [List.mem_singleton.1 g];exact hk
theorem Hy:∀(w pre:List Int) (v:Int) (p:Int×Int),Fj E b s v (pre,p)->(∀y,pre.getLast?=some y->D8 E y=v)->Fl E [] pre.getLast? w->(pre=[]->∀y,w.head?=some y->DX E y=s)->∃v',Fj E b s v' (pre++w,EY p (EC E w,Ec b w))/\v'=FZ E v pre.getLast? w
 | [],pre,v,p,h,hl,_,_=>⟨v,by simpa [EC,Ec,EY] using h,by
   simp only [FZ]
   split
   ·rfl
   ·rename_i y hy;exact (hl y hy).symm⟩
 |x::w,pre,v,p,h,hl,hc,hf=>by
  have hx:DX E x=v:=by
   cases hp:pre.getLast? with
   |none=>
    have e:pre=[]:=List.getLast?_eq_none_iff.1 hp
    rw [hf e x rfl]
    exact (h.chain.2.2.2.2.2 e).symm
   |some y=>rw [<-(hc.2.1 y hp).1,hl y hp]
  obtain ⟨v',g1,g2⟩:=Hy w (pre++[x]) (D8 E x) _ (.snoc x h hc.1 hx) (λ y hy=>by simp at hy;rw [hy]) (by simpa using hc.2.2) (λ e=>by simp at e)
  refine ⟨v', ?_, ?_⟩
  ·have e:pre++x::w=pre++[x]++w:=by simp
   rw [e]
   have e2:EY p (EC E (x::w),Ec b (x::w))=EY (EY p (c2 E b x)) (EC E w,Ec b w):=by
    simp only [EY,EC,Ec,c2,Prod.mk.injEq];omega
   rw [e2];exact g1
  ·rw [g2]
   simp only [FZ]
   have:∀(l:List Int) (u:Int) (q:Int),FZ E u (some q) l=FZ E v (some q) l:=λ l=>by
    induction l with
    |nil=>intros;rfl
    |cons z l ih=>intro u q;simp only [FZ];exact ih u z
   simp only [List.getLast?_append,List.getLast?_singleton,Option.some_or]
   exact this _ _ _
theorem Kt {way:List Int} {sum at_:Int} (h:FG E [] s way sum at_):Fj E b s at_ (way,(sum,Ec b way)):=by
 obtain ⟨v',g1,g2⟩:=Hy (b:=b) way [] s (0,0) .nil (λ y hy=>by cases hy) h.ch (λ _ y hy=>h.fst y hy)
 have e:v'=at_:=by
  rw [h.at_]
  have key:∀(w:List Int) (p:Option Int),FZ E s p w=match (match w.getLast? with|some z=>some z|none=>p) with|none=>s|some y=>D8 E y:=λ w=>by
   induction w with
   |nil=>intro p;rfl
   |cons x w ih=>
    intro p
    simp only [FZ]
    rw [ih]
    cases hl:w.getLast? with
    |none=>
     have e:w=[]:=List.getLast?_eq_none_iff.1 hl
     subst e;rfl
    |some z=>rw [List.getLast?_cons,hl];rfl
  rw [g2,show ([]:List Int).getLast?=none from rfl,key]
  cases way.getLast?<;>rfl
 rw [<-e,h.sm]
 simpa [EY] using g1
theorem Fw.front {t:Int} {l:List W2} (h:Fw E b s t l):(l.map (·.2)).Pairwise EE/\∀x,x∈l.map (·.2)↔Gr (l.map (·.2)) x:=by
 have hs:(l.map (·.2)).Pairwise λ x y=>x.1 <y.1/\y.2 <x.2:=List.pairwise_map.2 h.st
 refine ⟨hs.imp λ g=>.inl g.1,λ x=>⟨λ hx=>⟨hx,λ y hy hu=> ?_⟩,λ hx=>hx.1⟩⟩
 have key:∀(m:List (Int×Int)),m.Pairwise (λ x y=>x.1 <y.1/\y.2 <x.2)->x∈m->y∈m->False:=λ m=>by
  induction m with
  |nil=>intro _ h1;cases h1
  |cons z m ih=>
   intro hp h1 h2
   obtain ⟨p1,p2⟩:=List.pairwise_cons.1 hp
   unfold EJ at hu
   rcases List.mem_cons.1 h1 with rfl|h1
   ·rcases List.mem_cons.1 h2 with rfl|h2
    ·omega
    ·have:=p1 y h2;omega
   ·rcases List.mem_cons.1 h2 with h2|h2
    ·have:=p1 x h1;rw [<-h2] at this;omega
    ·exact ih p2 h1 h2
 exact key _ hs hx hy
end
end Go.Proofs.Ythfjdcdbimjkjaa.Rw
