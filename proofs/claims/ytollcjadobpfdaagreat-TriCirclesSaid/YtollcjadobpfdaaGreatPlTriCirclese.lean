/- Plain laws for TriCircles. No condition. -/
import Derived.Test.YtollcjadobpfdaaGreatPlTriCirclesd
set_option linter.unusedVariables false
set_option linter.unusedSimpArgs false
set_option linter.unusedSectionVars false
namespace Go.Proofs.YtollcjadobpfdaaGreat.Rw
open Go.Rx Go.Sort
section
variable {l:List (Int×Int)} {k:Nat}
theorem TA {q:Int×Int} (h:FJ q):f101 k q=some (true,()):=by
 classical
 rw [Sg,decide_eq_true h]
theorem Nb (hok:∀x∈l,FJ x) (hl:l.length<=1000000):∀(d i n:Nat),i+d=l.length->d <n->
 f67.l0 k n l (l.length:Int) (i:Int)=f67.l0 k 1 l (l.length:Int) (l.length:Int)
 |d,i,0,hi,hn=>by omega
 | 0,i,n+1,hi,hn=>by
   obtain rfl:i=l.length:=by omega
   rw [f67.l0,f67.E0,if_neg (by omega),f67.l0,f67.E0,if_neg (by omega)]
 |d+1,i,n+1,hi,hn=>by
  have h:i <l.length:=by omega
  have e:l.getD (i:Int).toNat (0,0)=l[i]:=by simp [List.getD_eq_getElem?_getD,List.getElem?_eq_getElem h]
  have o:=TA (k:=k) (hok _ (List.getElem_mem h))
  rw [f67.l0,f67.E0,if_pos (by omega),if_pos (by omega),if_pos (by omega),e,o,Option.bind_some,if_neg (by simp),CV (by omega) (by omega),show (i:Int)+1=((i+1:Nat):Int) by omega]
  exact Nb hok hl d (i+1) n (by omega) (by omega)
end
def O7 (p:Int->Int×Int) (cs:List ET):Prop:=∀a b c d,((a,b),c)∈Fo cs->((b,a),d)∈Fo cs-> ¬Gb p a b c d
def R4 (p:List (Int×Int)):Prop:=∀m:Int,0<=m->m <p.length->EP (EZ p 0) (EZ p 1) (EZ p m)=0
def T7 (p:List (Int×Int)):Prop:=p.length<=10/\∃o:Int×Int,∀x∈p,(-64<=x.1 - o.1/\x.1 - o.1<=64)/\ -64<=x.2 - o.2/\x.2 - o.2<=64
theorem QK {l:List (Int×Int)} (hok:∀x∈l,FJ x) (hl:l.length<=200):∃p:List (Int×Int),p.Pairwise G8/\(∀x,x∈p↔x∈l)/\p.length<=l.length/\Ev (λ k=>f113 k l) (p,())/\
 ((p.length <3\/R4 p)->Ev (λ k=>f67 k l) (([],[]),14,()))/\
 (3<=p.length-> ¬R4 p->T7 p->∃R,Ev (λ k=>f67 k l) ((p,R),0,())/\Fm (EZ p) 2097153 p.length R/\R.Pairwise F8/\O7 (EZ p) R/\R≠[]):=by
 obtain ⟨p,zW,hp,hm,hlen⟩:=Qw l (by omega)
 have Se:∀x∈p,FJ x:=λ x hx=>hok x ((hm x).1 hx)
 have hr:=KZ Se (MR hp)
 obtain ⟨Ks,hs⟩:=zW
 have start:∀k,1000<=k->Ks<=k->f67 k l=if (p.length:Int) <3 then some (([],[]),14,()) else (f114 k p).bind λ r3=>(if (r3.1.length:Int)=0 then some (([],[]),14,()) else ((f115 k p r3.1 ()).bind λ r4=>some ((p,r4.1),0,()))):=λ k h1 h2=>by
  have b:=Nb (k:=k) hok (by omega) l.length 0 k (by omega) (by omega)
  simp only [f67,f67.ES]
  rw [if_neg (by omega)]
  refine Eq.trans b ?_
  rw [f67.l0,f67.E0,if_neg (by omega),show f113 k l=_ from hs k h2,Option.bind_some]
 refine ⟨p,hp,hm,hlen,⟨Ks,hs⟩,λ h=> ?_,λ h3 hf hn=> ?_⟩
 ·refine ⟨max Ks 1000,λ k hk=> ?_⟩
  show f67 k l=_
  rw [start k (by omega) (by omega)]
  by_cases c:p.length <3
  ·rw [if_pos (by omega)]
  ·obtain ⟨out,e1,e2,e3,e4⟩:=Od Se (by omega) (by omega) hr
   have ho:out=[]:=Classical.byContradiction λ z=>by
    have oy:=e3 z
    obtain ⟨t,ht⟩:=List.exists_mem_of_ne_nil _ (show out.map Ff≠[] by simpa using z)
    obtain ⟨m,m0,m1,hm⟩:=(oy.wide (List.ne_nil_of_mem ht)).off (i:=0) (j:=1) (by omega) (by omega) (by omega) (by omega) (by omega)
    exact hm ((h.resolve_left c) m m0 m1)
   rw [if_neg (by omega),e1 k (by omega),Option.bind_some,ho,if_pos (by simp)]
 ·obtain ⟨out,e1,e2,e3,e4⟩:=Od Se (by omega) (by omega) hr
  have ho:out≠[]:=λ z=>hf (e4 z)
  have oy:=e3 ho
  obtain ⟨KM,o,Tt⟩:=hn
  have Bi:∀i:Int,0<=i->i <(p.length:Int)->(-64<=(EZ p i).1 - o.1/\(EZ p i).1 - o.1<=64)/\ -64<=(EZ p i).2 - o.2/\(EZ p i).2 - o.2<=64:=λ i h0 h1=>by
   have:EZ p i∈p:=by
    unfold EZ
    rw [List.getD_eq_getElem?_getD,List.getElem?_eq_getElem (by omega:i.toNat <p.length)]
    exact List.getElem_mem _
   exact Tt _ this
  have bd:=Qc (o:=o) oy KM Bi
  obtain ⟨R,r1,r2,r3,r4⟩:=Sq (Dv:=λ cs=>(FB (KC (EZ p) o p.length) cs).toNat) Se (by omega) oy (λ cs a b c d h g1 g2 w=>Sx h KM Bi g1 g2 w) (by omega)
  refine ⟨R,⟨max Ks 8000000000000,λ k hk=> ?_⟩,r2,r3,r4,λ z=> ?_⟩
  ·show f67 k l=_
   rw [start k (by omega) (by omega),if_neg (by omega),e1 k (by omega),Option.bind_some,if_neg (by
    have:out.length≠0:=λ z=>ho (List.length_eq_zero_iff.1 z)
    show ¬(out.length:Int)=0
    omega)]
   simp only []
   rw [r1 k (by omega) (by omega),Option.bind_some]
  ·subst z
   obtain ⟨c,hc,_⟩:=r2.used 0 (by omega) (by omega)
   cases hc
end Go.Proofs.YtollcjadobpfdaaGreat.Rw
namespace Go.Proofs.YtollcjadobpfdaaGreat.Rw
open Go.Rx Go.Sort
theorem QX {l:List ET} (h:l.Pairwise F8):Mr l:=λ i h0 h1=>by
 have:=List.pairwise_iff_getElem.1 h (i - 1).toNat i.toNat (by omega) (by omega) (by omega)
 unfold FT
 rw [List.getD_eq_getElem?_getD,List.getElem?_eq_getElem (by omega:(i - 1).toNat <l.length),List.getD_eq_getElem?_getD,List.getElem?_eq_getElem (by omega:i.toNat <l.length)]
 exact this
section
variable {p:List (Int×Int)} {R:List ET} {k:Nat} {K:Int}
theorem O9 (ho:∀x∈p,FJ x) (hp:p.Pairwise G8) (KM:p.length<=10) (h:Fm (EZ p) K p.length R) (hR:R.Pairwise F8):Jm p R:=by
 have:=IG h
 have DA:=Nat.mul_le_mul KM KM
 exact ⟨by omega,by omega,ho,MR hp,QX hR,h.cell⟩
theorem Ot (ho:∀x∈p,FJ x) (hp:p.Pairwise G8) (KM:p.length<=10) (h:Fm (EZ p) K p.length R) (hR:R.Pairwise F8) (hne:R≠[]):Mg p R=0:=by
 unfold Mg
 rw [if_pos (Ph (O9 ho hp KM h hR)),if_neg (λ z=>hne (List.length_eq_zero_iff.1 z)),if_pos ⟨h.HM,h.I7,h.used⟩]
theorem Nd {m:List ((Int×Int)×Int)} (ho:∀x∈p,FJ x) (hk:10<=k) (h:Fm (EZ p) K p.length R) (hf:O7 (EZ p) R) (hm:Ij m R):∀(n:Nat) (cur:Option ((Int×Int)×Int)) (left:List ((Int×Int)×Int)),left.length <n->(∀kv∈left,kv∈m)->
 f27.l0 k n p R m cur left=some (0,())
 | 0,cur,left,hn,hl=>by omega
 |n+1,cur,left,hn,hl=>by
  rw [f27.l0,f27.E0]
  refine AK (λ _=>rfl) (λ i hi=> ?_)
  have hlen:(left.eraseIdx i).length <n:=by rw [List.length_eraseIdx_of_lt hi];omega
  have go:f27.r9 k (f27.l0 k n) p R m left[i] (left.eraseIdx i) false=some (0,()):=by
   rw [f27.r9,f27.Km,if_neg (by simp)]
   exact Nd ho hk h hf hm n _ _ hlen λ kv hkv=>hl kv ((F6 hi kv).2 (.inr hkv))
  have c1:(((left[i].1.1,left[i].1.2)),left[i].2)∈Fo R:=(hm.get _ _).1 ((Ln hm.keys).2 (hl _ (List.getElem_mem hi)))
  by_cases g:(dA q7 m (left[i].1.2,left[i].1.1)).isSome=true
  ·obtain ⟨d,hd⟩:=Option.isSome_iff_exists.1 g
   have c2:=(hm.get _ _).1 hd
   obtain ⟨_,a0,b0,c0,_⟩:=FV h c1
   obtain ⟨_,_,_,d0,_⟩:=FV h c2
   obtain ⟨r,er,hr⟩:=Om (k:=k) (by omega) ho a0 b0 c0 d0
   have hr:r=false:=by
    rcases Bool.eq_false_or_eq_true r with z|z
    ·exact absurd (hr.1 z) (hf _ _ _ _ c1 c2)
    ·exact z
   rw [if_pos (by exact g),show dA (kB (.pair (.int .i64) (.int .i64))) m (left[i].1.2,left[i].1.1)=some d from hd,Option.getD_some,er,Option.bind_some,hr]
   exact go
  ·rw [if_neg (by exact g)]
   exact go
theorem Pd (hk:200000<=k) (ho:∀x∈p,FJ x) (hp:p.Pairwise G8) (KM:p.length<=10) (h:Fm (EZ p) K p.length R) (hR:R.Pairwise F8) (hne:R≠[]) (hf:O7 (EZ p) R):f27 k (p,R)=some (0,()):=by
 have len:=IG h
 have DA:=Nat.mul_le_mul KM KM
 have hn:R.map Ff=R:=Lo λ c hc=>My h hc
 have hm:Ij (R.foldl Gr []) R:=by
  have:=MM (cs:=R) (by rw [hn];exact h.HM)
  rwa [hn] at this
 have lm:=Mm h hm
 have fe:f69 k R=some ((R.foldl Gr [],()),()):=Ni (by omega) (by omega)
 simp only [f27,f27.ES]
 rw [RZ (by omega) (by omega) (by omega),Option.bind_some,Ot ho hp KM h hR hne,if_neg (by simp),fe,Option.bind_some]
 exact Nd ho (by omega) h hf hm k none _ (by show (R.foldl Gr []).length <k;omega) λ _ h=>h
end
theorem Lf {k:Nat}:∀(a b:List ET) (d i n:Nat),a.length=b.length->i+d=a.length->d <n->a.length<=5864062014634->∃r,f34.l0 k n a b (a.length:Int) (i:Int)=some (r,())/\(r=true↔a.drop i=b.drop i)
 |a,b,d,i,0,hab,hi,hn,hl=>by omega
 |a,b,0,i,n+1,hab,hi,hn,hl=>by
  refine ⟨true, ?_, ?_⟩
  ·rw [f34.l0,f34.E0,if_neg (by omega)]
  ·rw [List.drop_of_length_le (by omega),List.drop_of_length_le (by omega)];simp
 |a,b,d+1,i,n+1,hab,hi,hn,hl=>by
  have h1:i <a.length:=by omega
  have h2:i <b.length:=by omega
  have e1:a.getD (i:Int).toNat (0,(0,0))=a[i]:=by simp [List.getD_eq_getElem?_getD,List.getElem?_eq_getElem h1]
  have e2:b.getD (i:Int).toNat (0,(0,0))=b[i]:=by simp [List.getD_eq_getElem?_getD,List.getElem?_eq_getElem h2]
  rw [f34.l0,f34.E0,if_pos (by omega),if_pos (by omega),if_pos (by omega),if_pos (by omega),if_pos (by omega),e1,e2,List.drop_eq_getElem_cons h1,List.drop_eq_getElem_cons h2]
  by_cases c:a[i]=b[i]
  ·rw [if_neg (λ z=>z (by rw [c];exact ⟨rfl,rfl,rfl⟩)),CV (by omega) (by omega),show (i:Int)+1=((i+1:Nat):Int) by omega]
   obtain ⟨r,r1,r2⟩:=Lf (k:=k) a b d (i+1) n hab (by omega) (by omega) hl
   exact ⟨r,r1,by rw [r2,c,List.cons.injEq];simp⟩
  ·rw [if_pos (λ z=>c (Prod.ext z.1 (Prod.ext z.2.1 z.2.2)))]
   exact ⟨false,rfl,by rw [List.cons.injEq];simp [c]⟩
theorem Nl {k:Nat} {a b:List ET} (hk:a.length <k) (hl:a.length<=5864062014634):∃r,f34 k a b=some (r,())/\(r=true↔a=b):=by
 simp only [f34,f34.ES]
 by_cases c:a.length=b.length
 ·rw [if_neg (by omega)]
  have:=Lf (k:=k) a b a.length 0 k c (by omega) (by omega) hl
  simpa using this
 ·rw [if_pos (by omega)]
  exact ⟨false,rfl,by simp;intro z;exact c (by rw [z])⟩
end Go.Proofs.YtollcjadobpfdaaGreat.Rw
namespace Go.Proofs.YtollcjadobpfdaaGreat.Rw
open Go.Rx
def Mx (a:Int×Int):Prop:=(0<=a.1/\a.1 <18446744073709551616)/\0<=a.2/\a.2 <18446744073709551616
theorem Lm (k:Nat) {x y:Int} (hx: -4611686018427387904<=x/\x<=4611686018427387904) (hy: -4611686018427387904<=y/\y<=4611686018427387904):∃a,f81 k x y=some (a,())/\Mx a/\∃q:Int,Gj a=x * y+q * 340282366920938463463374607431768211456:=by
 have e1:∀{x:Int}, -4611686018427387904<=x/\x<=4611686018427387904->IntKind.u64.wrap (uJ true x (AJ (0 - x)))=(x.natAbs:Int):=λ h=>by
  rw [CV (by omega) (by omega),B9,HZ (by omega) (by omega)];omega
 have hp:(x.natAbs:Int) * (y.natAbs:Int)=(x * y).natAbs:=by rw [Int.natAbs_mul];simp
 have hb:(x * y).natAbs<=4611686018427387904 * 4611686018427387904:=by rw [Int.natAbs_mul];exact Nat.mul_le_mul (by omega) (by omega)
 have hs:(x <0↔y <0)->((x * y).natAbs:Int)=x * y:=λ h=>by
  have:0<=x * y:=by
   by_cases c:x <0
   ·exact Int.mul_nonneg_of_nonpos_of_nonpos (by omega) (by have:=h.1 c;omega)
   ·exact Int.mul_nonneg (by omega) (by have:=λ z=>c (h.2 z);omega)
  omega
 have hd: ¬(x <0↔y <0)->((x * y).natAbs:Int)= - (x * y):=λ h=>by
  have:x * y<=0:=by
   by_cases c:x <0
   ·have:0<=y:=by have:=λ z=>h ⟨λ _=>z,λ _=>c⟩;omega
    exact Int.mul_nonpos_of_nonpos_of_nonneg (by omega) this
   ·have:y<=0:=by
     by_cases c2:y <0
     ·omega
     ·exact (h ⟨λ z=>(c z).elim,λ z=>(c2 z).elim⟩).elim
    exact Int.mul_nonpos_of_nonneg_of_nonpos (by omega) this
  omega
 simp only [f81,f81.ES,f81.c4,f81.QN,e1 hx,e1 hy]
 rw [NH k (by omega) (by omega),hp]
 simp only [Option.bind_some]
 unfold Mx Gj
 by_cases c:x <0↔y <0
 ·have:=hs c
  rw [if_neg (by simp [c]),this]
  refine ⟨_,rfl, ?_,0, ?_⟩<;>simp only<;>generalize x * y=m at * <;>omega
 ·have:=hd c
  rw [if_pos (by simpa using c),this]
  simp only [f132,xJ]
  rw [if_pos (by decide)]
  simp only [Option.bind_some]
  rw [if_pos (by split<;>omega)]
  simp only [Option.bind_some]
  generalize x * y=m at *
  obtain ⟨lo,hlo,VA⟩:∃lo:Nat, -m % 18446744073709551616=(lo:Int)/\lo <18446744073709551616:=⟨(-m % 18446744073709551616).toNat,by omega,by omega⟩
  obtain ⟨hi,hhi,Vz⟩:∃hi:Nat, -m / 18446744073709551616=(hi:Int)/\hi <18446744073709551616:=⟨(-m / 18446744073709551616).toNat,by omega,by omega⟩
  rw [hlo,hhi]
  have hm: -m=hi * 18446744073709551616+lo:=by omega
  refine ⟨_,rfl, ?_, ?_⟩
  ·simp only;omega
  ·simp only [Int.toNat_natCast]
   by_cases z:lo=0
   ·subst z
    rw [if_neg (by omega)]
    by_cases z2:hi=0
    ·subst z2;exact ⟨0,by omega⟩
    ·exact ⟨1,by omega⟩
   ·rw [if_pos (by omega)]
    exact ⟨1,by omega⟩
theorem OP (k:Nat) {a b:Int×Int} (ha:Mx a) (hb:Mx b):∃c,f82 k a b=some (c,())/\Mx c/\∃q:Int,Gj c=Gj a+Gj b+q * 340282366920938463463374607431768211456:=by
 obtain ⟨a1,a2⟩:=a
 obtain ⟨b1,b2⟩:=b
 unfold Mx Gj at *
 simp only at *
 simp only [f82,f82.ES,f129,v8]
 rw [if_pos (by decide)]
 simp only [Option.bind_some]
 rw [if_pos (by omega)]
 simp only [Option.bind_some]
 refine ⟨_,rfl,by simp only;omega, ?_⟩
 simp only
 refine ⟨-(((a1.toNat+b1.toNat+((((a2.toNat+b2.toNat+(0:Int).toNat) / 18446744073709551616:Nat):Int)).toNat) / 18446744073709551616:Nat):Int), ?_⟩
 omega
theorem or_zero {a b:Int} (ha:0<=a/\a <18446744073709551616) (hb:0<=b/\b <18446744073709551616):qj .or .u64 a b=0↔a=0/\b=0:=by
 obtain ⟨n,rfl⟩:=Int.eq_ofNat_of_zero_le ha.1
 obtain ⟨m,rfl⟩:=Int.eq_ofNat_of_zero_le hb.1
 have g:∀n:Nat,n <18446744073709551616->(BitVec.ofInt 64 (n:Int)).toNat=n:=λ n h=>by
  rw [BitVec.ofInt_natCast,BitVec.toNat_ofNat];exact Nat.mod_eq_of_lt (by omega)
 have e:qj .or .u64 (n:Int) (m:Int)=((n ||| m:Nat):Int):=by
  show IntKind.u64.wrap (((BitVec.ofInt 64 (n:Int) ||| BitVec.ofInt 64 (m:Int)).toNat:Nat):Int)=_
  have hl:(BitVec.ofInt 64 (n:Int) ||| BitVec.ofInt 64 (m:Int)).toNat <2 ^ 64:=BitVec.isLt _
  rw [HZ (by omega) (by omega),BitVec.toNat_or,g n (by omega),g m (by omega)]
 rw [e]
 have h1:=@Nat.left_le_or n m
 have h2:=@Nat.right_le_or n m
 constructor
 ·intro h;omega
 ·rintro ⟨h1,h2⟩
  have:n=0:=by omega
  have:m=0:=by omega
  subst_vars;rfl
theorem Rp (k:Nat) {a:Int×Int} (ha:Mx a) {s q:Int} (hv:Gj a=s+q * 340282366920938463463374607431768211456) (hs: -170141183460469231731687303715884105728<=s/\s <170141183460469231731687303715884105728):f83 k a=some (JY s,()):=by
 obtain ⟨a1,a2⟩:=a
 unfold Mx Gj at *
 simp only at *
 have e:a1.fdiv (2 ^ min (63:Int).toNat (IntKind.bits .u64))=a1 / 9223372036854775808:=by
  have:(2:Int) ^ min (63:Int).toNat (IntKind.bits .u64)=9223372036854775808:=rfl
  rw [this,Int.fdiv_eq_ediv_of_nonneg _ (by omega)]
 simp only [f83,f83.ES,e,or_zero ha.1 ha.2]
 unfold JY
 by_cases c:a1 / 9223372036854775808=1
 ·rw [if_pos c,if_pos (by omega)]
 ·rw [if_neg c]
  by_cases c2:a1=0/\a2=0
  ·rw [if_pos c2,if_neg (by omega),if_pos (by omega)]
  ·rw [if_neg c2,if_neg (by omega),if_neg (by omega)]
theorem Pe (a b c d:Int×Int):Gw a b c d= -(((b.1 - a.1) * (b.1 - a.1)+(b.2 - a.2) * (b.2 - a.2)) * ((c.1 - a.1) * (d.2 - a.2) - (d.1 - a.1) * (c.2 - a.2))+((c.1 - a.1) * (c.1 - a.1)+(c.2 - a.2) * (c.2 - a.2)) * ((d.1 - a.1) * (b.2 - a.2) - (b.1 - a.1) * (d.2 - a.2))+((d.1 - a.1) * (d.1 - a.1)+(d.2 - a.2) * (d.2 - a.2)) * ((b.1 - a.1) * (c.2 - a.2) - (c.1 - a.1) * (b.2 - a.2))):=by
 unfold Gw;grind
theorem Oz (k:Nat) {a b c d:Int×Int} (ha:Ir a) (hb:Ir b) (hc:Ir c) (hd:Ir d):f39 k a b c d=some (JY (Gw a b c d),()):=by
 rw [Pe]
 unfold Ir at *
 have w:∀{x y:Int},(-1048576<=x/\x<=1048576)->(-1048576<=y/\y<=1048576)->AJ (x - y)=x - y/\ -2097152<=x - y/\x - y<=2097152:=λ h1 h2=>⟨CV (by omega) (by omega),by omega,by omega⟩
 have pr:∀{x y:Int},(-2097152<=x/\x<=2097152)->(-2097152<=y/\y<=2097152)-> -4398046511104<=x * y/\x * y<=4398046511104:=λ h1 h2=>by
  have:=H6 h1 h2 (by decide) (by decide)
  omega
 obtain ⟨w1,b1⟩:=w hb.1 ha.1
 obtain ⟨w2,b2⟩:=w hb.2 ha.2
 obtain ⟨w3,c1⟩:=w hc.1 ha.1
 obtain ⟨w4,c2⟩:=w hc.2 ha.2
 obtain ⟨ED,d1⟩:=w hd.1 ha.1
 obtain ⟨EE,d2⟩:=w hd.2 ha.2
 simp only [f39,f39.ES,w1,w2,w3,w4,ED,EE]
 generalize b.1 - a.1=x1 at *
 generalize b.2 - a.2=y1 at *
 generalize c.1 - a.1=x2 at *
 generalize c.2 - a.2=y2 at *
 generalize d.1 - a.1=e9 at *
 generalize d.2 - a.2=ox at *
 have qr:∀{x y:Int},(-2097152<=x/\x<=2097152)->(-2097152<=y/\y<=2097152)->AJ (AJ (x * x)+AJ (y * y))=x * x+y * y/\ -8796093022208<=x * x+y * y/\x * x+y * y<=8796093022208:=λ h1 h2=>by
  have g1:=pr h1 h1
  have g2:=pr h2 h2
  rw [CV (n:=_ * _) (by omega) (by omega),CV (n:=_ * _) (by omega) (by omega),CV (by omega) (by omega)]
  omega
 have DC:∀{x y x' y':Int},(-2097152<=x/\x<=2097152)->(-2097152<=y/\y<=2097152)->(-2097152<=x'/\x'<=2097152)->(-2097152<=y'/\y'<=2097152)->AJ (AJ (x * y') - AJ (x' * y))=x * y' - x' * y/\ -8796093022208<=x * y' - x' * y/\x * y' - x' * y<=8796093022208:=λ h1 h2 h3 h4=>by
  have g1:=pr h1 h4
  have g2:=pr h3 h2
  rw [CV (n:=_ * _) (by omega) (by omega),CV (n:=_ * _) (by omega) (by omega),CV (by omega) (by omega)]
  omega
 obtain ⟨q1,Bv⟩:=qr b1 b2
 obtain ⟨q2,Az⟩:=qr c1 c2
 obtain ⟨q3,Bw⟩:=qr d1 d2
 obtain ⟨e1,SN⟩:=DC c1 c2 d1 d2
 obtain ⟨e2,SO⟩:=DC d1 d2 b1 b2
 obtain ⟨e3,SP⟩:=DC b1 b2 c1 c2
 simp only [q1,q2,q3,e1,e2,e3]
 have big:∀{q e:Int},(-8796093022208<=q/\q<=8796093022208)->(-8796093022208<=e/\e<=8796093022208)-> -77371252455336267181195264<=q * e/\q * e<=77371252455336267181195264:=λ h1 h2=>by
  have:=H6 h1 h2 (by decide) (by decide)
  omega
 obtain ⟨m1,g1,g2,p1,g3⟩:=Lm k (x:=x1 * x1+y1 * y1) (y:=x2 * ox - e9 * y2) (by omega) (by omega)
 obtain ⟨m2,g4,g5,p2,g6⟩:=Lm k (x:=x2 * x2+y2 * y2) (y:=e9 * y1 - x1 * ox) (by omega) (by omega)
 obtain ⟨m3,g7,g8,p3,g9⟩:=Lm k (x:=e9 * e9+ox * ox) (y:=x1 * y2 - x2 * y1) (by omega) (by omega)
 obtain ⟨s1,h1,h2,Ds,h3⟩:=OP k g2 g5
 obtain ⟨s2,h4,h5,EB,h6⟩:=OP k h2 g8
 have n1:=big Bv SN
 have n2:=big Az SO
 have n3:=big Bw SP
 have hs:=Rp k h5 (s:=(x1 * x1+y1 * y1) * (x2 * ox - e9 * y2)+(x2 * x2+y2 * y2) * (e9 * y1 - x1 * ox)+(e9 * e9+ox * ox) * (x1 * y2 - x2 * y1)) (q:=p1+p2+p3+Ds+EB) (by rw [h6,h3,g3,g6,g9];omega) (by omega)
 rw [g1]
 simp only [Option.bind_some]
 rw [g4]
 simp only [Option.bind_some]
 erw [h1]
 simp only [Option.bind_some]
 rw [g7]
 simp only [Option.bind_some]
 erw [h4]
 simp only [Option.bind_some]
 erw [hs]
 simp only [Option.bind_some]
 generalize (x1 * x1+y1 * y1) * (x2 * ox - e9 * y2)+(x2 * x2+y2 * y2) * (e9 * y1 - x1 * ox)+(e9 * e9+ox * ox) * (x1 * y2 - x2 * y1)=m
 congr 2
 unfold JY
 rw [CV (by split<;>(try split)<;>omega) (by split<;>(try split)<;>omega)]
 split<;>(try split)<;>(try split)<;>(try split)<;>omega
end Go.Proofs.YtollcjadobpfdaaGreat.Rw
namespace Go.Proofs.YtollcjadobpfdaaGreat.Rw
open Go.Rx Go.Sort
theorem PR {K:Int} {R:List ET} (h:Fm (EZ [(0,0),(0,2),(2,0)]) K 3 R) (hR:R.Pairwise F8) (hne:R≠[]):R=[(0,(2,1))]:=by
 have each:∀c∈R,c=(0,(2,1)):=λ c hc=>by
  obtain ⟨lo,hb,hd,sv,q8,FY⟩:=h.cell c hc
  obtain ⟨u,v,w⟩:=c
  simp only at lo hb hd sv q8 FY
  obtain rfl:u=0:=by
   have:v≠w:=λ z=>by subst z;have:=E3 (EZ [(0,0),(0,2),(2,0)] u) (EZ [(0,0),(0,2),(2,0)] v);omega
   omega
  have:(v=1/\w=2)\/(v=2/\w=1)\/v=w:=by omega
  rcases this with ⟨rfl,rfl⟩|⟨rfl,rfl⟩|rfl
  ·exact absurd FY (by decide)
  ·rfl
  ·have:=E3 (EZ [(0,0),(0,2),(2,0)] 0) (EZ [(0,0),(0,2),(2,0)] v);omega
 match R,hne,hR,each with
 | [c],_,_,each=>rw [each c (by simp)]
 |c::d::R,_,hR,each=>
  have h1:=each c (by simp)
  have h2:=each d (by simp)
  have:=(List.pairwise_cons.1 hR).1 d (by simp)
  rw [h1,h2] at this
  unfold F8 at this;simp at this
theorem Qb:Ev (λ k=>f25 k) (true,()):=by
 have hok:∀x∈[((2:Int),(0:Int)),(0,0),(0,2)],FJ x:=λ x hx=>by
  simp only [List.mem_cons,List.not_mem_nil,or_false] at hx
  rcases hx with rfl|rfl|rfl<;>unfold FJ<;>simp
 obtain ⟨p,h1,h2,_,_,_,h6⟩:=QK hok (by simp)
 have w6:[((0:Int),(0:Int)),(0,2),(2,0)].Pairwise G8:=by simp [G8]
 obtain rfl:p=[(0,0),(0,2),(2,0)]:=Kn NC h1 w6 λ x=>by
  rw [h2];simp only [List.mem_cons,List.not_mem_nil,or_false]
  constructor
  ·rintro (h|h|h)
   ·exact .inr (.inr h)
   ·exact .inl h
   ·exact .inr (.inl h)
  ·rintro (h|h|h)
   ·exact .inr (.inl h)
   ·exact .inr (.inr h)
   ·exact .inl h
 have Ut:∀x∈[((0:Int),(0:Int)),(0,2),(2,0)],FJ x:=λ x hx=>hok x ((h2 x).1 hx)
 obtain ⟨R,⟨Kb,e1⟩,e2,e3,e4,e5⟩:=h6 (by simp) (λ z=>by have:=z 2 (by omega) (by simp);revert this;decide) ⟨by simp,(0,0),λ x hx=>by
  simp only [List.mem_cons,List.not_mem_nil,or_false] at hx
  rcases hx with rfl|rfl|rfl<;>simp⟩
 obtain rfl:=PR e2 e3 e5
 refine ⟨max Kb 200000,λ k hk=> ?_⟩
 obtain ⟨r,q1,q2⟩:=Nl (k:=k) (a:=[((0:Int),((2:Int),(1:Int)))]) (b:=[(0,(2,1))]) (by simp;omega) (by simp)
 have q2:=q2.2 rfl
 subst q2
 have hc:=Pd (k:=k) (by omega) Ut h1 (by simp) e2 e3 e5 e4
 show f25 k=_
 simp only [f25,f25.ES]
 rw [show f67 k [(2,0),(0,0),(0,2)]=_ from e1 k (by omega),Option.bind_some,if_pos rfl,q1,Option.bind_some,if_pos rfl]
 simp only [f62,f62.ES,Option.bind_some]
 rw [hc,Option.bind_some]
 rfl
theorem Qv {k:Nat} (hk:4<=k) (l:List ET):f30v1 k l ()=f30 k l ():=by
 have he:(λ x y=>f76 k x y)=λ x y=>some (IY x y,()):=by
  obtain ⟨k,rfl⟩:∃m,k=m+4:=⟨k - 4,by omega⟩
  funext x y
  simp only [f76,f76.ES,Q0]
  rfl
 have h1:(λ x y=>f31 k x y)=λ x y=>some (IY x y,()):=by
  obtain ⟨k,rfl⟩:∃m,k=m+4:=⟨k - 4,by omega⟩
  funext x y
  simp only [f31,f31.ES,Q0]
  rfl
 show qe (e:=.pair (.int .i64) (.pair (.int .i64) (.int .i64))) (λ x y=>f31 k x y) l=qe (e:=.pair (.int .i64) (.pair (.int .i64) (.int .i64))) (λ x y=>f76 k x y) l
 exact congrArg (λ f=>qe (e:=.pair (.int .i64) (.pair (.int .i64) (.int .i64))) f l) (h1.trans he.symm)
theorem O4 {k:Nat} {l:List ET} (hl:l.length<=5864062014634):∀(d i n:Nat),i+d=l.length->d <n->∃r:Int,f75.l0 k n l (l.length:Int) (i:Int)=some (r,())/\(0<=r↔∃c∈l.drop i,¬IN c)
 |d,i,0,hi,hn=>by omega
 | 0,i,n+1,hi,hn=>⟨-1,by rw [f75.l0,f75.E0,if_neg (by omega)],by
   rw [List.drop_of_length_le (by omega)];simp⟩
 |d+1,i,n+1,hi,hn=>by
  have h:i <l.length:=by omega
  have e:l.getD (i:Int).toNat (0,(0,0))=l[i]:=by simp [List.getD_eq_getElem?_getD,List.getElem?_eq_getElem h]
  have t:∃r,f33 k (l[i].1,(l[i].2.1,l[i].2.2))=some (r,())/\(r=true↔ ¬IN l[i]):=by
   simp only [f33,f33.ES,f33.r1,f33.I4]
   unfold IN
   by_cases c1:l[i].1=l[i].2.1
   ·exact ⟨true,by simp [c1],by simp [c1]⟩
   ·by_cases c2:l[i].2.1=l[i].2.2
    ·exact ⟨true,by simp [c1,c2],by simp [c2]⟩
    ·by_cases c3:l[i].1=l[i].2.2
     ·exact ⟨true,by simp [c1,c2,c3],by simp [c3]⟩
     ·exact ⟨false,by simp [c1,c2,c3],by simp [c1,c2,c3]⟩
  obtain ⟨r,t1,t2⟩:=t
  rw [f75.l0,f75.E0,if_pos (by omega),if_pos (by omega),if_pos (by omega),e,t1,Option.bind_some,List.drop_eq_getElem_cons h]
  by_cases c:r=true
  ·rw [if_pos c]
   exact ⟨_,rfl,λ _=>⟨l[i],List.mem_cons_self ..,t2.1 c⟩,λ _=>by omega⟩
  ·rw [if_neg c,CV (by omega) (by omega),show (i:Int)+1=((i+1:Nat):Int) by omega]
   obtain ⟨q,q1,q2⟩:=O4 (k:=k) hl d (i+1) n (by omega) (by omega)
   refine ⟨q,q1,q2.trans ⟨λ ⟨x,hx,hd⟩=>⟨x,List.mem_cons_of_mem _ hx,hd⟩,λ ⟨x,hx,hd⟩=> ?_⟩⟩
   rcases List.mem_cons.1 hx with rfl|hx
   ·exact absurd (t2.2 hd) c
   ·exact ⟨x,hx,hd⟩
theorem SF {k:Nat} {l:List ET} (hk:l.length <k) (hl:l.length<=5864062014634):∃r,f32 k l ()=some (r,())/\(r=true↔∃c∈l,¬IN c):=by
 obtain ⟨q,q1,q2⟩:=O4 (k:=k) hl l.length 0 k (by omega) (by omega)
 refine ⟨decide (0<=q), ?_,by rw [decide_eq_true_iff,q2,List.drop_zero]⟩
 simp only [f32,f32.ES,f75,f75.ES]
 rw [show f75.l0 k k l (l.length:Int) 0=_ from q1,Option.bind_some]
theorem Rj {k:Nat} (hk:10<=k) (c:ET):∃i:Int,f29 k [c.1,c.2.1,c.2.2]=some (min c.1 (min c.2.1 c.2.2),())/\f28 k [c.1,c.2.1,c.2.2] (min c.1 (min c.2.1 c.2.2))=some (i,())/\((i=0/\Ff c=c)\/(i=1/\Ff c=(c.2.1,(c.2.2,c.1)))\/(i=2/\Ff c=(c.2.2,(c.1,c.2.1)))):=by
 obtain ⟨k,rfl⟩:∃m,k=m+10:=⟨k - 10,by omega⟩
 have w1:AJ 1=1:=CV (by omega) (by omega)
 have w2:AJ 2=2:=CV (by omega) (by omega)
 have w3:AJ 3=3:=CV (by omega) (by omega)
 obtain ⟨u,v,w⟩:=c
 have hm:f29 (k+10) [u,v,w]=some (min u (min v w),()):=by
  simp only [f29,f29.ES,f29.c2,f29.KG]
  simp [f29.l0,f29.E0,w1,w2,w3,Ca]
 refine ⟨if min u (min v w)=u then 0 else if min u (min v w)=v then 1 else 2,hm, ?_, ?_⟩
 ·simp only [f28,f28.ES]
  generalize hx:min u (min v w)=x
  have VI:x=u\/x=v\/x=w:=by omega
  clear hx hm
  simp [f28.l0,f28.E0,w1,w2,w3]
  by_cases c1:x=u
  ·simp [c1]
  ·by_cases c2:x=v
   ·subst c2;simp [c1]
   ·have c3:x=w:=by omega
    subst c3;simp [c1,c2]
 ·unfold Ff
  simp only
  by_cases c1:min u (min v w)=u
  ·rw [if_pos c1,if_pos (by omega)];exact .inl ⟨rfl,rfl⟩
  ·by_cases c2:min u (min v w)=v
   ·rw [if_neg c1,if_pos c2,if_neg (by omega),if_pos (by omega)];exact .inr (.inl ⟨rfl,rfl⟩)
   ·rw [if_neg c1,if_neg c2,if_neg (by omega),if_neg (by omega)];exact .inr (.inr ⟨rfl,rfl⟩)
end Go.Proofs.YtollcjadobpfdaaGreat.Rw
namespace Go.Proofs.YtollcjadobpfdaaGreat.Rw
open Go.Rx Go.Sort
section
variable {k:Nat} {a b c d:Int×Int}
theorem Oi (hk:4<=k):f5.Sh k a.1 a.2 b.1 b.2 c.1 c.2 d.1 d.2 false=some (true,()):=by
 classical
 have stop:f5.KD k a.1 a.2 b.1 b.2 c.1 c.2 d.1 d.2 true=some (true,()):=by
  rw [f5.KD,f5.IQ,if_pos rfl]
 have ok:∀q:Int×Int,∃r,f36 k (q.1,q.2)=some (r,())/\(r=true↔FJ q):=λ q=>⟨_,Pr k q,by rw [decide_eq_true_iff]⟩
 obtain ⟨ra,a1,a2⟩:=ok a
 obtain ⟨rb,b1,b2⟩:=ok b
 obtain ⟨rc,c1,c2⟩:=ok c
 obtain ⟨rd,d1,d2⟩:=ok d
 rw [f5.Sh,f5.M6,if_neg (by simp),a1,Option.bind_some]
 by_cases Dw:ra=true
 ·rw [if_neg (by simpa using Dw),b1,Option.bind_some]
  by_cases DB:rb=true
  ·rw [if_neg (by simpa using DB),c1,Option.bind_some]
   by_cases gc:rc=true
   ·rw [if_neg (by simpa using gc),d1,Option.bind_some]
    by_cases D4:rd=true
    ·rw [if_neg (by simpa using D4)]
     have DX:=a2.1 Dw;have ob:=b2.1 DB;have D8:=c2.1 gc;have od:=d2.1 D4
     rw [show f37 k (a.1,a.2) (b.1,b.2) (c.1,c.2)=_ from TO DX ob D8,Option.bind_some]
     by_cases g:sg (EP a b c)=1
     ·rw [decide_eq_false (by simpa using g),f5.KD,f5.IQ,if_neg (by simp)]
      obtain ⟨j,rfl⟩:∃j,k=j+4:=⟨k - 4,by omega⟩
      have J3:∀{q:Int×Int},FJ q->Ir q:=λ h=>by unfold FJ at h;unfold Ir;omega
      rw [show f38 (j+4) (a.1,a.2) (b.1,b.2) (c.1,c.2) (d.1,d.2)=_ from OF j (J3 DX) (J3 ob) (J3 D8) (J3 od),Option.bind_some,
       show f39 (j+4) (a.1,a.2) (b.1,b.2) (c.1,c.2) (d.1,d.2)=_ from Oz (j+4) (J3 DX) (J3 ob) (J3 D8) (J3 od),Option.bind_some]
      simp
     ·rw [decide_eq_true (by simpa using g)]
      exact stop
    ·rw [if_pos (by simpa using D4)];exact stop
   ·rw [if_pos (by simpa using gc)];exact stop
  ·rw [if_pos (by simpa using DB)];exact stop
 ·rw [if_pos (by simpa using Dw)];exact stop
theorem O2 {l:List ET} (hk:l.length+20<=k) (hl:l.length<=5864062014634):∀(e i n:Nat) (y:List ET),i+e=l.length->e <n->y=(l.take i).map Ff->
 f5.l0 k n y a.1 a.2 b.1 b.2 c.1 c.2 d.1 d.2 l (l.length:Int) (i:Int)=some (true,())
 |e,i,0,y,hi,hn,hy=>by omega
 | 0,i,n+1,y,hi,hn,hy=>by
   have ey:y=l.map Ff:=by rw [hy,List.take_of_length_le (by omega)]
   obtain ⟨m,s1,s2,s3⟩:=Mc (k:=k) (by omega) y (by rw [ey];simp;omega)
   obtain ⟨r,t1,t2⟩:=SF (k:=k) (l:=l) (by omega) hl
   rw [f5.l0,f5.E0,if_neg (by omega),Qv (by omega),s1,Option.bind_some,t1,Option.bind_some]
   by_cases g:r=true
   ·rw [if_neg (by simpa using g)]
    exact Oi (by omega)
   ·rw [if_pos g]
    have hd:∀c∈l,IN c:=λ c hc=>Classical.byContradiction λ z=>g (t2.2 ⟨c,hc,z⟩)
    have cl:=Lj (k:=k) (by omega) hd hl l.length 0 k [] (by omega) (by omega) rfl
    have ce:f35 k l=some (m,()):=by
     simp only [f35,f35.ES]
     refine Eq.trans cl ?_
     rw [List.nil_append,List.drop_zero, <-ey,s1]
     rfl
    obtain ⟨q,q1,q2⟩:=Nl (k:=k) (a:=m) (b:=m) (by rw [s2.length_eq,ey];simp;omega) (by rw [s2.length_eq,ey];simp;omega)
    have q2:=q2.2 rfl
    subst q2
    rw [ce,Option.bind_some,q1,Option.bind_some,decide_eq_false (by simp)]
    exact Oi (by omega)
 |e+1,i,n+1,y,hi,hn,hy=>by
  have h:i <l.length:=by omega
  have g:l.getD (i:Int).toNat (0,(0,0))=l[i]:=by simp [List.getD_eq_getElem?_getD,List.getElem?_eq_getElem h]
  have ly:y.length=i:=by rw [hy];simp;omega
  obtain ⟨j,m1,m2,m3⟩:=Rj (k:=k) (by omega) l[i]
  have ih:=λ y=>O2 hk hl e (i+1) n y (by omega) (by omega)
  have hy2:y++[Ff l[i]]=(l.take (i+1)).map Ff:=by
   rw [hy,List.take_add_one,List.getElem?_eq_getElem h,List.map_append];rfl
  have w0:AJ ((0:Int)+1)=1:=CV (by omega) (by omega)
  have w1:AJ ((1:Int)+1)=2:=CV (by omega) (by omega)
  have w2:AJ ((2:Int)+1)=3:=CV (by omega) (by omega)
  have v0:AJ ((0:Int)+2)=2:=CV (by omega) (by omega)
  have v1:AJ ((1:Int)+2)=3:=CV (by omega) (by omega)
  have v2:AJ ((2:Int)+2)=4:=CV (by omega) (by omega)
  have t1:Int.tmod 1 3=1:=by decide
  have t2:Int.tmod 2 3=2:=by decide
  have t3:Int.tmod 3 3=0:=by decide
  have t4:Int.tmod 4 3=1:=by decide
  rw [f5.l0,f5.E0,if_pos (by omega),if_pos (by omega),if_pos (by omega),g,f5.r6,f5.RA,m1,Option.bind_some,m2,Option.bind_some]
  rcases m3 with ⟨rfl,m3⟩|⟨rfl,m3⟩|⟨rfl,m3⟩
  ·simp only [w0,v0,t1,t2]
   rw [if_pos (by omega),if_pos (by omega),if_pos (by omega),if_pos (by omega),if_pos (by omega),if_pos (by omega),if_pos (by simp;omega),CV (by omega) (by omega),show (i:Int)+1=((i+1:Nat):Int) by omega]
   exact ih _ (by rw [<-hy2,m3];rfl)
  ·simp only [w1,v1,t2,t3]
   rw [if_pos (by omega),if_pos (by omega),if_pos (by omega),if_pos (by omega),if_pos (by omega),if_pos (by omega),if_pos (by simp;omega),CV (by omega) (by omega),show (i:Int)+1=((i+1:Nat):Int) by omega]
   exact ih _ (by rw [<-hy2,m3];rfl)
  ·simp only [w2,v2,t3,t4]
   rw [if_pos (by omega),if_pos (by omega),if_pos (by omega),if_pos (by omega),if_pos (by omega),if_pos (by omega),if_pos (by simp;omega),CV (by omega) (by omega),show (i:Int)+1=((i+1:Nat):Int) by omega]
   exact ih _ (by rw [<-hy2,m3];rfl)
end
theorem SE (a b c d:Int×Int) (l:List ET) (h1:l.length * 24<=140737488351232):∃k,f5 k a b c d l=some (true,()):=by
 obtain ⟨K,hK⟩:=Qb
 refine ⟨max K (l.length+20), ?_⟩
 simp only [f5,f5.ES]
 rw [show f25 (max K (l.length+20))=_ from hK _ (by omega),Option.bind_some,if_neg (by simp)]
 exact O2 (a:=a) (b:=b) (c:=c) (d:=d) (l:=l) (by omega) (by omega) l.length 0 _ [] (by omega) (by omega) rfl
theorem pure_TriCircles:LC:=by
 rintro ⟨a,b,c,d,l,u⟩ hwf
 exact SE a b c d l hwf.2.2.2.2.1.1
end Go.Proofs.YtollcjadobpfdaaGreat.Rw
