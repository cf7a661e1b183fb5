/- Reflection, part X: a text of code, piece by piece. -/
import Derived.Test.YtollcjadobpfdaaGreatRxW
set_option linter.unusedVariables false
set_option linter.unusedSimpArgs false
set_option linter.unusedSectionVars false
namespace Go.Rx
inductive Fr (α:Type) where
 |c (c:Code) (n:Nat)
 |cond (t:Nat)
 |blk (id:Nat)
 |j (f:St->Option α)
 |b (id:Nat) (f:St->Option α)
 |i (c:Operand) (f g:St->Option α)
section
variable (T:bh) (Y:dZ) (E:Env) (A:oM) (k:Nat)
noncomputable def ap {α:Type} (K:eN α):List (Fr α)->eN α
 | []=>K
 | .c x n::F=>iJ (λ σ=>den T Y E A k x n σ (ap K F)) (ap K F)
 | .cond t::F=>iJ (λ σ=>ap K F .nx (cut A.conds t σ)) (ap K F)
 | .blk id::F=>sr id (λ σ=>ap K F .nx (cut A.qk id σ)) (ap K F)
 | .j f::F=>iJ f (ap K F)
 | .b id f::F=>sr id f (ap K F)
 | .i x f g::F=>iJ (λ σ=>match σ.ρ x with
   | .cp (.one (.lit true))=>f σ
   | .cp (.one (.lit false))=>g σ
   | .cp (.one (.prop p d))=>@ite _ p d (f σ) (g σ)
   |_=>none) (ap K F)
end
section
variable {T:bh} {Y:dZ} {E:Env} {A:oM} {k:Nat} {α:Type} {K:eN α} {F F':List (Fr α)}
theorem cS (f:Fr α) (h:ap T Y E A k K F=ap T Y E A k K F'):ap T Y E A k K (f::F)=ap T Y E A k K (f::F'):=by
 cases f<;>simp only [ap,h]
theorem wh {c a b:Code} {n:Nat} (h:c=.seq a b):ap T Y E A k K (.c c n::F)=ap T Y E A k K (.c a n:: .c b n::F):=by
 subst h;funext e σ;cases e<;>rfl
theorem sG {c a:Code} {id n:Nat} (h:c=.block id a):ap T Y E A k K (.c c n::F)=ap T Y E A k K (.j (λ σ=>ap T Y E A k K (.c a id:: .blk id::F) .nx σ)::F):=by
 subst h;funext e σ;cases e<;>rfl
theorem uu {c a b:Code} {x:Operand} {n t:Nat} (h:c=.cond x a b) (ht:cU a b=t):ap T Y E A k K (.c c n::F)=ap T Y E A k K (.i x (λ σ=>ap T Y E A k K (.c a n:: .cond t::F) .nx σ) (λ σ=>ap T Y E A k K (.c b n:: .cond t::F) .nx σ)::F):=by
 subst h ht;funext e σ;cases e with
 |nx=>
  show den T Y E A k (.cond x a b) n σ (ap T Y E A k K F)=_
  simp only [ap,iJ,den]
  generalize σ.ρ x=v
  cases v with
  |bO l=>rfl
  |cp c=>
   cases c with
   |agg l=>rfl
   |one c=>
    cases c with
    |lit b=>cases b<;>rfl
    |_=>rfl
 |ret=>rfl
 |exit j=>rfl
theorem uw {c b:Code} {n:Nat} {C:Nat->St->Option α} (h:c=.loop b) (hC:∀j σ,C j σ=gX (λ σ K=>den T Y E A k b n σ K) (cut A.loops n) (ap T Y E A k K F) j σ):
 ap T Y E A k K (.c c n::F)=ap T Y E A k K (.j (λ σ=>C k (cut A.loops n σ))::F):=by
 subst h;funext e σ;cases e with
 |nx=>exact (hC k _).symm
 |ret=>rfl
 |exit j=>rfl
theorem zi {c:Code} {n m:Nat} {cl:St->St}:(λ σ=>gX (λ σ K=>den T Y E A k c n σ K) cl (ap T Y E A k K F) (m+1) σ)=
 λ σ=>ap T Y E A k K (.c c n:: .j (λ σ=>gX (λ σ K=>den T Y E A k c n σ K) cl (ap T Y E A k K F) m (cl σ))::F) .nx σ:=rfl
theorem zd {C:St->Option α} (hC:∀σ,C σ=ap T Y E A k K F .nx σ):ap T Y E A k K F=ap T Y E A k K (.j C::F):=by
 funext e σ;cases e with
 |nx=>exact (hC σ).symm
 |ret=>rfl
 |exit j=>rfl
theorem xQ {t:Nat} {C:St->Option α} (hC:∀σ,C σ=ap T Y E A k K F .nx σ):ap T Y E A k K (.cond t::F)=ap T Y E A k K (.j (λ σ=>C (cut A.conds t σ))::F):=by
 funext e σ;cases e with
 |nx=>exact (hC _).symm
 |ret=>rfl
 |exit j=>rfl
theorem zc {id:Nat} {C:St->Option α} (hC:∀σ,C σ=ap T Y E A k K F .nx σ):ap T Y E A k K (.blk id::F)=ap T Y E A k K (.b id (λ σ=>C (cut A.qk id σ))::F):=by
 simp only [ap]
 rw [show C=λ σ=>ap T Y E A k K F .nx σ from funext hC]
theorem C8 {Fa Fb:List (Fr α)} (h:ap T Y E A k K Fa=ap T Y E A k K Fb):ap T Y E A k K (.j (λ σ=>ap T Y E A k K Fa .nx σ)::F)=ap T Y E A k K (.j (λ σ=>ap T Y E A k K Fb .nx σ)::F):=by
 rw [h]
theorem C7 {x:Operand} {Fa Fb Ga Gb:List (Fr α)} (h1:ap T Y E A k K Fa=ap T Y E A k K Fb) (h2:ap T Y E A k K Ga=ap T Y E A k K Gb):ap T Y E A k K (.i x (λ σ=>ap T Y E A k K Fa .nx σ) (λ σ=>ap T Y E A k K Ga .nx σ)::F)=ap T Y E A k K (.i x (λ σ=>ap T Y E A k K Fb .nx σ) (λ σ=>ap T Y E A k K Gb .nx σ)::F):=by
 rw [h1,h2]
theorem Cf {c:Code} {n:Nat} {σ:St}:den T Y E A k c n σ K=ap T Y E A k K [.c c n] .nx σ:=rfl
theorem CW (h:ap T Y E A k K F=ap T Y E A k K F'):∀σ,ap T Y E A k K F .nx σ=ap T Y E A k K F' .nx σ:=λ σ=>by rw [h]
end
def mX {α β:Type} (g:Option (List α)->Option (List β×Unit)):List α->Option (List β×Unit)
 | []=>match g none,g (some []) with
   |some ([],_),some ([],_)=>some ([],())
   |_,_=>none
 |x::l=>g (some (x::l))
theorem vZ {α β:Type} {g:Option (List α)->Option (List β×Unit)} {r:List β×Unit} (h:mX g []=some r):g none=some r/\g (some [])=some r:=by
 unfold mX at h
 simp only at h
 split at h
 ·rename_i x1 x2 h1 h2
  cases h
  exact ⟨h1,h2⟩
 ·cases h
theorem cT.mX {P:Program} {f:FuncId} {e e':Ty} {g:Option (List e.D)->Option (List e'.D×Unit)} (h:cT P f [(false,.sl true e)] [.new e'] λ xs=>g xs.1):cT P f [(false,.sl false e)] [.new e'] λ xs=>Go.Rx.mX g xs.1:=by
 intro xs r hr w Pr vs hp ha
 obtain ⟨l,u⟩:=xs
 obtain ⟨v,us,rfl,hv,rfl⟩:=ha
 obtain ⟨A,cap,k1,k2,k3,k4⟩:=(show ay w Pr (.sl false e) l [v] from hv)
 have hr:Go.Rx.mX g l=some r:=hr
 have go:∀o:Option (List e.D),bX true o=l->qd true o A cap->g o=some r->_:=λ o ho hn hg=>h (o,()) r hg w Pr [v] hp ⟨v,[],rfl,⟨A,cap,by rw [ho];exact k1,by rw [ho];exact k2,hn,by rw [ho];exact k4⟩,rfl⟩
 cases l with
 |cons x l=>
  have hA:A≠none:=by
   obtain ⟨blk,off,cells,el,fr,h1,_⟩:=k4 (by simp [bX])
   rw [h1];simp
  exact go (some (x::l)) rfl hA hr
 |nil=>
  obtain ⟨h1,h2⟩:=vZ hr
  cases A with
  |none=>exact go none rfl ⟨rfl,k3 rfl⟩ h1
  |some ad=>exact go (some []) rfl (by simp [qd]) h2
def sub:Code->List Nat->Code
 |c,[]=>c
 | .seq a b,i::r=>match i with
   | 0=>sub a r
   |_=>sub b r
 | .cond _ a b,i::r=>match i with
   | 0=>sub a r
   |_=>sub b r
 | .block _ c,_::r=>sub c r
 | .loop c,_::r=>sub c r
 |c,_=>c
def fR:Nat->Nat->List Nat->List Nat
 | 0,_,a=>a
 |k+1,p,a=>match p.ble 1 with
  |true=>a
  |false=>fR k (p / 2) (p % 2::a)
def sb (c:Code) (p:Nat):Code:=sub c (fR p p [])
section
variable {T:bh} {Y:dZ} {E:Env} {A:oM} {k:Nat} {α:Type} {K:eN α} {F F':List (Fr α)}
theorem C1 {c:Code} {p n:Nat} (h:sb c p=.seq (sb c (2 * p)) (sb c (2 * p+1)):=by kernel_rfl):ap T Y E A k K (.c (sb c p) n::F)=ap T Y E A k K (.c (sb c (2 * p)) n:: .c (sb c (2 * p+1)) n::F):=wh h
theorem CX {c:Code} {p n:Nat} (id:Nat) (h:sb c p=.block id (sb c (2 * p)):=by kernel_rfl):ap T Y E A k K (.c (sb c p) n::F)=ap T Y E A k K (.j (λ σ=>ap T Y E A k K (.c (sb c (2 * p)) id:: .blk id::F) .nx σ)::F):=sG h
theorem CY {c:Code} {p n:Nat} (x:Operand) (t:Nat) (h:sb c p=.cond x (sb c (2 * p)) (sb c (2 * p+1)):=by kernel_rfl) (ht:cU (sb c (2 * p)) (sb c (2 * p+1))=t:=by kernel_rfl):ap T Y E A k K (.c (sb c p) n::F)=ap T Y E A k K (.i x (λ σ=>ap T Y E A k K (.c (sb c (2 * p)) n:: .cond t::F) .nx σ) (λ σ=>ap T Y E A k K (.c (sb c (2 * p+1)) n:: .cond t::F) .nx σ)::F):=uu h ht
theorem C0 {c:Code} {p n:Nat} {C:Nat->St->Option α} (hC:∀j σ,C j σ=gX (λ σ K=>den T Y E A k (sb c (2 * p)) n σ K) (cut A.loops n) (ap T Y E A k K F) j σ) (h:sb c p=.loop (sb c (2 * p)):=by kernel_rfl):
 ap T Y E A k K (.c (sb c p) n::F)=ap T Y E A k K (.j (λ σ=>C k (cut A.loops n σ))::F):=uw h hC
theorem AD (c:Code):sb c 1=c:=by
 show sub c []=c
 cases c<;>rfl
theorem zI {c:Code} {n:Nat} {σ:St}:den T Y E A k c n σ K=ap T Y E A k K [.c (sb c 1) n] .nx σ:=by rw [AD];rfl
theorem CZ (h:ap T Y E A k K F=ap T Y E A k K F'):(λ σ=>ap T Y E A k K F .nx σ)=λ σ=>ap T Y E A k K F' .nx σ:=by rw [h]
end
def sets {α:Type}:List (Nat×α)->List α->List α
 | [],l=>l
 | (i,v)::r,l=>(sets r l).set i v
def Dn (N M:Nat) (ts:List (Nat×AV)) (os:List (Nat×Ob)):St:=⟨sets ts (List.replicate N bA),sets (os.map λ p=>(p.1,some p.2)) (List.replicate M none)⟩
abbrev pB (b:Bool):C:=.prop (b=true) (instDecidableEqBool b true)
abbrev AJ (n:Int):Int:=IntKind.i64.wrap n
abbrev aI (n:Int):AV:=.cp (.one (.int .i64 n))
abbrev aC (c:C):AV:=.cp (.one c)
abbrev aB (b:Bool):AV:=.cp (.one (pB b))
abbrev aV (e:Ty) (x:gH false e.D):AV:=.cp (.one (.val false e x))
abbrev aP (κ:Nat):AV:=.cp (.one (.ptr κ 0))
abbrev aO (κ:Nat):AV:=.cp (.one (.own κ))
abbrev cI (n:Int):C:=.int .i64 n
abbrev cV (e:Ty) (x:gH false e.D):C:=.val false e x
end Go.Rx
