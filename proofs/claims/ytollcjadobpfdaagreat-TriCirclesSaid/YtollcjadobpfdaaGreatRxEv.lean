/- Plain functions with rounds: what they come to from some number of rounds on. -/
import Derived.Test.YtollcjadobpfdaaGreatRxZ
set_option linter.unusedVariables false
set_option linter.unusedSimpArgs false
set_option linter.unusedSectionVars false
namespace Go.Rx
def Ev {α:Type} (f:Nat->Option α) (r:α):Prop:=∃K,∀k,K<=k->f k=some r
def gb {α:Type} (f:Nat->Nat->Option α) (r:α):Prop:=∃K,∀k n,K<=k->K<=n->f k n=some r
section
variable {α β:Type}
theorem Ev.pure (r:α):Ev (λ _=>some r) r:=⟨0,λ _ _=>rfl⟩
theorem gb.pure (r:α):gb (λ _ _=>some r) r:=⟨0,λ _ _ _ _=>rfl⟩
theorem Ev.of {f g:Nat->Option α} {r:α} (h:∀k,f k=g k) (hg:Ev g r):Ev f r:=by
 obtain ⟨K,hK⟩:=hg;exact ⟨K,λ k hk=>(h k).trans (hK k hk)⟩
theorem gb.of {f g:Nat->Nat->Option α} {r:α} (h:∀k n,f k n=g k n) (hg:gb g r):gb f r:=by
 obtain ⟨K,hK⟩:=hg;exact ⟨K,λ k n hk hn=>(h k n).trans (hK k n hk hn)⟩
theorem gb.diag {f:Nat->Nat->Option α} {r:α} (h:gb f r):Ev (λ k=>f k k) r:=by
 obtain ⟨K,hK⟩:=h;exact ⟨K,λ k hk=>hK k k hk hk⟩
theorem Ev.two {f:Nat->Option α} {r:α} (h:Ev f r):gb (λ k _=>f k) r:=by
 obtain ⟨K,hK⟩:=h;exact ⟨K,λ k n hk _=>hK k hk⟩
theorem gb.step {f g:Nat->Nat->Option α} {r:α} (h:∀k n,f k (n+1)=g k n) (hg:gb g r):gb f r:=by
 obtain ⟨K,hK⟩:=hg
 refine ⟨K+1,λ k n hk hn=> ?_⟩
 cases n with
 |zero=>omega
 |succ n=>rw [h];exact hK k n (by omega) (by omega)
theorem Ev.bind {f:Nat->Option β} {g:Nat->β->Option α} {x:β} {r:α} (hf:Ev f x) (hg:Ev (λ k=>g k x) r):Ev (λ k=>(f k).bind (g k)) r:=by
 obtain ⟨K,hK⟩:=hf;obtain ⟨K',sY⟩:=hg
 exact ⟨max K K',λ k hk=>by show (f k).bind (g k)=_;rw [hK k (by omega)];exact sY k (by omega)⟩
theorem gb.bind {f:Nat->Nat->Option β} {g:Nat->Nat->β->Option α} {x:β} {r:α} (hf:gb f x) (hg:gb (λ k n=>g k n x) r):gb (λ k n=>(f k n).bind (g k n)) r:=by
 obtain ⟨K,hK⟩:=hf;obtain ⟨K',sY⟩:=hg
 exact ⟨max K K',λ k n hk hn=>by show (f k n).bind (g k n)=_;rw [hK k n (by omega) (by omega)];exact sY k n (by omega) (by omega)⟩
theorem Ev.off {f:Nat->Option α} {r:α} (m:Nat) (h:∀j,f (j+m)=some r):Ev f r:=⟨m,λ k hk=>by
 have:=h (k - m);rwa [Nat.sub_add_cancel hk] at this⟩
theorem Ev.get {f:Nat->Option α} {r:α} (h:Ev f r):∃k,f k=some r:=by
 obtain ⟨K,hK⟩:=h;exact ⟨K,hK K (Nat.le_refl _)⟩
end
def qN {α:Type} (f:Nat->Nat->Nat->Option α) (r:α):Prop:=∃K,∀k n m,K<=k->K<=n->K<=m->f k n m=some r
section
variable {α β:Type}
theorem qN.step {f g:Nat->Nat->Nat->Option α} {r:α} (h:∀k n m,f k n (m+1)=g k n m) (hg:qN g r):qN f r:=by
 obtain ⟨K,hK⟩:=hg
 refine ⟨K+1,λ k n m hk hn hm=> ?_⟩
 cases m with
 |zero=>omega
 |succ m=>rw [h];exact hK k n m (by omega) (by omega) (by omega)
theorem qN.Dm {f:Nat->Nat->Nat->Option α} {r:α} (h:qN f r):gb (λ k n=>f k n k) r:=by
 obtain ⟨K,hK⟩:=h;exact ⟨K,λ k n hk hn=>hK k n k hk hn hk⟩
theorem gb.three {f:Nat->Nat->Option α} {r:α} (h:gb f r):qN (λ k n _=>f k n) r:=by
 obtain ⟨K,hK⟩:=h;exact ⟨K,λ k n m hk hn _=>hK k n hk hn⟩
theorem Ev.C3 {f:Nat->Option β} {g:Nat->Nat->Nat->β->Option α} {x:β} {r:α} (hf:Ev f x) (hg:qN (λ k n m=>g k n m x) r):qN (λ k n m=>(f k).bind (g k n m)) r:=by
 obtain ⟨K,hK⟩:=hf;obtain ⟨K',sY⟩:=hg
 exact ⟨max K K',λ k n m hk hn hm=>by show (f k).bind (g k n m)=_;rw [hK k (by omega)];exact sY k n m (by omega) (by omega) (by omega)⟩
theorem Ev.C2 {f:Nat->Option β} {g:Nat->Nat->β->Option α} {x:β} {r:α} (hf:Ev f x) (hg:gb (λ k n=>g k n x) r):gb (λ k n=>(f k).bind (g k n)) r:=by
 obtain ⟨K,hK⟩:=hf;obtain ⟨K',sY⟩:=hg
 exact ⟨max K K',λ k n hk hn=>by show (f k).bind (g k n)=_;rw [hK k (by omega)];exact sY k n (by omega) (by omega)⟩
end
theorem CV {n:Int} (h1: -9223372036854775808<=n) (h2:n<=9223372036854775807):AJ n=n:=by
 have e:AJ n=if n % 18446744073709551616 ≥ 9223372036854775808 then n % 18446744073709551616 - 18446744073709551616 else n % 18446744073709551616:=by
  simp [AJ,IntKind.wrap,IntKind.bits,IntKind.signed]
 rw [e]
 split<;>omega
theorem Ca (a b:Int):uJ false a b=min a b:=by
 simp only [uJ];split<;>omega
theorem B9 (a b:Int):uJ true a b=max a b:=by
 simp only [uJ];split<;>omega
theorem BG {α:Type} {l m:List α} {x z:α}:(l++x::m).getD ((l.length:Int)).toNat z=x:=by simp
theorem wf_i64 {n:Int} (h:(Lit.int .i64 n).wf=true): -9223372036854775808<=n/\n<=9223372036854775807:=by
 simp only [Lit.wf,Bool.and_eq_true,decide_eq_true_eq] at h
 exact ⟨h.1,h.2⟩
end Go.Rx
