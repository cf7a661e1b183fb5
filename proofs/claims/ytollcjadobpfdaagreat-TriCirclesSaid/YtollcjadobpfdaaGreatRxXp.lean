/- Reflection, part Xp: frames told by numbers, and where they are cut. -/
import Derived.Test.YtollcjadobpfdaaGreatRxX
set_option linter.unusedVariables false
set_option linter.unusedSimpArgs false
set_option linter.unusedSectionVars false
namespace Go.Rx
inductive PF where
 |c (p n:Nat)
 |r (id:Nat)
 |b (id:Nat)
 |d (t:Nat)
def PF.zL:PF->PF->Bool
 | .c p n,.c q m=>p.beq q && n.beq m
 | .r i,.r j=>i.beq j
 | .b i,.b j=>i.beq j
 | .d i,.d j=>i.beq j
 |_,_=>false
theorem PF.zM:∀{x y:PF},PF.zL x y=true->x=y
 | .c p n,.c q m,h=>by
   simp only [PF.zL,Bool.and_eq_true] at h
   rw [Nat.eq_of_beq_eq_true h.1,Nat.eq_of_beq_eq_true h.2]
 | .r i,.r j,h=>by rw [Nat.eq_of_beq_eq_true h]
 | .b i,.b j,h=>by rw [Nat.eq_of_beq_eq_true h]
 | .d i,.d j,h=>by rw [Nat.eq_of_beq_eq_true h]
 | .c _ _,.r _,h| .c _ _,.b _,h| .c _ _,.d _,h| .r _,.c _ _,h| .r _,.b _,h| .r _,.d _,h| .b _,.c _ _,h| .b _,.r _,h| .b _,.d _,h| .d _,.c _ _,h| .d _,.r _,h| .d _,.b _,h=>by cases h
def ve:List PF->List PF->Bool
 | [],[]=>true
 |x::l,y::m=>PF.zL x y && ve l m
 |_,_=>false
theorem uz:∀{l m:List PF},ve l m=true->l=m
 | [],[],_=>rfl
 |x::l,y::m,h=>by
  simp only [ve,Bool.and_eq_true] at h
  rw [PF.zM h.1,uz h.2]
 | [],_::_,h|_::_,[],h=>by cases h
abbrev fF:=List (Nat×List PF)
def fF.find:fF->Nat->Option (List PF)
 | [],_=>none
 | (k,Q)::r,key=>match k.beq key with
   |true=>some Q
   |false=>fF.find r key
def jw:List Nat->Nat->Bool
 | [],_=>false
 |x::l,n=>x.beq n || jw l n
def iN (tb:fF) (rc:List Nat) (key:Nat) (F:List PF):Bool:=match tb.find key with
 |some Q=>ve Q F && !jw rc key
 |none=>false
def kQ:Code->Option Nat
 | .region id _ _=>some (4 * id+3)
 | .cond _ a b=>some (4 * cU a b+1)
 | .block id _=>some (4 * id+2)
 |_=>none
def isKey (tb:fF):Option Nat->Bool
 |some k=>(tb.find k).isSome
 |none=>false
def kZ (tb:fF):Code->Bool
 | .seq a b=>isKey tb (kQ a) || kZ tb a || isKey tb (kQ b) || kZ tb b
 | .block _ a=>isKey tb (kQ a) || kZ tb a
 | .cond _ a b=>isKey tb (kQ a) || kZ tb a || isKey tb (kQ b) || kZ tb b
 | .loop _=>true
 |_=>false
section
variable (T:bh) (Y:dZ) (E:Env) (A:oM) (k:Nat) {α:Type} (K:eN α) (c:Code)
def PF.fr (G:Nat->St->Option α):PF->Fr α
 | .c p n=>.c (sb c p) n
 | .r id=>.j λ σ=>G (4 * id) (cut A.loops id σ)
 | .b id=>.blk id
 | .d t=>.cond t
noncomputable def wg (G:Nat->St->Option α) (F:List PF):eN α:=ap T Y E A k K (F.map (PF.fr A c G))
noncomputable def lx (tb:fF) (R:Nat->St->Option α) (id:Nat) (n:Nat):St->Option α:=λ σ=>match tb.find (4 * id) with
 |some (.c p _::_::F)=>gX (λ σ K=>den T Y E A k (sb c p) id σ K) (cut A.loops id) (wg T Y E A k K c R F) n σ
 |_=>none
noncomputable def cx (tb:fF) (R:Nat->St->Option α) (key:Nat):St->Option α:=match (key % 4).beq 0 with
 |true=>lx T Y E A k K c tb R (key / 4) k
 |false=>λ σ=>match tb.find key with
  |some Q=>wg T Y E A k K c R Q .nx σ
  |none=>none
noncomputable def ext (tb:fF) (rc:List Nat) (R:Nat->St->Option α) (key:Nat):St->Option α:=match jw rc key with
 |true=>R key
 |false=>cx T Y E A k K c tb R key
noncomputable def cD (tb:fF) (rc:List Nat) (G:Nat->St->Option α):Nat->List PF->List (Fr α)
 | 0,F=>F.map (PF.fr A c G)
 |_+1,[]=>[]
 |n+1,.r id::F=>.j (λ σ=>G (4 * id) (cut A.loops id σ))::cD tb rc G n F
 |n+1,.b id::F=>match iN tb rc (4 * id+2) F with
  |true=>.b id (λ σ=>G (4 * id+2) (cut A.qk id σ))::cD tb rc G n F
  |false=>.blk id::cD tb rc G n F
 |n+1,.d t::F=>match iN tb rc (4 * t+1) F with
  |true=>.j (λ σ=>G (4 * t+1) (cut A.conds t σ))::cD tb rc G n F
  |false=>.cond t::cD tb rc G n F
 |n+1,.c p b::F=>match Nat.ble 1 p && kZ tb (sb c p),sb c p with
  |true,.seq _ _=>cD tb rc G n (.c (2 * p) b:: .c (2 * p+1) b::F)
  |true,.block id _=>.j (λ σ=>ap T Y E A k K (cD tb rc G n (.c (2 * p) id:: .b id::F)) .nx σ)::cD tb rc G n F
  |true,.cond x a' b'=>.i x (λ σ=>ap T Y E A k K (cD tb rc G n (.c (2 * p) b:: .d (cU a' b')::F)) .nx σ) (λ σ=>ap T Y E A k K (cD tb rc G n (.c (2 * p+1) b:: .d (cU a' b')::F)) .nx σ)::cD tb rc G n F
  |true,.loop _=>match iN tb rc (4 * b) (.c (2 * p) b:: .r b::F) with
   |true=>.j (λ σ=>G (4 * b) (cut A.loops b σ))::cD tb rc G n F
   |false=>.c (sb c p) b::cD tb rc G n F
  |_,x=>match kQ x with
   |some key=>match iN tb rc key F with
    |true=>.c (sb c p) b:: .j (G key)::cD tb rc G n F
    |false=>.c (sb c p) b::cD tb rc G n F
   |none=>.c (sb c p) b::cD tb rc G n F
def gz (rc:List Nat):List PF->Bool
 | []=>true
 | .r id::F=>jw rc (4 * id) && gz rc F
 |_::F=>gz rc F
end
section
variable {T:bh} {Y:dZ} {E:Env} {A:oM} {k:Nat} {α:Type} {K:eN α} {c:Code} {tb:fF} {rc:List Nat} {R:Nat->St->Option α}
theorem yA {c:Code} (h:∀l,sub c l=c) (l m:List Nat):sub c (l++m)=sub (sub c l) m:=by rw [h,h,h]
theorem kF:∀(l:List Nat) (c:Code) (m:List Nat),sub c (l++m)=sub (sub c l) m
 | [],c,m=>by cases c<;>simp [sub]
 |i::l,c,m=>by
  cases c with
  |seq a b=>cases i<;>simp only [List.cons_append,sub,kF l]
  |cond x a b=>cases i<;>simp only [List.cons_append,sub,kF l]
  |block id a=>simp only [List.cons_append,sub,kF l]
  |loop a=>simp only [List.cons_append,sub,kF l]
  |_=>exact yA (λ l=>by cases l<;>rfl) _ _
theorem sJ:∀(f p:Nat) (a m:List Nat),fR f p (a++m)=fR f p a++m
 | 0,p,a,m=>rfl
 |f+1,p,a,m=>by
  simp only [fR]
  cases p.ble 1 with
  |true=>rfl
  |false=>exact sJ f (p / 2) (p % 2::a) m
theorem lU:∀(N f p:Nat) (a:List Nat),f<=N->p<=f->fR f p a=fR p p a
 | 0,f,p,a,h1,h2=>by
   obtain rfl:f=0:=by omega
   obtain rfl:p=0:=by omega
   rfl
 |N+1,f,p,a,h1,h2=>by
  cases f with
  |zero=>obtain rfl:p=0:=by omega
         rfl
  |succ f=>
   cases p with
   |zero=>simp [fR]
   |succ p=>
    simp only [fR]
    cases h:(p+1).ble 1 with
    |true=>rfl
    |false=>
     have hp: ¬p+1<=1:=λ z=>by rw [Nat.ble_eq_true_of_le z] at h;cases h
     simp only
     rw [lU N f ((p+1) / 2) _ (by omega) (by omega),lU N p ((p+1) / 2) _ (by omega) (by omega)]
theorem uX {p i:Nat} (hp:1<=p) (hi:i <2):fR (2 * p+i) (2 * p+i) []=fR p p []++[i]:=by
 obtain ⟨q,hq⟩:∃q,2 * p+i=q+1:=⟨2 * p+i - 1,by omega⟩
 have hb:(q+1).ble 1=false:=by
  cases h:(q+1).ble 1 with
  |false=>rfl
  |true=>have:=Nat.le_of_ble_eq_true h;omega
 rw [hq,fR,hb]
 simp only
 rw [show (q+1) / 2=p by omega,show (q+1) % 2=i by omega,lU q q p _ (Nat.le_refl _) (by omega), <-sJ]
 rfl
theorem tO {c:Code} {p i:Nat} (hp:1<=p) (hi:i <2):sb c (2 * p+i)=sub (sb c p) [i]:=by
 unfold sb
 rw [uX hp hi,kF]
theorem B6 {c:Code} {p:Nat} (hp:1<=p):sb c (2 * p)=sub (sb c p) [0]:=tO (i:=0) hp (by omega)
theorem B7 {c:Code} {p:Nat} (hp:1<=p):sb c (2 * p+1)=sub (sb c p) [1]:=tO (i:=1) hp (by omega)
theorem nI (c:Code):sub c []=c:=by cases c<;>rfl
theorem xU {x:Code} {key:Nat} (h:kQ x=some key):(key % 4).beq 0=false:=by
 unfold kQ at h
 split at h
 ·cases h;exact (by rw [show ∀n,(4 * n+3) % 4=3 by intro n;omega];rfl)
 ·cases h;exact (by rw [show ∀n,(4 * n+1) % 4=1 by intro n;omega];rfl)
 ·cases h;exact (by rw [show ∀n,(4 * n+2) % 4=2 by intro n;omega];rfl)
 ·cases h
theorem oT {key:Nat} {F:List PF} (h:iN tb rc key F=true):tb.find key=some F/\jw rc key=false:=by
 unfold iN at h
 split at h
 ·rename_i Q hQ
  simp only [Bool.and_eq_true,Bool.not_eq_true'] at h
  exact ⟨by rw [hQ,uz h.1],h.2⟩
 ·cases h
theorem yu (n:Nat):((4 * n) % 4).beq 0=true/\((4 * n+1) % 4).beq 0=false/\((4 * n+2) % 4).beq 0=false/\((4 * n+3) % 4).beq 0=false:=by
 refine ⟨?_, ?_, ?_, ?_⟩
 ·rw [Nat.mul_mod_right];rfl
 ·rw [show (4 * n+1) % 4=1 by omega];rfl
 ·rw [show (4 * n+2) % 4=2 by omega];rfl
 ·rw [show (4 * n+3) % 4=3 by omega];rfl
theorem qo {key:Nat} {F:List PF} (h:iN tb rc key F=true) (hk:(key % 4).beq 0=false):ext T Y E A k K c tb rc R key=λ σ=>wg T Y E A k K c R F .nx σ:=by
 obtain ⟨h1,h2⟩:=oT h
 funext σ
 simp only [ext,h2,cx,hk,h1]
theorem wQ {key:Nat} (h:jw rc key=true):ext T Y E A k K c tb rc R key=R key:=by
 simp only [ext,h]
theorem me:∀{F:List PF},gz rc F=true->F.map (PF.fr A c (ext T Y E A k K c tb rc R))=F.map (PF.fr A c R)
 | [],_=>rfl
 | .r id::F,h=>by
   simp only [gz,Bool.and_eq_true] at h
   rw [List.map_cons,List.map_cons,me h.2]
   simp only [PF.fr,wQ h.1]
 | .c p n::F,h=>by rw [List.map_cons,List.map_cons,me (F:=F) h];rfl
 | .b p::F,h=>by rw [List.map_cons,List.map_cons,me (F:=F) h];rfl
 | .d p::F,h=>by rw [List.map_cons,List.map_cons,me (F:=F) h];rfl
theorem eY:∀(n:Nat) (F:List PF),gz rc F=true->ap T Y E A k K (cD T Y E A k K c tb rc (ext T Y E A k K c tb rc R) n F)=ap T Y E A k K (F.map (PF.fr A c R))
 | 0,F,h=>by rw [cD,me h]
 |n+1,[],h=>rfl
 |n+1,.r id::F,h=>by
  simp only [gz,Bool.and_eq_true] at h
  rw [cD,List.map_cons,wQ h.1]
  exact cS _ (eY n F h.2)
 |n+1,.b id::F,h=>by
  have ih:=eY n F h
  rw [cD,List.map_cons]
  split
  ·rename_i hc
   rw [qo hc (yu id).2.2.1]
   exact (cS _ ih).trans (zc (C:=λ σ=>wg T Y E A k K c R F .nx σ) λ σ=>rfl).symm
  ·exact cS _ ih
 |n+1,.d t::F,h=>by
  have ih:=eY n F h
  rw [cD,List.map_cons]
  split
  ·rename_i hc
   rw [qo hc (yu t).2.1]
   exact (cS _ ih).trans (xQ (C:=λ σ=>wg T Y E A k K c R F .nx σ) λ σ=>rfl).symm
  ·exact cS _ ih
 |n+1,.c p b::F,h=>by
  have ih:=eY n F h
  have shut:∀x:Code,ap T Y E A k K (match kQ x with
   |some key=>match iN tb rc key F with
    |true=>.c (sb c p) b:: .j (ext T Y E A k K c tb rc R key)::cD T Y E A k K c tb rc (ext T Y E A k K c tb rc R) n F
    |false=>.c (sb c p) b::cD T Y E A k K c tb rc (ext T Y E A k K c tb rc R) n F
   |none=>.c (sb c p) b::cD T Y E A k K c tb rc (ext T Y E A k K c tb rc R) n F)=ap T Y E A k K (.c (sb c p) b::F.map (PF.fr A c R)):=λ x=>by
   split
   ·rename_i key hkey
    split
    ·rename_i hc
     rw [qo hc (xU hkey)]
     exact cS _ ((cS _ ih).trans (zd λ σ=>rfl).symm)
    ·exact cS _ ih
   ·exact cS _ ih
  have A4:∀q:Bool,q=(Nat.ble 1 p && kZ tb (sb c p))->ap T Y E A k K (cD T Y E A k K c tb rc (ext T Y E A k K c tb rc R) (n+1) (.c p b::F))=ap T Y E A k K ((PF.c p b::F).map (PF.fr A c R)):=λ q hq=>by
   rw [cD, <-hq,List.map_cons]
   show _=ap T Y E A k K (.c (sb c p) b::F.map (PF.fr A c R))
   cases q with
   |false=>
    generalize hx:sb c p=x
    have s:=shut x
    rw [hx] at s
    cases x<;>exact s
   |true=>
    have hp:1<=p:=by
     have:=hq.symm
     rw [Bool.and_eq_true] at this
     exact Nat.le_of_ble_eq_true this.1
    have hl:=B6 (c:=c) hp
    have hr:=B7 (c:=c) hp
    have s:=shut (sb c p)
    generalize hx:sb c p=x at s hl hr ⊢
    cases x with
    |seq x y=>
     refine (eY n (.c (2 * p) b:: .c (2 * p+1) b::F) h).trans ?_
     simp only [List.map_cons,PF.fr]
     rw [hl,hr]
     simp only [sub,nI]
     exact (wh rfl).symm
    |block id x=>
     have ib:=eY n (.c (2 * p) id:: .b id::F) h
     show ap T Y E A k K (.j (λ σ=>ap T Y E A k K (cD T Y E A k K c tb rc (ext T Y E A k K c tb rc R) n (.c (2 * p) id:: .b id::F)) .nx σ)::_)=_
     rw [ib]
     refine (cS _ ih).trans ?_
     simp only [List.map_cons,PF.fr]
     rw [hl]
     simp only [sub,nI]
     exact (sG rfl).symm
    |cond x y z=>
     have i1:=eY n (.c (2 * p) b:: .d (cU y z)::F) h
     have i2:=eY n (.c (2 * p+1) b:: .d (cU y z)::F) h
     show ap T Y E A k K (.i x (λ σ=>ap T Y E A k K (cD T Y E A k K c tb rc (ext T Y E A k K c tb rc R) n (.c (2 * p) b:: .d (cU y z)::F)) .nx σ) (λ σ=>ap T Y E A k K (cD T Y E A k K c tb rc (ext T Y E A k K c tb rc R) n (.c (2 * p+1) b:: .d (cU y z)::F)) .nx σ)::_)=_
     rw [i1,i2]
     refine (cS _ ih).trans ?_
     simp only [List.map_cons,PF.fr]
     rw [hl,hr]
     simp only [sub,nI]
     exact (uu rfl rfl).symm
    |loop x=>
     show ap T Y E A k K (match iN tb rc (4 * b) (.c (2 * p) b:: .r b::F) with
      |true=>.j (λ σ=>ext T Y E A k K c tb rc R (4 * b) (cut A.loops b σ))::cD T Y E A k K c tb rc (ext T Y E A k K c tb rc R) n F
      |false=>.c (.loop x) b::cD T Y E A k K c tb rc (ext T Y E A k K c tb rc R) n F)=_
     split
     ·rename_i hc
      obtain ⟨q1,q2⟩:=oT hc
      have e:ext T Y E A k K c tb rc R (4 * b)=lx T Y E A k K c tb R b k:=by
       have m1:=(yu b).1
       have m2:4 * b / 4=b:=by omega
       simp only [ext,q2,cx,m1,m2]
      rw [e]
      refine (cS _ ih).trans ?_
      refine (uw rfl (C:=λ j σ=>lx T Y E A k K c tb R b j σ) λ j σ=> ?_).symm
      simp only [lx,q1]
      rw [hl]
      simp only [sub,nI]
      rfl
     ·exact cS _ ih
    |_=>exact s
  exact A4 _ rfl
def fF.at (tb:fF) (key:Nat):List PF:=(tb.find key).getD []
theorem Cd (rc:List Nat) {key:Nat} (h:((tb.find key).isSome && gz rc (tb.at key) && !((key % 4).beq 0))=true):cx T Y E A k K c tb R key=λ σ=>ap T Y E A k K (cD T Y E A k K c tb rc (ext T Y E A k K c tb rc R) 9999 (tb.at key)) .nx σ:=by
 simp only [Bool.and_eq_true,Bool.not_eq_true'] at h
 obtain ⟨⟨h1,h2⟩,h3⟩:=h
 rw [eY 9999 _ h2]
 obtain ⟨Q,hQ⟩:=Option.isSome_iff_exists.1 h1
 have fN:tb.at key=Q:=by unfold fF.at;rw [hQ];rfl
 funext σ
 simp only [cx,h3,hQ,fN]
 rfl
def up {β:Type} (R:Nat->β) (key:Nat) (f:β):Nat->β:=λ q=>match q.beq key with
 |true=>f
 |false=>R q
theorem pe {key:Nat} {f:St->Option α} (hk:jw rc key=false):∀{F:List PF},gz rc F=true->F.map (PF.fr A c (up R key f))=F.map (PF.fr A c R)
 | [],_=>rfl
 | .r id::F,h=>by
   simp only [gz,Bool.and_eq_true] at h
   rw [List.map_cons,List.map_cons,pe hk h.2]
   have hne:(4 * id).beq key=false:=by
    cases e:(4 * id).beq key with
    |false=>rfl
    |true=>rw [Nat.eq_of_beq_eq_true e] at h;rw [hk] at h;cases h.1
   simp only [PF.fr,up,hne]
 | .c p n::F,h=>by rw [List.map_cons,List.map_cons,pe hk (F:=F) h];rfl
 | .b p::F,h=>by rw [List.map_cons,List.map_cons,pe hk (F:=F) h];rfl
 | .d p::F,h=>by rw [List.map_cons,List.map_cons,pe hk (F:=F) h];rfl
def Aw (tb:fF) (rc:List Nat) (id:Nat):Bool:=match tb.find (4 * id) with
 |some (.c _ m:: .r i::F)=>m.beq id && i.beq id && gz rc F && !jw rc (4 * id)
 |_=>false
theorem CS (rc:List Nat) {id n:Nat} (h:Aw tb rc id=true):lx T Y E A k K c tb R id (n+1)=λ σ=>ap T Y E A k K (cD T Y E A k K c tb (4 * id::rc) (ext T Y E A k K c tb (4 * id::rc) (up R (4 * id) (lx T Y E A k K c tb R id n))) 9999 (tb.at (4 * id))) .nx σ:=by
 unfold Aw at h
 split at h
 ·rename_i p m i F hf
  simp only [Bool.and_eq_true,Bool.not_eq_true'] at h
  obtain ⟨⟨⟨h1,h2⟩,h3⟩,h4⟩:=h
  have h1:=Nat.eq_of_beq_eq_true h1
  have h2:=Nat.eq_of_beq_eq_true h2
  rw [h1,h2] at hf
  have fN:tb.at (4 * id)=.c p id:: .r id::F:=by unfold fF.at;rw [hf];rfl
  have hok:∀{F:List PF},gz rc F=true->gz (4 * id::rc) F=true:=λ {F}=>by
   induction F with
   |nil=>exact λ h=>h
   |cons x F ih=>
    cases x with
    |r q=>
     simp only [gz,Bool.and_eq_true]
     rintro ⟨a,b⟩
     exact ⟨by simp [jw,a],ih b⟩
    |c _ _=>exact ih
    |b _=>exact ih
    |d _=>exact ih
  have vK:jw (4 * id::rc) (4 * id)=true:=by simp [jw]
  rw [eY 9999 _ (by rw [fN];simp only [gz,vK,hok h3];rfl),fN]
  simp only [List.map_cons,PF.fr,pe h4 h3]
  funext σ
  have e:up R (4 * id) (lx T Y E A k K c tb R id n) (4 * id)=lx T Y E A k K c tb R id n:=by simp [up]
  rw [e]
  simp only [lx,hf]
  exact congrFun (zi (T:=T) (Y:=Y) (E:=E) (A:=A) (k:=k) (K:=K) (F:=F.map (PF.fr A c R)) (c:=sb c p) (n:=id) (m:=n) (cl:=cut A.loops id)) σ
 ·cases h
theorem Cg {n:Nat} {σ:St} {R:Nat->St->Option α}:den T Y E A k c n σ K=ap T Y E A k K (cD T Y E A k K c tb [] (ext T Y E A k K c tb [] R) 9999 [.c 1 n]) .nx σ:=by
 rw [eY 9999 _ rfl]
 exact zI
end
end Go.Rx
