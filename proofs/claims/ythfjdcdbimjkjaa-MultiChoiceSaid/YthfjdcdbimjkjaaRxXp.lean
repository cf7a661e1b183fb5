/- Reflection, part Xp: frames told by numbers, and where they are cut. -/
import Derived.Test.YthfjdcdbimjkjaaRxX
set_option linter.unusedVariables false
set_option linter.unusedSimpArgs false
set_option linter.unusedSectionVars false
namespace Go.Rx
inductive PF where
 |c (p n:Nat)
 |r (id:Nat)
 |b (id:Nat)
 |d (t:Nat)
def PF.zw:PF->PF->Bool
 | .c p n,.c q m=>p.beq q && n.beq m
 | .r i,.r j=>i.beq j
 | .b i,.b j=>i.beq j
 | .d i,.d j=>i.beq j
 |_,_=>false
theorem PF.zx:∀{x y:PF},PF.zw x y=true->x=y
 | .c p n,.c q m,h=>by
   simp only [PF.zw,Bool.and_eq_true] at h
   rw [Nat.eq_of_beq_eq_true h.1,Nat.eq_of_beq_eq_true h.2]
 | .r i,.r j,h=>by rw [Nat.eq_of_beq_eq_true h]
 | .b i,.b j,h=>by rw [Nat.eq_of_beq_eq_true h]
 | .d i,.d j,h=>by rw [Nat.eq_of_beq_eq_true h]
 | .c _ _,.r _,h| .c _ _,.b _,h| .c _ _,.d _,h| .r _,.c _ _,h| .r _,.b _,h| .r _,.d _,h| .b _,.c _ _,h| .b _,.r _,h| .b _,.d _,h| .d _,.c _ _,h| .d _,.r _,h| .d _,.b _,h=>by cases h
def uX:List PF->List PF->Bool
 | [],[]=>true
 |x::l,y::m=>PF.zw x y && uX l m
 |_,_=>false
theorem uh:∀{l m:List PF},uX l m=true->l=m
 | [],[],_=>rfl
 |x::l,y::m,h=>by
  simp only [uX,Bool.and_eq_true] at h
  rw [PF.zx h.1,uh h.2]
 | [],_::_,h|_::_,[],h=>by cases h
abbrev fD:=List (Nat×List PF)
def fD.find:fD->Nat->Option (List PF)
 | [],_=>none
 | (k,Q)::r,key=>match k.beq key with
   |true=>some Q
   |false=>fD.find r key
def jv:List Nat->Nat->Bool
 | [],_=>false
 |x::l,n=>x.beq n || jv l n
def iL (tb:fD) (rc:List Nat) (key:Nat) (F:List PF):Bool:=match tb.find key with
 |some Q=>uX Q F && !jv rc key
 |none=>false
def kO:Code->Option Nat
 | .region id _ _=>some (4 * id+3)
 | .cond _ a b=>some (4 * cS a b+1)
 | .block id _=>some (4 * id+2)
 |_=>none
def isKey (tb:fD):Option Nat->Bool
 |some k=>(tb.find k).isSome
 |none=>false
def kX (tb:fD):Code->Bool
 | .seq a b=>isKey tb (kO a) || kX tb a || isKey tb (kO b) || kX tb b
 | .block _ a=>isKey tb (kO a) || kX tb a
 | .cond _ a b=>isKey tb (kO a) || kX tb a || isKey tb (kO b) || kX tb b
 | .loop _=>true
 |_=>false
section
variable (T:bh) (Y:dY) (E:Env) (A:oK) (k:Nat) {α:Type} (K:eM α) (c:Code)
def PF.fr (G:Nat->St->Option α):PF->Fr α
 | .c p n=>.c (sb c p) n
 | .r id=>.j λ σ=>G (4 * id) (cut A.loops id σ)
 | .b id=>.blk id
 | .d t=>.cond t
noncomputable def vV (G:Nat->St->Option α) (F:List PF):eM α:=ap T Y E A k K (F.map (PF.fr A c G))
noncomputable def lx (tb:fD) (R:Nat->St->Option α) (id:Nat) (n:Nat):St->Option α:=λ σ=>match tb.find (4 * id) with
 |some (.c p _::_::F)=>gV (λ σ K=>den T Y E A k (sb c p) id σ K) (cut A.loops id) (vV T Y E A k K c R F) n σ
 |_=>none
noncomputable def cx (tb:fD) (R:Nat->St->Option α) (key:Nat):St->Option α:=match (key % 4).beq 0 with
 |true=>lx T Y E A k K c tb R (key / 4) k
 |false=>λ σ=>match tb.find key with
  |some Q=>vV T Y E A k K c R Q .nx σ
  |none=>none
noncomputable def ext (tb:fD) (rc:List Nat) (R:Nat->St->Option α) (key:Nat):St->Option α:=match jv rc key with
 |true=>R key
 |false=>cx T Y E A k K c tb R key
noncomputable def cD (tb:fD) (rc:List Nat) (G:Nat->St->Option α):Nat->List PF->List (Fr α)
 | 0,F=>F.map (PF.fr A c G)
 |_+1,[]=>[]
 |n+1,.r id::F=>.j (λ σ=>G (4 * id) (cut A.loops id σ))::cD tb rc G n F
 |n+1,.b id::F=>match iL tb rc (4 * id+2) F with
  |true=>.b id (λ σ=>G (4 * id+2) (cut A.qg id σ))::cD tb rc G n F
  |false=>.blk id::cD tb rc G n F
 |n+1,.d t::F=>match iL tb rc (4 * t+1) F with
  |true=>.j (λ σ=>G (4 * t+1) (cut A.conds t σ))::cD tb rc G n F
  |false=>.cond t::cD tb rc G n F
 |n+1,.c p b::F=>match Nat.ble 1 p && kX tb (sb c p),sb c p with
  |true,.seq _ _=>cD tb rc G n (.c (2 * p) b:: .c (2 * p+1) b::F)
  |true,.block id _=>.j (λ σ=>ap T Y E A k K (cD tb rc G n (.c (2 * p) id:: .b id::F)) .nx σ)::cD tb rc G n F
  |true,.cond x a' b'=>.i x (λ σ=>ap T Y E A k K (cD tb rc G n (.c (2 * p) b:: .d (cS a' b')::F)) .nx σ) (λ σ=>ap T Y E A k K (cD tb rc G n (.c (2 * p+1) b:: .d (cS a' b')::F)) .nx σ)::cD tb rc G n F
  |true,.loop _=>match iL tb rc (4 * b) (.c (2 * p) b:: .r b::F) with
   |true=>.j (λ σ=>G (4 * b) (cut A.loops b σ))::cD tb rc G n F
   |false=>.c (sb c p) b::cD tb rc G n F
  |_,x=>match kO x with
   |some key=>match iL tb rc key F with
    |true=>.c (sb c p) b:: .j (G key)::cD tb rc G n F
    |false=>.c (sb c p) b::cD tb rc G n F
   |none=>.c (sb c p) b::cD tb rc G n F
def gy (rc:List Nat):List PF->Bool
 | []=>true
 | .r id::F=>jv rc (4 * id) && gy rc F
 |_::F=>gy rc F
end
section
variable {T:bh} {Y:dY} {E:Env} {A:oK} {k:Nat} {α:Type} {K:eM α} {c:Code} {tb:fD} {rc:List Nat} {R:Nat->St->Option α}
theorem yh {c:Code} (h:∀l,sub c l=c) (l m:List Nat):sub c (l++m)=sub (sub c l) m:=by rw [h,h,h]
theorem kD:∀(l:List Nat) (c:Code) (m:List Nat),sub c (l++m)=sub (sub c l) m
 | [],c,m=>by cases c<;>simp [sub]
 |i::l,c,m=>by
  cases c with
  |seq a b=>cases i<;>simp only [List.cons_append,sub,kD l]
  |cond x a b=>cases i<;>simp only [List.cons_append,sub,kD l]
  |block id a=>simp only [List.cons_append,sub,kD l]
  |loop a=>simp only [List.cons_append,sub,kD l]
  |_=>exact yh (λ l=>by cases l<;>rfl) _ _
theorem sD:∀(f p:Nat) (a m:List Nat),fQ f p (a++m)=fQ f p a++m
 | 0,p,a,m=>rfl
 |f+1,p,a,m=>by
  simp only [fQ]
  cases p.ble 1 with
  |true=>rfl
  |false=>exact sD f (p / 2) (p % 2::a) m
theorem lS:∀(N f p:Nat) (a:List Nat),f<=N->p<=f->fQ f p a=fQ p p a
 | 0,f,p,a,h1,h2=>by
   obtain rfl:f=0:=by omega
   obtain rfl:p=0:=by omega
   rfl
 |N+1,f,p,a,h1,h2=>by
  cases f with
  |zero=>obtain rfl:p=0:=by omega
         rfl
  |succ f=>
   cases p with
   |zero=>simp [fQ]
   |succ p=>
    simp only [fQ]
    cases h:(p+1).ble 1 with
    |true=>rfl
    |false=>
     have hp: ¬p+1<=1:=λ z=>by rw [Nat.ble_eq_true_of_le z] at h;cases h
     simp only
     rw [lS N f ((p+1) / 2) _ (by omega) (by omega),lS N p ((p+1) / 2) _ (by omega) (by omega)]
theorem uO {p i:Nat} (hp:1<=p) (hi:i <2):fQ (2 * p+i) (2 * p+i) []=fQ p p []++[i]:=by
 obtain ⟨q,hq⟩:∃q,2 * p+i=q+1:=⟨2 * p+i - 1,by omega⟩
 have hb:(q+1).ble 1=false:=by
  cases h:(q+1).ble 1 with
  |false=>rfl
  |true=>have:=Nat.le_of_ble_eq_true h;omega
 rw [hq,fQ,hb]
 simp only
 rw [show (q+1) / 2=p by omega,show (q+1) % 2=i by omega,lS q q p _ (Nat.le_refl _) (by omega), <-sD]
 rfl
theorem tH {c:Code} {p i:Nat} (hp:1<=p) (hi:i <2):sb c (2 * p+i)=sub (sb c p) [i]:=by
 unfold sb
 rw [uO hp hi,kD]
theorem BO {c:Code} {p:Nat} (hp:1<=p):sb c (2 * p)=sub (sb c p) [0]:=tH (i:=0) hp (by omega)
theorem BP {c:Code} {p:Nat} (hp:1<=p):sb c (2 * p+1)=sub (sb c p) [1]:=tH (i:=1) hp (by omega)
theorem nG (c:Code):sub c []=c:=by cases c<;>rfl
theorem xJ {x:Code} {key:Nat} (h:kO x=some key):(key % 4).beq 0=false:=by
 unfold kO at h
 split at h
 ·cases h;exact (by rw [show ∀n,(4 * n+3) % 4=3 by intro n;omega];rfl)
 ·cases h;exact (by rw [show ∀n,(4 * n+1) % 4=1 by intro n;omega];rfl)
 ·cases h;exact (by rw [show ∀n,(4 * n+2) % 4=2 by intro n;omega];rfl)
 ·cases h
theorem oR {key:Nat} {F:List PF} (h:iL tb rc key F=true):tb.find key=some F/\jv rc key=false:=by
 unfold iL at h
 split at h
 ·rename_i Q hQ
  simp only [Bool.and_eq_true,Bool.not_eq_true'] at h
  exact ⟨by rw [hQ,uh h.1],h.2⟩
 ·cases h
theorem ya (n:Nat):((4 * n) % 4).beq 0=true/\((4 * n+1) % 4).beq 0=false/\((4 * n+2) % 4).beq 0=false/\((4 * n+3) % 4).beq 0=false:=by
 refine ⟨?_, ?_, ?_, ?_⟩
 ·rw [Nat.mul_mod_right];rfl
 ·rw [show (4 * n+1) % 4=1 by omega];rfl
 ·rw [show (4 * n+2) % 4=2 by omega];rfl
 ·rw [show (4 * n+3) % 4=3 by omega];rfl
theorem qk {key:Nat} {F:List PF} (h:iL tb rc key F=true) (hk:(key % 4).beq 0=false):ext T Y E A k K c tb rc R key=λ σ=>vV T Y E A k K c R F .nx σ:=by
 obtain ⟨h1,h2⟩:=oR h
 funext σ
 simp only [ext,h2,cx,hk,h1]
theorem wH {key:Nat} (h:jv rc key=true):ext T Y E A k K c tb rc R key=R key:=by
 simp only [ext,h]
theorem l8:∀{F:List PF},gy rc F=true->F.map (PF.fr A c (ext T Y E A k K c tb rc R))=F.map (PF.fr A c R)
 | [],_=>rfl
 | .r id::F,h=>by
   simp only [gy,Bool.and_eq_true] at h
   rw [List.map_cons,List.map_cons,l8 h.2]
   simp only [PF.fr,wH h.1]
 | .c p n::F,h=>by rw [List.map_cons,List.map_cons,l8 (F:=F) h];rfl
 | .b p::F,h=>by rw [List.map_cons,List.map_cons,l8 (F:=F) h];rfl
 | .d p::F,h=>by rw [List.map_cons,List.map_cons,l8 (F:=F) h];rfl
theorem eX:∀(n:Nat) (F:List PF),gy rc F=true->ap T Y E A k K (cD T Y E A k K c tb rc (ext T Y E A k K c tb rc R) n F)=ap T Y E A k K (F.map (PF.fr A c R))
 | 0,F,h=>by rw [cD,l8 h]
 |n+1,[],h=>rfl
 |n+1,.r id::F,h=>by
  simp only [gy,Bool.and_eq_true] at h
  rw [cD,List.map_cons,wH h.1]
  exact cR _ (eX n F h.2)
 |n+1,.b id::F,h=>by
  have ih:=eX n F h
  rw [cD,List.map_cons]
  split
  ·rename_i hc
   rw [qk hc (ya id).2.2.1]
   exact (cR _ ih).trans (yX (C:=λ σ=>vV T Y E A k K c R F .nx σ) λ σ=>rfl).symm
  ·exact cR _ ih
 |n+1,.d t::F,h=>by
  have ih:=eX n F h
  rw [cD,List.map_cons]
  split
  ·rename_i hc
   rw [qk hc (ya t).2.1]
   exact (cR _ ih).trans (xF (C:=λ σ=>vV T Y E A k K c R F .nx σ) λ σ=>rfl).symm
  ·exact cR _ ih
 |n+1,.c p b::F,h=>by
  have ih:=eX n F h
  have shut:∀x:Code,ap T Y E A k K (match kO x with
   |some key=>match iL tb rc key F with
    |true=>.c (sb c p) b:: .j (ext T Y E A k K c tb rc R key)::cD T Y E A k K c tb rc (ext T Y E A k K c tb rc R) n F
    |false=>.c (sb c p) b::cD T Y E A k K c tb rc (ext T Y E A k K c tb rc R) n F
   |none=>.c (sb c p) b::cD T Y E A k K c tb rc (ext T Y E A k K c tb rc R) n F)=ap T Y E A k K (.c (sb c p) b::F.map (PF.fr A c R)):=λ x=>by
   split
   ·rename_i key hkey
    split
    ·rename_i hc
     rw [qk hc (xJ hkey)]
     exact cR _ ((cR _ ih).trans (yY λ σ=>rfl).symm)
    ·exact cR _ ih
   ·exact cR _ ih
  have AN:∀q:Bool,q=(Nat.ble 1 p && kX tb (sb c p))->ap T Y E A k K (cD T Y E A k K c tb rc (ext T Y E A k K c tb rc R) (n+1) (.c p b::F))=ap T Y E A k K ((PF.c p b::F).map (PF.fr A c R)):=λ q hq=>by
   rw [cD, <-hq,List.map_cons]
   show _=ap T Y E A k K (.c (sb c p) b::F.map (PF.fr A c R))
   cases q with
   |false=>
    generalize hx:sb c p=x
    have s:=shut x
    rw [hx] at s
    cases x<;>exact s
   |true=>
    have hp:1<=p:=by
     have:=hq.symm
     rw [Bool.and_eq_true] at this
     exact Nat.le_of_ble_eq_true this.1
    have hl:=BO (c:=c) hp
    have hr:=BP (c:=c) hp
    have s:=shut (sb c p)
    generalize hx:sb c p=x at s hl hr ⊢
    cases x with
    |seq x y=>
     refine (eX n (.c (2 * p) b:: .c (2 * p+1) b::F) h).trans ?_
     simp only [List.map_cons,PF.fr]
     rw [hl,hr]
     simp only [sub,nG]
     exact (vW rfl).symm
    |block id x=>
     have ib:=eX n (.c (2 * p) id:: .b id::F) h
     show ap T Y E A k K (.j (λ σ=>ap T Y E A k K (cD T Y E A k K c tb rc (ext T Y E A k K c tb rc R) n (.c (2 * p) id:: .b id::F)) .nx σ)::_)=_
     rw [ib]
     refine (cR _ ih).trans ?_
     simp only [List.map_cons,PF.fr]
     rw [hl]
     simp only [sub,nG]
     exact (sA rfl).symm
    |cond x y z=>
     have i1:=eX n (.c (2 * p) b:: .d (cS y z)::F) h
     have i2:=eX n (.c (2 * p+1) b:: .d (cS y z)::F) h
     show ap T Y E A k K (.i x (λ σ=>ap T Y E A k K (cD T Y E A k K c tb rc (ext T Y E A k K c tb rc R) n (.c (2 * p) b:: .d (cS y z)::F)) .nx σ) (λ σ=>ap T Y E A k K (cD T Y E A k K c tb rc (ext T Y E A k K c tb rc R) n (.c (2 * p+1) b:: .d (cS y z)::F)) .nx σ)::_)=_
     rw [i1,i2]
     refine (cR _ ih).trans ?_
     simp only [List.map_cons,PF.fr]
     rw [hl,hr]
     simp only [sub,nG]
     exact (uc rfl rfl).symm
    |loop x=>
     show ap T Y E A k K (match iL tb rc (4 * b) (.c (2 * p) b:: .r b::F) with
      |true=>.j (λ σ=>ext T Y E A k K c tb rc R (4 * b) (cut A.loops b σ))::cD T Y E A k K c tb rc (ext T Y E A k K c tb rc R) n F
      |false=>.c (.loop x) b::cD T Y E A k K c tb rc (ext T Y E A k K c tb rc R) n F)=_
     split
     ·rename_i hc
      obtain ⟨q1,q2⟩:=oR hc
      have e:ext T Y E A k K c tb rc R (4 * b)=lx T Y E A k K c tb R b k:=by
       have m1:=(ya b).1
       have m2:4 * b / 4=b:=by omega
       simp only [ext,q2,cx,m1,m2]
      rw [e]
      refine (cR _ ih).trans ?_
      refine (ud rfl (C:=λ j σ=>lx T Y E A k K c tb R b j σ) λ j σ=> ?_).symm
      simp only [lx,q1]
      rw [hl]
      simp only [sub,nG]
      rfl
     ·exact cR _ ih
    |_=>exact s
  exact AN _ rfl
def fD.at (tb:fD) (key:Nat):List PF:=(tb.find key).getD []
theorem BW (rc:List Nat) {key:Nat} (h:((tb.find key).isSome && gy rc (tb.at key) && !((key % 4).beq 0))=true):cx T Y E A k K c tb R key=λ σ=>ap T Y E A k K (cD T Y E A k K c tb rc (ext T Y E A k K c tb rc R) 9999 (tb.at key)) .nx σ:=by
 simp only [Bool.and_eq_true,Bool.not_eq_true'] at h
 obtain ⟨⟨h1,h2⟩,h3⟩:=h
 rw [eX 9999 _ h2]
 obtain ⟨Q,hQ⟩:=Option.isSome_iff_exists.1 h1
 have fL:tb.at key=Q:=by unfold fD.at;rw [hQ];rfl
 funext σ
 simp only [cx,h3,hQ,fL]
 rfl
def up {β:Type} (R:Nat->β) (key:Nat) (f:β):Nat->β:=λ q=>match q.beq key with
 |true=>f
 |false=>R q
theorem o7 {key:Nat} {f:St->Option α} (hk:jv rc key=false):∀{F:List PF},gy rc F=true->F.map (PF.fr A c (up R key f))=F.map (PF.fr A c R)
 | [],_=>rfl
 | .r id::F,h=>by
   simp only [gy,Bool.and_eq_true] at h
   rw [List.map_cons,List.map_cons,o7 hk h.2]
   have hne:(4 * id).beq key=false:=by
    cases e:(4 * id).beq key with
    |false=>rfl
    |true=>rw [Nat.eq_of_beq_eq_true e] at h;rw [hk] at h;cases h.1
   simp only [PF.fr,up,hne]
 | .c p n::F,h=>by rw [List.map_cons,List.map_cons,o7 hk (F:=F) h];rfl
 | .b p::F,h=>by rw [List.map_cons,List.map_cons,o7 hk (F:=F) h];rfl
 | .d p::F,h=>by rw [List.map_cons,List.map_cons,o7 hk (F:=F) h];rfl
def Ah (tb:fD) (rc:List Nat) (id:Nat):Bool:=match tb.find (4 * id) with
 |some (.c _ m:: .r i::F)=>m.beq id && i.beq id && gy rc F && !jv rc (4 * id)
 |_=>false
theorem CE (rc:List Nat) {id n:Nat} (h:Ah tb rc id=true):lx T Y E A k K c tb R id (n+1)=λ σ=>ap T Y E A k K (cD T Y E A k K c tb (4 * id::rc) (ext T Y E A k K c tb (4 * id::rc) (up R (4 * id) (lx T Y E A k K c tb R id n))) 9999 (tb.at (4 * id))) .nx σ:=by
 unfold Ah at h
 split at h
 ·rename_i p m i F hf
  simp only [Bool.and_eq_true,Bool.not_eq_true'] at h
  obtain ⟨⟨⟨h1,h2⟩,h3⟩,h4⟩:=h
  have h1:=Nat.eq_of_beq_eq_true h1
  have h2:=Nat.eq_of_beq_eq_true h2
  rw [h1,h2] at hf
  have fL:tb.at (4 * id)=.c p id:: .r id::F:=by unfold fD.at;rw [hf];rfl
  have hok:∀{F:List PF},gy rc F=true->gy (4 * id::rc) F=true:=λ {F}=>by
   induction F with
   |nil=>exact λ h=>h
   |cons x F ih=>
    cases x with
    |r q=>
     simp only [gy,Bool.and_eq_true]
     rintro ⟨a,b⟩
     exact ⟨by simp [jv,a],ih b⟩
    |c _ _=>exact ih
    |b _=>exact ih
    |d _=>exact ih
  have vB:jv (4 * id::rc) (4 * id)=true:=by simp [jv]
  rw [eX 9999 _ (by rw [fL];simp only [gy,vB,hok h3];rfl),fL]
  simp only [List.map_cons,PF.fr,o7 h4 h3]
  funext σ
  have e:up R (4 * id) (lx T Y E A k K c tb R id n) (4 * id)=lx T Y E A k K c tb R id n:=by simp [up]
  rw [e]
  simp only [lx,hf]
  exact congrFun (y5 (T:=T) (Y:=Y) (E:=E) (A:=A) (k:=k) (K:=K) (F:=F.map (PF.fr A c R)) (c:=sb c p) (n:=id) (m:=n) (cl:=cut A.loops id)) σ
 ·cases h
theorem BZ {n:Nat} {σ:St} {R:Nat->St->Option α}:den T Y E A k c n σ K=ap T Y E A k K (cD T Y E A k K c tb [] (ext T Y E A k K c tb [] R) 9999 [.c 1 n]) .nx σ:=by
 rw [eX 9999 _ rfl]
 exact zp
end
end Go.Rx
