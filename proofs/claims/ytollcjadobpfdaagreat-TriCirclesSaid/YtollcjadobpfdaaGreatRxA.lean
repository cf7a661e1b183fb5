/- Reflection, part A: the types of plain data, what stands for a value (C), and when a value of the machine stands so (RepTy, RepC). -/
import Derived.Orders
import Derived.Still
import Derived.Deep.LoopGhost
import Derived.KernelRfl
set_option linter.unusedVariables false
set_option linter.unusedSimpArgs false
set_option linter.unusedSectionVars false
namespace Go.Rx
inductive Ty where
 |int (k:IntKind)
 |bool
 |str
 |pair (a b:Ty)
 |sl (b:Bool) (e:Ty)
 |fn (f:FuncId)
 |ptr (e:Ty)
 |cL (f:FuncId) (e:Ty)
 |map (K V:Ty)
def gH:Bool->Type->Type
 |true,α=>Option (List α)
 |false,α=>List α
def bX:{α:Type}->(b:Bool)->gH b α->List α
 |_,true,none=>[]
 |_,true,some l=>l
 |_,false,l=>l
def Bx:{α:Type}->(b:Bool)->List α->gH b α
 |_,true,l=>some l
 |_,false,l=>l
def xI:{α:Type}->(b:Bool)->gH b α
 |_,true=>none
 |_,false=>[]
def qd:{α:Type}->(b:Bool)->gH b α->Option Addr->Nat->Prop
 |_,true,none,A,c=>A=none/\c=0
 |_,true,some _,A,_=>A≠none
 |_,false,_,A,c=>A=none->c=0
theorem oI {α:Type}:∀{x:gH true α} {y:gH false α} {A:Option Addr} {c:Nat},qd true x A c->qd false y A c
 |none,_,_,_,h=>λ _=>h.2
 |some _,_,_,_,h=>λ z=>(h z).elim
theorem zn {α:Type}:∀{b:Bool} {x:gH b α} {A:Option Addr} {c:Nat},qd b x A c->A=none->c=0
 |true,_,_,_,h,e=>oI (y:=[]) h e
 |false,_,_,_,h,e=>h e
def Ty.D:Ty->Type
 | .int _=>Int
 | .bool=>Bool
 | .str=>ByteArray
 | .pair a b=>a.D×b.D
 | .sl b e=>gH b e.D
 | .fn _=>Unit
 | .ptr e=>e.D
 | .cL _ e=>e.D
 | .map K V=>List (K.D×V.D)
def Ty.z:(e:Ty)->e.D
 | .int _=>(0:Int)
 | .bool=>false
 | .str=>ByteArray.empty
 | .pair a b=>(a.z,b.z)
 | .sl b _=>xI b
 | .fn _=>()
 | .ptr e=>e.z
 | .cL _ e=>e.z
 | .map _ _=>[]
def Ty.jB:Ty->Bool
 | .pair _ _=>true
 |_=>false
def Ty.n:Ty->Nat
 | .pair a b=>a.n+b.n
 |_=>1
def Ty.beq:Ty->Ty->Bool
 | .int j,.int k=>decide (j=k)
 | .bool,.bool=>true
 | .str,.str=>true
 | .pair a b,.pair c d=>a.beq c && b.beq d
 | .sl b e,.sl c f=>(b == c) && e.beq f
 | .fn f,.fn g=>decide (f=g)
 | .ptr a,.ptr b=>a.beq b
 | .cL f a,.cL g b=>decide (f=g) && a.beq b
 | .map a b,.map c d=>a.beq c && b.beq d
 |_,_=>false
theorem Ty.beq_eq:∀{a b:Ty},a.beq b=true->a=b:=λ {a}=>by
 induction a with
 |int j=>intro b h;cases b<;>simp_all [Ty.beq]
 |bool=>intro b h;cases b<;>simp_all [Ty.beq]
 |str=>intro b h;cases b<;>simp_all [Ty.beq]
 |fn f=>intro b h;cases b<;>simp_all [Ty.beq]
 |pair a b iha ihb=>intro x h;cases x<;>simp_all [Ty.beq];exact ⟨iha h.1,ihb h.2⟩
 |sl b e ih=>intro x h;cases x<;>simp_all [Ty.beq];exact ih h.2
 |ptr e ih=>intro x h;cases x<;>simp_all [Ty.beq];exact ih h
 |cL f e ih=>intro x h;cases x<;>simp_all [Ty.beq];exact ih h.2
 |map a b iha ihb=>intro x h;cases x<;>simp_all [Ty.beq];exact ⟨iha h.1,ihb h.2⟩
theorem Ty.xT (a:Ty):a.beq a=true:=by
 induction a<;>simp_all [Ty.beq]
def Ty.dec (a b:Ty):Decidable (a=b):=
 if h:a.beq b=true then isTrue (Ty.beq_eq h) else isFalse (λ e=>h (e▸Ty.xT a))
instance :DecidableEq Ty:=Ty.dec
inductive C where
 |any
 |lit (b:Bool)
 |int (k:IntKind) (n:Int)
 |prop (p:Prop) (d:Decidable p)
 |str (s:ByteArray)
 |val (b:Bool) (e:Ty) (x:gH b e.D)
 |own (κ:Nat)
 |ptr (κ off:Nat)
 |dO (κ sz i off:Nat)
 |fG (e:Ty) (x:e.D) (off:Nat)
 |nil
 |new (e:Ty) (l:List e.D)
 |fn (f:FuncId) (cap:List Nat)
 |part (κ sz lo n:Nat)
 |mp (κ:Nat)
 |dat (e:Ty) (x:e.D)
 |jo (c:C) (n sz i:Nat)
def Ty.cells:(e:Ty)->e.D->List C
 | .int k,n=>[.int k n]
 | .bool,b=>[.prop (b=true) (instDecidableEqBool b true)]
 | .str,s=>[.str s]
 | .pair a b,x=>a.cells x.1++b.cells x.2
 | .sl b e,x=>[.val b e x]
 | .fn f,_=>[.fn f []]
 | .ptr e,x=>[.fG e x 0]
 | .cL f e,x=>[.dat (.cL f e) x]
 | .map K V,x=>[.dat (.map K V) x]
def C4 {b b':Bool} {e e':Ty} (hb:b=b') (he:e=e') (x:gH b e.D):gH b' e'.D:=hb▸he▸x
def Ty.of:(e:Ty)->List C->Option (e.D×List C)
 | .int k,cs=>match cs with
   | .int k' n::r=>if k=k' then some (n,r) else none
   |_=>none
 | .bool,cs=>match cs with
   | .prop p d::r=>some (@decide p d,r)
   | .lit b::r=>some (b,r)
   |_=>none
 | .str,cs=>match cs with
   | .str s::r=>some (s,r)
   |_=>none
 | .pair a b,cs=>match a.of cs with
   |some (x,r)=>match b.of r with
    |some (y,r')=>some ((x,y),r')
    |none=>none
   |none=>none
 | .sl b e,cs=>match cs with
   | .nil::r=>some (xI b,r)
   | .val b' e' x::r=>
     match Ty.dec e' e,b',b with
     |isTrue h,true,true=>some ((h▸x:gH true e.D),r)
     |isTrue h,true,false=>some (bX true (h▸x:gH true e.D),r)
     |isTrue h,false,false=>some ((h▸x:gH false e.D),r)
     |_,_,_=>none
   |_=>none
 | .fn f,cs=>match cs with
   | .fn g []::r=>if f=g then some ((),r) else none
   |_=>none
 | .ptr e,cs=>match cs with
   | .fG e' x 0::r=>match Ty.dec e' e with
     |isTrue h=>some ((h▸x:e.D),r)
     |isFalse _=>none
   |_=>none
 | .cL f e,cs=>match cs with
   | .dat e' x::r=>match Ty.dec e' (.cL f e) with
     |isTrue h=>some ((h▸x:(Ty.cL f e).D),r)
     |isFalse _=>none
   |_=>none
 | .map K V,cs=>match cs with
   | .dat e' x::r=>match Ty.dec e' (.map K V) with
     |isTrue h=>some ((h▸x:(Ty.map K V).D),r)
     |isFalse _=>none
   |_=>none
def an {α β:Type} (r:α->β->Prop):List α->List β->Prop
 | [],[]=>True
 |a::l,b::m=>r a b/\an r l m
 |_,_=>False
theorem an.append {α β:Type} {r:α->β->Prop}:∀{l:List α} {m:List β} {l':List α} {m':List β},an r l m->an r l' m'->an r (l++l') (m++m')
 | [],[],_,_,_,h=>h
 |_::_,_::_,_,_,h,h'=>⟨h.1,an.append h.2 h'⟩
 | [],_::_,_,_,h,_=>h.elim
 |_::_,[],_,_,h,_=>h.elim
theorem an.length {α β:Type} {r:α->β->Prop}:∀{l:List α} {m:List β},an r l m->l.length=m.length
 | [],[],_=>rfl
 |_::_,_::_,h=>by simp [an.length h.2]
 | [],_::_,h=>h.elim
 |_::_,[],h=>h.elim
theorem an.mono {α β:Type} {r s:α->β->Prop}:∀{l:List α} {m:List β},(∀a∈l,∀b,r a b->s a b)->an r l m->an s l m
 | [],[],_,_=>trivial
 |a::l,b::m,h,g=>⟨h a (List.mem_cons_self ..) b g.1,an.mono (λ x hx=>h x (List.mem_cons_of_mem _ hx)) g.2⟩
 | [],_::_,_,h=>h.elim
 |_::_,[],_,h=>h.elim
theorem an.drop {α β:Type} {r:α->β->Prop}:∀(n:Nat) {l:List α} {m:List β},an r l m->an r (l.drop n) (m.drop n)
 | 0,_,_,h=>h
 |_+1,[],[],_=>trivial
 |n+1,_::_,_::_,h=>an.drop n h.2
 |_+1,[],_::_,h=>h.elim
 |_+1,_::_,[],h=>h.elim
theorem an.take {α β:Type} {r:α->β->Prop}:∀(n:Nat) {l:List α} {m:List β},an r l m->an r (l.take n) (m.take n)
 | 0,_,_,_=>by simp [an]
 |_+1,[],[],_=>trivial
 |n+1,_::_,_::_,h=>⟨h.1,an.take n h.2⟩
 |_+1,[],_::_,h=>h.elim
 |_+1,_::_,[],h=>h.elim
theorem an.get {α β:Type} {r:α->β->Prop}:∀{l:List α} {m:List β} {n:Nat} {a:α},an r l m->l[n]?=some a->∃b,m[n]?=some b/\r a b
 |a::l,b::m,0,_,h,e=>by simp at e;subst e;exact ⟨b,by simp,h.1⟩
 |a::l,b::m,n+1,x,h,e=>by
  obtain ⟨y,h1,h2⟩:=an.get (n:=n) (a:=x) h.2 (by simpa using e)
  exact ⟨y,by simpa using h1,h2⟩
 | [],[],_,_,_,e=>by simp at e
 | [],_::_,_,_,h,_=>h.elim
 |_::_,[],_,_,h,_=>h.elim
theorem an.set {α β:Type} {r:α->β->Prop}:∀{l:List α} {m:List β} {n:Nat} {a:α} {b:β},an r l m->r a b->an r (l.set n a) (m.set n b)
 | [],[],_,_,_,_,_=>by simp [an]
 |_::_,_::_,0,_,_,h,g=>⟨g,h.2⟩
 |_::_,_::_,n+1,_,_,h,g=>⟨h.1,an.set (n:=n) h.2 g⟩
 | [],_::_,_,_,_,h,_=>h.elim
 |_::_,[],_,_,_,h,_=>h.elim
theorem an.cZ {α β γ:Type} {r:α->β->Prop} {s:γ->β->Prop} {f:α->γ}:∀{l:List α} {m:List β},(∀a∈l,∀b,r a b->s (f a) b)->an r l m->an s (l.map f) m
 | [],[],_,_=>trivial
 |a::l,b::m,h,g=>⟨h a (List.mem_cons_self ..) b g.1,an.cZ (λ x hx=>h x (List.mem_cons_of_mem _ hx)) g.2⟩
 | [],_::_,_,h=>h.elim
 |_::_,[],_,h=>h.elim
theorem an.yx {α β:Type} {r:α->β->Prop} {f:α->β}:∀{l:List α},(∀a∈l,r a (f a))->an r l (l.map f)
 | [],_=>trivial
 |a::l,h=>⟨h a (List.mem_cons_self ..),an.yx λ x hx=>h x (List.mem_cons_of_mem _ hx)⟩
def At (cells:Array Value) (o:Nat) (us:List Value):Prop:=∀c u,us[c]?=some u->cells[o+c]?=some u
theorem At.drop {cells:Array Value} {o n:Nat} {us:List Value} (h:At cells o us):At cells (o+n) (us.drop n):=λ c u hu=>by
 rw [Nat.add_assoc]
 exact h (n+c) u (by simpa [List.getElem?_drop] using hu)
theorem At.take {cells:Array Value} {o n:Nat} {us:List Value} (h:At cells o us):At cells o (us.take n):=λ c u hu=>by
 rw [List.getElem?_take] at hu
 split at hu
 ·exact h c u hu
 ·cases hu
theorem At.left {cells:Array Value} {o:Nat} {us vs:List Value} (h:At cells o (us++vs)):At cells o us:=λ c u hu=>h c u (by
 rw [List.getElem?_append_left (by
  rcases Nat.lt_or_ge c us.length with g|g
  ·exact g
  ·rw [List.getElem?_eq_none g] at hu;cases hu)]
 exact hu)
theorem At.right {cells:Array Value} {o:Nat} {us vs:List Value} (h:At cells o (us++vs)):At cells (o+us.length) vs:=λ c u hu=>by
 have:=h (us.length+c) u (by rw [List.getElem?_append_right (by omega)];simpa using hu)
 rwa [Nat.add_assoc]
theorem At.app {cells:Array Value} {o:Nat} {us vs:List Value} (h:At cells o us) (g:At cells (o+us.length) vs):At cells o (us++vs):=λ c u hu=>by
 rcases Nat.lt_or_ge c us.length with hc|hc
 ·rw [List.getElem?_append_left hc] at hu;exact h c u hu
 ·rw [List.getElem?_append_right hc] at hu
  have:=g (c - us.length) u hu
  rw [show o+us.length+(c - us.length)=o+c by omega] at this
  exact this
def sD (es:List MapEntry) (clock:Nat):Prop:=(es.map (·.born)).Nodup/\∀e∈es,e.born <clock
def ay (w:World) (Pr:Nat->Prop):(e:Ty)->e.D->List Value->Prop
 | .int k,n,us=>us=[.int k n]
 | .bool,b,us=>us=[.bool b]
 | .str,s,us=>us=[.string s]
 | .pair a b,x,us=>∃u1 u2,us=u1++u2/\ay w Pr a x.1 u1/\ay w Pr b x.2 u2
 | .sl b e,x,us=>∃A cap,us=[.slice A (bX b x).length cap]/\(bX b x).length<=cap/\qd b x A cap/\
    ((bX b x)≠[]->∃blk off cells el fr,A=some ⟨blk,off,none⟩/\Pr blk/\w.heap[blk]?=some (.cells cells el fr)/\
      ∀i y,(bX b x)[i]?=some y->∃us,At cells (off+i * e.n) us/\ay w Pr e y us)
 | .fn f,_,us=>us=[.func (.func f) #[] #[]]
 | .ptr e,x,us=>∃v,us=[v]/\∃blk o cells el fr cs,v=.pointer (some ⟨blk,o+0,none⟩)/\Pr blk/\w.heap[blk]?=some (.cells cells el fr)/\At cells o cs/\ay w Pr e x cs
 | .cL f e,x,us=>∃v ps,us=[v]/\v=.func (.func f) #[] (List.toArray ps)/\ay w Pr e x ps
 | .map K V,x,us=>∃v blk es clock,us=[v]/\v=.map (some blk)/\Pr blk/\w.heap[blk]?=some (.map es clock)/\sD es.toList clock/\es.toList.length=List.length x/\
    ∀(i:Nat) (kv:K.D×V.D) (en:MapEntry),(show List (K.D×V.D) from x)[i]?=some kv->es.toList[i]?=some en->
     (K.jB=true->∃us,en.key=.agg us/\ay w Pr K kv.1 us.toList)/\(K.jB=false->ay w Pr K kv.1 [en.key])/\
     (V.jB=true->∃us,en.val=.agg us/\ay w Pr V kv.2 us.toList)/\(V.jB=false->ay w Pr V kv.2 [en.val])
theorem ay.len {w:World} {Pr:Nat->Prop}:∀{e:Ty} {x:e.D} {us:List Value},ay w Pr e x us->us.length=e.n
 | .int _,_,_,h=>by rw [show _=_ from h];rfl
 | .bool,_,_,h=>by rw [show _=_ from h];rfl
 | .str,_,_,h=>by rw [show _=_ from h];rfl
 | .pair a b,x,us,h=>by
   obtain ⟨u1,u2,rfl,h1,h2⟩:=h
   rw [List.length_append,ay.len h1,ay.len h2];rfl
 | .sl b e,x,us,h=>by obtain ⟨A,cap,rfl,_⟩:=h;rfl
 | .fn _,_,_,h=>by rw [show _=_ from h];rfl
 | .ptr _,_,_,h=>by obtain ⟨v,rfl,_⟩:=h;rfl
 | .cL _ _,_,_,h=>by obtain ⟨v,ps,rfl,_⟩:=h;rfl
 | .map _ _,_,_,h=>by obtain ⟨v,_,_,_,rfl,_⟩:=h;rfl
theorem ay.move {w w':World} {Pr ak:Nat->Prop} (hw:∀b,Pr b->w'.heap[b]?=w.heap[b]?) (hp:∀b,Pr b->ak b):
 ∀{e:Ty} {x:e.D} {us:List Value},ay w Pr e x us->ay w' ak e x us
 | .int _,_,_,h=>h
 | .bool,_,_,h=>h
 | .str,_,_,h=>h
 | .pair a b,x,us,h=>by
   obtain ⟨u1,u2,rfl,h1,h2⟩:=h
   exact ⟨u1,u2,rfl,ay.move hw hp h1,ay.move hw hp h2⟩
 | .sl b e,x,us,h=>by
   obtain ⟨A,cap,h1,h2,h3,h4⟩:=h
   refine ⟨A,cap,h1,h2,h3,λ hne=> ?_⟩
   obtain ⟨blk,off,cells,el,fr,g1,g2,g3,g4⟩:=h4 hne
   refine ⟨blk,off,cells,el,fr,g1,hp _ g2,(hw _ g2).trans g3,λ i y hi=> ?_⟩
   obtain ⟨us,k1,k2⟩:=g4 i y hi
   exact ⟨us,k1,ay.move hw hp k2⟩
 | .fn _,_,_,h=>h
 | .ptr e,x,us,h=>by
   obtain ⟨v,h1,blk,o,cells,el,fr,cs,g1,g2,g3,g4,g5⟩:=h
   exact ⟨v,h1,blk,o,cells,el,fr,cs,g1,hp _ g2,(hw _ g2).trans g3,g4,ay.move hw hp g5⟩
 | .cL f e,x,us,h=>by
   obtain ⟨v,ps,h1,h2,h3⟩:=h
   exact ⟨v,ps,h1,h2,ay.move hw hp h3⟩
 | .map K V,x,us,h=>by
   obtain ⟨v,blk,es,clock,h1,h2,h3,h4,h5,h6,h7⟩:=h
   refine ⟨v,blk,es,clock,h1,h2,hp _ h3,(hw _ h3).trans h4,h5,h6,λ i kv en hx he=> ?_⟩
   obtain ⟨k1,k2,k3,k4⟩:=h7 i kv en hx he
   exact ⟨λ g=>(by obtain ⟨us,q1,q2⟩:=k1 g;exact ⟨us,q1,ay.move hw hp q2⟩),λ g=>ay.move hw hp (k2 g),λ g=>(by obtain ⟨us,q1,q2⟩:=k3 g;exact ⟨us,q1,ay.move hw hp q2⟩),λ g=>ay.move hw hp (k4 g)⟩
structure RL where
 blk:Nat
 lJ:Option Addr
 len:Nat
 cap:Nat
def RL.aF (r:RL):Value:=.slice r.lJ r.len r.cap
def au (w:World) (R:Nat->RL) (Pr:Nat->Prop):C->Value->Prop
 | .any,_=>True
 | .lit b,v=>v=.bool b
 | .int k n,v=>v=.int k n
 | .prop p d,v=>v=.bool (@decide p d)
 | .str s,v=>v=.string s
 | .val b e x,v=>ay w Pr (.sl b e) x [v]
 | .own κ,v=>v=(R κ).aF
 | .ptr κ off,v=>v=.pointer (some ⟨(R κ).blk,off,none⟩)
 | .dO κ sz i off,v=>i <(R κ).len/\∃o n c,(R κ).aF=.slice (some ⟨(R κ).blk,o,none⟩) n c/\v=.pointer (some ⟨(R κ).blk,o+i * sz+off,none⟩)
 | .fG e x off,v=>∃blk o cells el fr us,v=.pointer (some ⟨blk,o+off,none⟩)/\Pr blk/\w.heap[blk]?=some (.cells cells el fr)/\At cells o us/\ay w Pr e x us
 | .nil,v=>v=.slice none 0 0
 | .new _ l,v=>∃A c,v=.slice A l.length c
 | .fn f cap,v=>v=.func (.func f) #[] (cap.map λ κ=>Value.pointer (some ⟨(R κ).blk,0,none⟩)).toArray
 | .part κ sz lo n,v=>lo+n<=(R κ).len/\∃A c,v=.slice A n c/\(n≠0->∃o m c',(R κ).aF=.slice (some ⟨(R κ).blk,o,none⟩) m c'/\A=some ⟨(R κ).blk,o+lo * sz,none⟩)
 | .mp κ,v=>v=.map (some (R κ).blk)
 | .dat e x,v=>ay w Pr e x [v]
 | .jo c n sz i,v=>i <n/\∃b o,au w R Pr c (.pointer (some ⟨b,o,none⟩))/\v=.pointer (some ⟨b,o+i * sz,none⟩)
def C.refs:C->List Nat
 | .own κ=>[κ]
 | .ptr κ _=>[κ]
 | .dO κ _ _ _=>[κ]
 | .fn _ cap=>cap
 | .part κ _ _ _=>[κ]
 | .mp κ=>[κ]
 | .jo c _ _ _=>c.refs
 |_=>[]
theorem au.move {w w':World} {R R':Nat->RL} {Pr ak:Nat->Prop} (hw:∀b,Pr b->w'.heap[b]?=w.heap[b]?) (hp:∀b,Pr b->ak b) {c:C} {v:Value} (hr:∀κ∈c.refs,R' κ=R κ)
 (h:au w R Pr c v):au w' R' ak c v:=by
 induction c generalizing v with
 |jo c n sz i ih=>
  obtain ⟨h1,b,o,h2,h3⟩:=h
  exact ⟨h1,b,o,ih hr h2,h3⟩
 |dat e x=>exact ay.move hw hp h
 |val b e x=>exact ay.move hw hp h
 |own κ=>have:=hr κ (by simp [C.refs]);simp only [au] at h ⊢; rw [this];exact h
 |ptr κ off=>have:=hr κ (by simp [C.refs]);simp only [au] at h ⊢; rw [this];exact h
 |dO κ sz i off=>have:=hr κ (by simp [C.refs]);simp only [au] at h ⊢; rw [this];exact h
 |part κ sz lo n=>have:=hr κ (by simp [C.refs]);simp only [au] at h ⊢; rw [this];exact h
 |mp κ=>have:=hr κ (by simp [C.refs]);simp only [au] at h ⊢; rw [this];exact h
 |fG e x off=>
  obtain ⟨blk,o,cells,el,fr,us,h1,h2,h3,h4,h5⟩:=h
  exact ⟨blk,o,cells,el,fr,us,h1,hp _ h2,(hw _ h2).trans h3,h4,ay.move hw hp h5⟩
 |fn f cap=>
  simp only [au] at h ⊢
  rw [h]
  have:(cap.map λ κ=>Value.pointer (some ⟨(R κ).blk,0,none⟩))=cap.map λ κ=>Value.pointer (some ⟨(R' κ).blk,0,none⟩):=List.map_congr_left λ κ aa=>by rw [hr κ aa]
  rw [this]
 |_=>exact h
theorem bu {w:World} {R:Nat->RL} {Pr:Nat->Prop}:∀{e:Ty} {x:e.D} {us:List Value},ay w Pr e x us->an (au w R Pr) (e.cells x) us
 | .int k,n,us,h=>by rw [show us=_ from h];exact ⟨rfl,trivial⟩
 | .bool,b,us,h=>by rw [show us=_ from h];exact ⟨by cases b<;>rfl,trivial⟩
 | .str,s,us,h=>by rw [show us=_ from h];exact ⟨rfl,trivial⟩
 | .pair a b,x,us,h=>by
   obtain ⟨u1,u2,rfl,h1,h2⟩:=h
   exact an.append (bu h1) (bu h2)
 | .sl b e,x,us,h=>by
   have h':=h
   obtain ⟨A,cap,rfl,_⟩:=h
   exact ⟨h',trivial⟩
 | .fn f,_,us,h=>by rw [show us=_ from h];exact ⟨rfl,trivial⟩
 | .ptr e,x,us,h=>by obtain ⟨v,rfl,h2⟩:=h;exact ⟨h2,trivial⟩
 | .cL f e,x,us,h=>by have h':=h;obtain ⟨v,ps,rfl,_⟩:=h;exact ⟨h',trivial⟩
 | .map K V,x,us,h=>by have h':=h;obtain ⟨v,_,_,_,rfl,_⟩:=h;exact ⟨h',trivial⟩
theorem c8 {w:World} {R:Nat->RL} {Pr:Nat->Prop}:∀{e:Ty} {cs rest:List C} {x:e.D} {us:List Value},e.of cs=some (x,rest)->an (au w R Pr) cs us->
 ∃u1 u2,us=u1++u2/\ay w Pr e x u1/\an (au w R Pr) rest u2
 | .int k,cs,rest,x,us,h,g=>by
   unfold Ty.of at h
   split at h
   ·rename_i k' n r
    split at h
    ·rename_i hk
     cases h
     subst hk
     cases us with
     |nil=>exact g.elim
     |cons u us=>exact ⟨[u],us,rfl,by rw [show u=_ from g.1];rfl,g.2⟩
    ·cases h
   ·cases h
 | .bool,cs,rest,x,us,h,g=>by
   unfold Ty.of at h
   split at h
   ·cases h
    cases us with
    |nil=>exact g.elim
    |cons u us=>exact ⟨[u],us,rfl,by rw [show u=_ from g.1];rfl,g.2⟩
   ·cases h
    cases us with
    |nil=>exact g.elim
    |cons u us=>exact ⟨[u],us,rfl,by rw [show u=_ from g.1];rfl,g.2⟩
   ·cases h
 | .str,cs,rest,x,us,h,g=>by
   unfold Ty.of at h
   split at h
   ·cases h
    cases us with
    |nil=>exact g.elim
    |cons u us=>exact ⟨[u],us,rfl,by rw [show u=_ from g.1];rfl,g.2⟩
   ·cases h
 | .pair a b,cs,rest,x,us,h,g=>by
   unfold Ty.of at h
   split at h
   ·rename_i y r hy
    split at h
    ·rename_i z r' hz
     cases h
     obtain ⟨u1,u2,rfl,h1,h2⟩:=c8 hy g
     obtain ⟨u3,u4,rfl,h3,h4⟩:=c8 hz h2
     exact ⟨u1++u3,u4,by simp,⟨u1,u3,rfl,h1,h3⟩,h4⟩
    ·cases h
   ·cases h
 | .sl b e,cs,rest,x,us,h,g=>by
   unfold Ty.of at h
   split at h
   ·cases h
    cases us with
    |nil=>exact g.elim
    |cons u us=>
     refine ⟨[u],us,rfl,⟨none,0, ?_⟩,g.2⟩
     have hu:u=.slice none 0 0:=g.1
     cases b<;>exact ⟨by rw [hu];rfl,Nat.le_refl _,by simp [qd,xI],λ h=>(h rfl).elim⟩
   ·rename_i b' e' y r
    cases us with
    |nil=>exact g.elim
    |cons u us=>
     have h1:ay w Pr (.sl b' e') y [u]:=g.1
     generalize hd:Ty.dec e' e=d at h
     cases d with
     |isFalse _=>cases b'<;>cases b<;>cases h
     |isTrue he=>
      subst he
      cases b'<;>cases b<;>first| (cases h;exact ⟨[u],us,rfl,h1,g.2⟩)| (cases h;done)|skip
      cases h
      refine ⟨[u],us,rfl, ?_,g.2⟩
      obtain ⟨A,cap,k1,k2,k3,k4⟩:=h1
      exact ⟨A,cap,k1,k2,oI k3,k4⟩
   ·cases h
 | .fn f,cs,rest,x,us,h,g=>by
   unfold Ty.of at h
   split at h
   ·rename_i f' r
    split at h
    ·rename_i hk
     cases h
     subst hk
     cases us with
     |nil=>exact g.elim
     |cons u us=>exact ⟨[u],us,rfl,by rw [show u=_ from g.1];rfl,g.2⟩
    ·cases h
   ·cases h
 | .ptr e,cs,rest,x,us,h,g=>by
   unfold Ty.of at h
   split at h
   ·rename_i e' y r
    cases us with
    |nil=>exact g.elim
    |cons u us=>
     generalize hd:Ty.dec e' e=d at h
     cases d with
     |isFalse _=>cases h
     |isTrue he=>
      subst he
      cases h
      exact ⟨[u],us,rfl,⟨u,rfl,g.1⟩,g.2⟩
   ·cases h
 | .cL f e,cs,rest,x,us,h,g=>by
   unfold Ty.of at h
   split at h
   ·rename_i e' y r
    cases us with
    |nil=>exact g.elim
    |cons u us=>
     generalize hd:Ty.dec e' (.cL f e)=d at h
     cases d with
     |isFalse _=>cases h
     |isTrue he=>
      subst he
      cases h
      exact ⟨[u],us,rfl,g.1,g.2⟩
   ·cases h
 | .map K V,cs,rest,x,us,h,g=>by
   unfold Ty.of at h
   split at h
   ·rename_i e' y r
    cases us with
    |nil=>exact g.elim
    |cons u us=>
     generalize hd:Ty.dec e' (.map K V)=d at h
     cases d with
     |isFalse _=>cases h
     |isTrue he=>
      subst he
      cases h
      exact ⟨[u],us,rfl,g.1,g.2⟩
   ·cases h
end Go.Rx
