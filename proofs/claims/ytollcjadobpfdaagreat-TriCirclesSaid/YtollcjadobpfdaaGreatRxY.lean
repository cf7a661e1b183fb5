/- Reflection, part Y: how what comes in is read: a value that reads as data of a type of the program stands for data of our types. -/
import Derived.Test.YtollcjadobpfdaaGreatRxXp
import Derived.SizedLaws
import Derived.ChangeSlices
import Derived.WideShapes
import Derived.Deep.Slices
import Derived.OpenShut
set_option linter.unusedVariables false
set_option linter.unusedSimpArgs false
set_option linter.unusedSectionVars false
namespace Go.Rx
def xw:IntKind->Nat
 | .i8=>1| .u8=>1| .i16=>2| .u16=>2| .i32=>4| .u32=>4|_=>8
def Ty.by:Ty->Nat
 | .int k=>xw k
 | .bool=>1
 | .str=>16
 | .pair a b=>a.by+b.by
 | .sl _ _=>24
 | .fn _=>8
 | .ptr _=>8
 | .cL _ _=>8
 | .map _ _=>8
def Ty.wf:(τ:Ty)->τ.D->Prop
 | .int k,n=>(Lit.int k n).wf=true
 | .bool,_=>True
 | .str,s=>s.size<=140737488351232
 | .pair a b,x=>a.wf x.1/\b.wf x.2
 | .sl b e,x=>(bX b x).length * e.by<=140737488351232/\∀y∈bX b x,e.wf y
 | .fn _,_=>True
 | .ptr e,x=>e.wf x
 | .cL _ e,x=>e.wf x
 | .map _ _,_=>True
def tF (P:Program) (rec:Ty->TypeId->Bool):Ty->List Field->Nat->Bool
 |τ,[f],o=>f.offset.beq o && (P.cellsOf f.type).beq τ.n && rec τ f.type
 | .pair a b,f::g::fs,o=>f.offset.beq o && (P.cellsOf f.type).beq a.n && rec a f.type && tF P rec b (g::fs) (o+a.n)
 |_,_,_=>false
def nh (el : TypeId) (q m : Nat) : List Field := (List.range m).map fun i => ⟨"", el, i * q, false, "", "", 0⟩
theorem qP {el:TypeId} {q m i:Nat} {f:Field} (h:(nh el q m)[i]?=some f):i <m/\f.type=el/\f.offset=i * q:=by
 obtain ⟨hi,rfl⟩:=List.getElem?_eq_some_iff.1 h
 have hi:i <m:=by simpa [nh] using hi
 exact ⟨hi,by simp [nh],by simp [nh]⟩
def uN (P:Program):Nat->Ty->TypeId->Bool
 | 0,_,_=>false
 |n+1,τ,t=>match P.underlying t with
  |some (.int k')=>match τ with
   | .int k=>decide (k=k')
   |_=>false
  |some .bool=>match τ with
   | .bool=>true
   |_=>false
  |some .string=>match τ with
   | .str=>true
   |_=>false
  |some (.slice el)=>match τ with
   | .sl false e=>uN P n e el && (P.cellsOf el).beq e.n && e.by.ble (P.bytesOf el) && Nat.blt 0 e.n
   |_=>false
  |some (.struct fs)=>tF P (uN P n) τ fs.toList 0 && (P.cellsOf t).beq τ.n
  |some (.array m el)=>tF P (uN P n) τ (nh el (P.cellsOf el) m) 0 && (P.cellsOf t).beq τ.n
  |_=>false
structure Reads (P:Program) (t:TypeId) (τ:Ty):Prop where mk::(out:
 ∀{H:Type} (enc:TypeId×Value->H) (w:World) (base:Nat) (spare:Nat->Bool) (held:Bool) (fuel:Nat) (cs:List Value) (x:DataW H) (ps:List MemPlace),
  DataW.trod enc P w base spare held fuel t cs=some (x,ps)->(∀n∈x.weights P t,n<=reachBytes)->∃a:τ.D,ay w (λ b=>b <w.heap.size) τ a cs/\τ.wf a)
structure zy (P:Program) (fs:List Field) (o:Nat) (τ:Ty):Prop where mk::(out:
 ∀{H:Type} (enc:TypeId×Value->H) (w:World) (base:Nat) (spare:Nat->Bool) (held:Bool) (n:Nat) (cs:List Value) (xs:List (DataW H×List MemPlace)),
  cs.length=o+τ.n->xs.length=fs.length->(∀(i:Nat) (f:Field),fs[i]?=some f->DataW.trod enc P w base spare held n f.type ((cs.drop f.offset).take (P.cellsOf f.type))=xs[i]?)->
  (∀(i:Nat) (f:Field) (x:DataW H×List MemPlace),fs[i]?=some f->xs[i]?=some x->∀m∈x.1.weights P f.type,m<=reachBytes)->∃a:τ.D,ay w (λ b=>b <w.heap.size) τ a (cs.drop o)/\τ.wf a)
theorem uH {α:Type} {p:Nat->α->Prop}:∀{n:Nat},(∀i,i <n->∃a,p i a)->∃l:List α,l.length=n/\∀(i:Nat) (a:α),l[i]?=some a->p i a
 | 0,_=>⟨[],rfl,λ i a h=>by simp at h⟩
 |n+1,h=>by
  obtain ⟨l,hl,hp⟩:=uH (n:=n) (λ i hi=>h i (by omega))
  obtain ⟨a,ha⟩:=h n (by omega)
  refine ⟨l++[a],by simp [hl],λ i b hb=> ?_⟩
  rw [List.getElem?_append] at hb
  split at hb
  ·exact hp i b hb
  ·have hi:i - l.length=0:=by
    by_cases e:i - l.length=0
    ·exact e
    ·rw [List.getElem?_eq_none (by simp;omega)] at hb
     cases hb
   rw [hi] at hb
   simp at hb
   have:i=n:=by omega
   subst this;subst hb
   exact ha
theorem gR {H:Type} {P:Program} {e:TypeId}:∀{ds:List (DataW H)} {j:Nat} {d:DataW H},ds[j]?=some d->∀n∈d.weights P e,n∈DataW.weightsAll P e ds
 |d0::ds,0,d,hd,n,hn=>by
  simp only [List.getElem?_cons_zero,Option.some.injEq] at hd
  subst hd
  simp only [DataW.weightsAll,List.mem_append]
  exact Or.inl hn
 |d0::ds,j+1,d,hd,n,hn=>by
  simp only [List.getElem?_cons_succ] at hd
  simp only [DataW.weightsAll,List.mem_append]
  exact Or.inr (gR hd n hn)
 | [],_,_,hd,_,_=>by simp at hd
theorem mM {P:Program} {rec:Ty->TypeId->Bool} (hr:∀τ t,rec τ t=true->Reads P t τ):∀(fs:List Field) (τ:Ty) (o:Nat),tF P rec τ fs o=true->zy P fs o τ
 | [],τ,o,h=>by cases τ<;>simp [tF] at h
 | [f],τ,o,h=>by
   have h:(f.offset.beq o && (P.cellsOf f.type).beq τ.n && rec τ f.type)=true:=by
    cases τ<;>exact h
   simp only [Bool.and_eq_true,Nat.beq_eq] at h
   refine ⟨λ {H} enc w base spare held n cs xs=> ?_⟩
   intro hl hx hf hw
   match xs,hx with
   | [x],_=>
     have h0:=hf 0 f rfl
     simp only [List.getElem?_cons_zero] at h0
     rw [h.1.1,h.1.2,List.take_of_length_le (by simp;omega)] at h0
     exact (hr τ _ h.2).out enc w base spare held n _ _ _ h0 (hw 0 f x rfl rfl)
 |f::g::fs,τ,o,h=>by
  cases τ with
  |pair a b=>
   simp only [tF,Bool.and_eq_true,Nat.beq_eq] at h
   obtain ⟨⟨⟨ho,hz⟩,h1⟩,h2⟩:=h
   have ih:=mM hr (g::fs) b (o+a.n) h2
   refine ⟨λ {H} enc w base spare held n cs xs=> ?_⟩
   intro hl hx hf hw
   match xs,hx with
   |x::xs,hx=>
    have h0:=hf 0 f rfl
    simp only [List.getElem?_cons_zero] at h0
    rw [ho,hz] at h0
    obtain ⟨y,hK,hwf⟩:=(hr a _ h1).out enc w base spare held n _ _ _ h0 (hw 0 f x rfl rfl)
    have hsz:(Ty.pair a b).n=a.n+b.n:=rfl
    obtain ⟨z,yJ,BZ⟩:=ih.out enc w base spare held n cs xs (by omega) (by simpa using hx) (λ i f hf'=>hf (i+1) f hf') (λ i f x hf' hx'=>hw (i+1) f x hf' hx')
    refine ⟨(y,z),⟨_,_, ?_,hK,yJ⟩,hwf,BZ⟩
    rw [<-List.drop_drop,List.take_append_drop]
  |_=>simp [tF] at h
theorem jW {P:Program}:∀(n:Nat) (τ:Ty) (t:TypeId),uN P n τ t=true->Reads P t τ
 | 0,τ,t,h=>by cases h
 |n+1,τ,t,h=>by
  unfold uN at h
  split at h
  ·rename_i k' ht
   cases τ with
   |int k=>
    have:k=k':=by simpa using h
    subst this
    refine ⟨λ {H} enc w base spare held fuel cs x ps=> ?_⟩
    intro h _
    obtain ⟨n,rfl,hx,hw⟩:=DataW.trod_int ht h
    exact ⟨n,rfl,hw⟩
   |_=>cases h
  ·rename_i ht
   cases τ with
   |bool=>
    refine ⟨λ {H} enc w base spare held fuel cs x ps=> ?_⟩
    intro h _
    obtain ⟨n,rfl,hx⟩:=DataW.trod_bool ht h
    exact ⟨n,rfl,trivial⟩
   |_=>cases h
  ·rename_i ht
   cases τ with
   |str=>
    refine ⟨λ {H} enc w base spare held fuel cs x ps=> ?_⟩
    intro h hw
    obtain ⟨s,rfl,hx,hs⟩:=DataW.trod_string ht h
    obtain ⟨rfl,_⟩:=Prod.mk.inj hx
    refine ⟨s,rfl, ?_⟩
    have:=hw s.data.toList.length (by simp [DataW.weights])
    simpa [reachBytes,Ty.wf] using this
   |_=>cases h
  ·rename_i el ht
   cases τ with
   |sl b e=>
    cases b with
    |true=>cases h
    |false=>
     simp only [Bool.and_eq_true,Nat.beq_eq,Nat.ble_eq,Nat.blt_eq] at h
     obtain ⟨⟨⟨h1,hz⟩,hby⟩,hpos⟩:=h
     have hd:=jW n e el h1
     refine ⟨λ {H} enc w base spare held fuel cs x ps=> ?_⟩
     intro h hw
     rcases DataW.trod_slice ht h with ⟨rfl,hx⟩|⟨a,len,cap,elems,rest,m,_,rfl,hx,hb,hl,hm,hlen,hel,hsp,Dl⟩
     ·exact ⟨[],⟨none,0,rfl,Nat.le_refl _,λ _=>rfl,λ hn=>(hn rfl).elim⟩,by simp [bX],λ x hx=>by simp [bX] at hx⟩
     ·obtain ⟨rfl,_⟩:=Prod.mk.inj hx
      have hall:∀i,i <len->∃a':e.D,e.wf a'/\∃cs',w.cells? base (a.add (i * P.cellsOf el)) (P.cellsOf el)=some cs'/\ay w (λ b=>b <w.heap.size) e a' cs':=by
       intro i hi
       have h1:=hel i hi
       have hi2:i <elems.length:=by omega
       rw [List.getElem?_eq_getElem hi2] at h1
       obtain ⟨cs',hc,ht'⟩:=Option.bind_eq_some_iff.1 h1
       obtain ⟨a',hK,hwf⟩:=hd.out enc w base spare held m cs' _ _ ht' (λ q hq=>hw q (by
        simp only [DataW.weights,ht]
        refine List.mem_cons_of_mem _ (List.mem_append_left _ (gR (j:=i) (d:=elems[i].1) ?_ q hq))
        simp [hi2]))
       exact ⟨a',hwf,cs',hc,hK⟩
      obtain ⟨l,Bg,hlp⟩:=uH hall
      refine ⟨l,⟨some a,cap,by rw [show bX false l=l from rfl,Bg],by rw [show bX false l=l from rfl];omega,(λ z=>by cases z),λ hn=> ?_⟩, ?_, ?_⟩
      ·
       rw [show bX false l=l from rfl] at hn ⊢
       have fN:∀(i:Nat) (y:e.D),l[i]?=some y->∃us,us.length=e.n/\(∀c u,us[c]?=some u->w.cell? (a.add (i * e.n+c))=some u)/\ay w (λ b=>b <w.heap.size) e y us:=λ i y hy=>by
        obtain ⟨_,cs',hc,hK⟩:=hlp i y hy
        obtain ⟨_,hlen',hcell⟩:=World.cells?_some hc
        refine ⟨cs',by rw [hlen',hz],λ c u hu=> ?_,hK⟩
        have hi:c <P.cellsOf el:=by rw [<-hlen'];exact (List.getElem?_eq_some_iff.1 hu).1
        rw [<-Deep.add_add, <-hz,hcell c hi]
        exact hu
       obtain ⟨y0,hy0⟩:∃y,l[0]?=some y:=by
        cases l with
        |nil=>exact (hn rfl).elim
        |cons y l=>exact ⟨y,rfl⟩
       obtain ⟨za,g1,g2,_⟩:=fN 0 y0 hy0
       have Aq:za[0]?=some za[0]:=List.getElem?_eq_getElem (by omega)
       have hc0:=g2 0 _ Aq
       simp only [Nat.zero_mul,Nat.add_zero,Addr.add] at hc0
       have zR:∀(i:Nat) (u:Value),w.cell? (a.add i)=some u->∃cells el fr,w.heap[a.block]?=some (.cells cells el fr)/\cells[a.off+i]?=some u:=λ i u hu=>by
        unfold World.cell? at hu
        have hbk:(a.add i).block=a.block:=by unfold Addr.add;split<;>rfl
        have CB:(a.add i).off=a.off+i:=by
         unfold Addr.add
         split
         ·rename_i h0;simp_all
         ·rfl
        rw [hbk,CB] at hu
        split at hu
        ·rename_i c e1 fr hh
         split at hu
         ·cases hu
         ·exact ⟨c,e1,fr,hh,hu⟩
        ·cases hu
       obtain ⟨cells,dm,fr,k1,k2⟩:=zR 0 za[0] (by simpa [Addr.add] using hc0)
       refine ⟨a.block,a.off,cells,dm,fr, ?_, ?_,k1,λ i y hy=> ?_⟩
       ·have hsp:a.spot=none:=by
         have hc1:w.cell? a=some za[0]:=by simpa using hc0
         unfold World.cell? at hc1
         rw [k1] at hc1
         simp only at hc1
         split at hc1
         ·cases hc1
         ·rename_i hs;simpa using hs
        cases a
        simp only at hsp
        subst hsp
        rfl
       ·rcases Nat.lt_or_ge a.block w.heap.size with g|g
        ·exact g
        ·rw [Array.getElem?_eq_none g] at k1;cases k1
       ·obtain ⟨us,m1,m2,m3⟩:=fN i y hy
        refine ⟨us,λ c u hu=> ?_,m3⟩
        obtain ⟨c2,e2,f2,q1,q2⟩:=zR _ _ (m2 c u hu)
        rw [k1] at q1
        cases q1
        rw [Nat.add_assoc];exact q2
      ·have h1:=hw ((elems.length+rest.length) * P.bytesOf el) (by simp [DataW.weights,ht])
       rw [show bX false l=l from rfl,Bg, <-hlen]
       have h2:elems.length * e.by<=(elems.length+rest.length) * P.bytesOf el:=Nat.mul_le_mul (by omega) hby
       have h3:reachBytes=140737488351232:=rfl
       omega
      ·intro y hy
       obtain ⟨i,hi,rfl⟩:=List.mem_iff_getElem.1 (show y∈l from hy)
       exact (hlp i _ (List.getElem?_eq_getElem hi)).1
   |_=>cases h
  ·rename_i fs ht
   simp only [Bool.and_eq_true,Nat.beq_eq] at h
   have hF:=mM (λ τ t h=>jW n τ t h) fs.toList τ 0 h.1
   refine ⟨λ {H} enc w base spare held fuel cs x ps=> ?_⟩
   intro hx hw
   obtain ⟨xs,m,_,hx,hl,hlen,hf⟩:=DataW.trod_struct ht hx
   obtain ⟨rfl,_⟩:=Prod.mk.inj hx
   obtain ⟨a,hK,hwf⟩:=hF.out enc w base spare held m cs xs (by omega) (by simpa using hlen) (λ i f hf'=>hf i f (by simpa using hf')) (λ i f x hf' hx' q hq=>hw q (by
    simp only [DataW.weights,ht]
    exact DataW.weights_mem_each (j:=i) (t:=f.type) (d:=x.1) (by rw [List.getElem?_map,hf'];rfl) (by rw [List.getElem?_map,hx'];rfl) q hq))
   exact ⟨a,by simpa using hK,hwf⟩
  ·rename_i m' el ht
   simp only [Bool.and_eq_true,Nat.beq_eq] at h
   have hF:=mM (λ τ t h=>jW n τ t h) _ τ 0 h.1
   refine ⟨λ {H} enc w base spare held fuel cs x=> ?_⟩
   intro ps hx hw
   obtain ⟨xs,m,_,hx,hl,hlen,hf⟩:=DataW.trod_array ht hx
   obtain ⟨rfl,_⟩:=Prod.mk.inj hx
   obtain ⟨a,hK,hwf⟩:=hF.out enc w base spare held m cs xs (by omega) (by simp [nh,hlen]) (λ i f hf'=>by
    obtain ⟨g1,g2,g3⟩:=qP hf'
    rw [g2,g3]
    exact hf i g1) (λ i f x hf' hx' q hq=>hw q (by
    obtain ⟨g1,g2,g3⟩:=qP hf'
    rw [g2] at hq
    simp only [DataW.weights,ht]
    exact gR (j:=i) (d:=x.1) (by rw [List.getElem?_map,hx'];rfl) q hq))
   exact ⟨a,by simpa using hK,hwf⟩
  ·cases h
end Go.Rx
