/- Reflection, part Gr: slices.Grow of no row, off the kit's shelf. -/
import Derived.Test.YthfjdcdbimjkjaaRxW
import Derived.Shelf.Spec.SlicesGrow
set_option linter.unusedVariables false
set_option linter.unusedSimpArgs false
set_option linter.unusedSectionVars false
namespace Go.Rx
open Go.Shelf Go.Proofs
def yx {e:Ty} (BU:Nat) (x:gC true e.D) (n:Int):Option (List e.D×Unit):=match x with
 |none=>if 0<=n/\n * (BU:Int)<=140737488355328/\n<=4611686018427387904 then some ([],()) else none
 |some _=>none
theorem BQ {P:Program} {ρ:Ren} (L:Lays8.n4 P ρ) {T:bh} (hT:bA P T) {e:Ty} {i:TI} {b:Bool} {zs:List C} (hi:T.get (ρ.t 25)=some i) (hzs:i.zero=some (b,zs)) (hs:0 <i.size) (hn:zs.length=e.n):
 cz P (ρ.f 4) [(false,.sl true e),(false,.int .i64)] [.new e] (λ xs=>yx i.bytes xs.1 xs.2.1):=by
 rintro ⟨x,n,_⟩ r hr w Pr vs hp hvs
 simp only at hr
 cases x with
 |some _=>cases hr
 |none=>
  obtain ⟨i0,z,hi0,hz0,hsi,B5,hall,_⟩:=eu hT hi hzs w (λ _=>⟨0,none,0,0⟩) Pr
  have hs0:0 <i0.size:=by rw [hsi];exact hs
  have hz:z.cells.size=e.n:=by
   rw [<-Array.length_toList, <-hall.length];exact hn
  rw [<-B5] at hr
  simp only [yx] at hr
  split at hr
  case isFalse=>cases hr
  rename_i hn
  cases hr
  obtain ⟨hn0,hn1,hn2⟩:=hn
  obtain ⟨v,us,rfl,hv,v2,Bh,rfl,qY,rfl⟩:=hvs
  have qY:[v2]=[.int .i64 n]:=qY
  cases qY
  obtain ⟨A,cap,hv,_,hnil,_⟩:=hv
  obtain ⟨rfl,rfl⟩:=hnil
  have Cx:v=.slice none 0 0:=by
   simp only [List.cons.injEq,and_true] at hv
   exact hv
  subst Cx
  obtain ⟨m,rfl⟩:=Int.eq_ofNat_of_zero_le hn0
  have hn1:m * i0.bytes<=140737488355328:=by
   have h:((m * i0.bytes:Nat):Int)<=140737488355328:=by rw [Int.natCast_mul];exact hn1
   omega
  have hn2:m<=4611686018427387904:=by have h:(m:Int)<=4611686018427387904:=hn2;omega
  by_cases hm:m=0
  ·subst hm
   have h:=Any8.slices_Grow_room L none 0 0 0 w (Nat.le_refl _) (by omega) (by omega) (by omega)
   refine (show Calls P (ρ.f 4) #[.slice none 0 0,.int .i64 ((0:Nat):Int)] w _ from h).mono ?_
   rintro en w' ⟨rfl,rfl⟩
   exact ⟨Pr,[.slice none 0 0],rfl,λ _ _=>rfl,Grow.refl _,λ _ h=>h,λ _ h _=>h,hp,_,_,0,rfl,.inl ⟨rfl,rfl⟩,λ _ z=>z,rfl⟩
  ·have h:=Any8.slices_Grow_grow L i0 z hi0 hz0 hs0 none 0 0 m [] w (Nat.le_refl _) (by omega) (by rw [Nat.zero_add];exact hn1) (by omega) (by simp) (λ _=>rfl) (λ _ h=>by cases h)
   refine h.mono ?_
   rintro en w' ⟨rfl,rfl⟩
   have hG:m<=grownCap w (0+m) 0 (ρ.t 25):=by simpa using grownCap_ge w (0+m) 0 (ρ.t 25)
   generalize hcs:([]:List Value).toArray++Builtin.zeroCells z.cells (0+m - 0)++Builtin.zeroCells z.cells (grownCap w (0+m) 0 (ρ.t 25) - (0+m))=cs
   have hsz:cs.size=grownCap w (0+m) 0 (ρ.t 25) * e.n:=by
    rw [<-hcs]
    simp only [Array.size_append,List.size_toArray,List.length_nil,size_zeroCells,hz]
    rw [Nat.zero_add, <-Nat.add_mul]
    congr 1;omega
   have hold:∀b,b <w.heap.size->(w.drew.alloc (.cells cs (ρ.t 25))).heap[b]?=w.heap[b]?:=λ b hb=>by
    rw [bF w.drew _ b (by simpa using hb)];rfl
   refine ⟨Pr,[_],rfl,hold, ?_,λ _ h=>h,λ _ h _=>h,λ b hb=> ?_,_,_,w.heap.size,rfl,.inr ⟨0,_,cs,ρ.t 25,rfl,Nat.zero_le _,cA w.drew _,by rw [hsz];omega,Nat.le_refl _,λ hb=>by have:=hp _ hb;omega,λ i y hi=>by simp at hi⟩,λ _ z=>z,rfl⟩
   ·exact ⟨by simp [World.alloc],rfl,rfl,rfl,by simp [World.alloc]⟩
   ·have:=hp b hb
    simp [World.alloc];omega
end Go.Rx
