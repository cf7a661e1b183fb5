/- Reflection, part Bc: math/bits.Add64 and Sub64, for which the model stands in. -/
import Derived.Test.YtollcjadobpfdaaGreatRxW
import Derived.Laws.Externs
set_option linter.unusedVariables false
set_option linter.unusedSimpArgs false
set_option linter.unusedSectionVars false
namespace Go.Rx
def v8 (x y c:Int):Option (Int×Int×Unit):=if c<=1 then some ((((x.toNat+y.toNat+c.toNat) % 18446744073709551616:Nat):Int),(((x.toNat+y.toNat+c.toNat) / 18446744073709551616:Nat):Int),()) else none
def xJ (x y c:Int):Option (Int×Int×Unit):=if c<=1 then some ((((x.toNat+18446744073709551616 - y.toNat - c.toNat) % 18446744073709551616:Nat):Int),(if x.toNat <y.toNat+c.toNat then 1 else 0),()) else none
def AG:Array Value->Sem Value:=λ args=>do
 let (x, y, b) ← Extern.MathBitsCarry.three "Sub64" args
 pure (Extern.MathBitsCarry.pair ((x+Extern.MathBitsCarry.m64 - y - b) % Extern.MathBitsCarry.m64) (if x <y+b then 1 else 0))
abbrev u3:List PT:=[(false,.int .u64),(false,.int .u64),(false,.int .u64)]
abbrev u2:List RT:=[.d false (.int .u64),.d false (.int .u64)]
theorem tR {P:Program} {w:World} {n:String} {x y c:Int} (hc:c<=1):(Extern.MathBitsCarry.three n #[.int .u64 x,.int .u64 y,.int .u64 c]).run P w=.ok (x.toNat,y.toNat,c.toNat) w:=by
 match c,hc with
 | .ofNat 0,_=>rfl
 | .ofNat 1,_=>rfl
 | .negSucc _,_=>rfl
 | .ofNat (m+2),h=>exact absurd h (by show ¬((m+2:Nat):Int)<=1;omega)
section
variable {P : Program} {f : FuncId} {fn : Func} (hf : P.funcs[f]? = some fn) (hn : (fn.name == "runtime.NumGoroutine") = false) (hb : fn.body.isNone = true) (h1 : Extern.findNext fn = none)
include hf hn hb h1
theorem wP {e:Array Value->Sem Value} (h2:Extern.find fn=some e) {k:Int->Int->Int->Option (Int×Int×Unit)} (hk:∀x y c r w,k x y c=some r->(e #[.int .u64 x,.int .u64 y,.int .u64 c]).run P w=.ok (.tuple #[.int .u64 r.1,.int .u64 r.2.1]) w):oN P f u3 u2 (λ xs=>k xs.1 xs.2.1 xs.2.2.1):=by
 rintro ⟨x,y,c,_⟩ r hr w Pr vs hp ⟨v1,u1,rfl,g1,v2,u2,rfl,g2,v3,u3,rfl,g3,g4⟩
 have e1:v1=.int .u64 x:=by simpa [gn,ay] using g1
 have e2:v2=.int .u64 y:=by simpa [gn,ay] using g2
 have e3:v3=.int .u64 c:=by simpa [gn,ay] using g3
 have e4:u3=[]:=g4
 subst e1 e2 e3 e4
 refine ⟨_, ?_,Pr,[.int .u64 r.1,.int .u64 r.2.1],rfl,λ _ _=>rfl,Grow.refl _,λ _ h=>h,λ _ h _=>h,hp,_,_,rfl,rfl,_,_,rfl,rfl,rfl⟩
 rw [run_callFunc_extern hf hn hb h1 h2]
 have:=hk x y c r w hr
 show ((e #[.int .u64 x,.int .u64 y,.int .u64 c]).run P w).andThen _=_
 rw [this]
 rfl
theorem BD (h2:Extern.find fn=some add64Entry):oN P f u3 u2 (λ xs=>v8 xs.1 xs.2.1 xs.2.2.1):=wP hf hn hb h1 h2 λ x y c r w h=>by
 unfold v8 at h
 split at h
 ·rename_i hc
  cases h
  simp only [add64Entry,Sem.run_bind,tR hc,Result.andThen_ok,Sem.run_pure]
  rfl
 ·cases h
theorem B8 (h2:Extern.find fn=some AG):oN P f u3 u2 (λ xs=>xJ xs.1 xs.2.1 xs.2.2.1):=wP hf hn hb h1 h2 λ x y c r w h=>by
 unfold xJ at h
 split at h
 ·rename_i hc
  cases h
  simp only [AG,Sem.run_bind,tR hc,Result.andThen_ok,Sem.run_pure]
  simp only [Extern.MathBitsCarry.pair,Extern.MathBitsCarry.m64]
  split<;>rfl
 ·cases h
end
end Go.Rx
