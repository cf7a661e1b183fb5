/- What the functions that the law TriCircles reaches come to, part 1. No condition. -/
import Derived.Test.YtollcjadobpfdaaGreatRxEv
import Derived.Test.YtollcjadobpfdaaGreatProg
import Derived.Test.YtollcjadobpfdaaGreatRxBc
import Derived.Test.YtollcjadobpfdaaGreatRxSf
import Derived.Test.YtollcjadobpfdaaGreatRxSl
set_option linter.unusedVariables false
set_option linter.unusedSimpArgs false
set_option linter.unusedSectionVars false
namespace Go.Proofs.YtollcjadobpfdaaGreat.Rw
open Go.Rx Go.Proofs
set_option maxRecDepth 100000
noncomputable section
def T:bh:=[(2,⟨.int .i64,1,8,some (false,[cI 0]),false⟩),
 (3,⟨.int .i64,1,8,some (false,[cI 0]),false⟩),
 (4,⟨.bool,1,1,some (false,[.lit false]),false⟩),
 (22,⟨.slice 55,1,24,some (false,[.nil]),false⟩),
 (23,⟨.slice 56,1,24,some (false,[.nil]),false⟩),
 (25,⟨.struct [(0,22),(1,23)],2,48,some (true,[.nil,.nil]),true⟩),
 (26,⟨.slice 3,1,24,some (false,[.nil]),false⟩),
 (28,⟨.int .i64,1,8,some (false,[cI 0]),false⟩),
 (35,⟨.slice 37,1,24,some (false,[.nil]),false⟩),
 (37,⟨.array 2 3,2,16,some (true,[cI 0,cI 0]),true⟩),
 (55,⟨.struct [(0,3),(1,3)],2,16,some (true,[cI 0,cI 0]),true⟩),
 (56,⟨.array 3 3,3,24,some (true,[cI 0,cI 0,cI 0]),true⟩),
 (92,⟨.map 37 4,1,8,some (false,[.any]),false⟩),
 (93,⟨.slice 4,1,24,some (false,[.nil]),false⟩),
 (109,⟨.map 37 3,1,8,some (false,[.any]),false⟩),
 (119,⟨.int .u64,1,8,some (false,[.int .u64 0]),false⟩),
 (121,⟨.struct [(0,2),(1,119)],2,16,some (true,[cI 0,.int .u64 0]),true⟩),
 (127,⟨.struct [(0,119),(1,119)],2,16,some (true,[.int .u64 0,.int .u64 0]),true⟩)]
theorem FL:bC Tryz.prog T:=⟨by kernel_rfl,by kernel_rfl,by kernel_rfl,by kernel_rfl,by kernel_rfl,by kernel_rfl,by kernel_rfl,by kernel_rfl,by kernel_rfl,by kernel_rfl,by kernel_rfl,by kernel_rfl,by kernel_rfl,by kernel_rfl,by kernel_rfl,by kernel_rfl,by kernel_rfl,by kernel_rfl,trivial⟩
theorem mixed:Tryz.prog.follows .mixedOrders=true:=by kernel_rfl
abbrev OE:Ty:=(.sl false (.int .i64))
abbrev E5:Ty:=(.pair (.int .i64) (.int .i64))
abbrev LF:Ty:=(.sl false E5)
abbrev Fp:Ty:=(.pair (.int .i64) E5)
abbrev LG:Ty:=(.sl false Fp)
abbrev PV:Ty:=(.pair LF LG)
abbrev Iu:Type:=(List (Int×Int))
abbrev FI:Type:=(Int×(Int×Int))
abbrev KB:Type:=(Iu×(List FI))
abbrev HT:Type:=(List ((Int×Int)×Int))
abbrev T8:Ty:=(.map E5 (.int .i64))
abbrev It:Type:=(List ((Int×Int)×Bool))
abbrev T9:Ty:=(.map E5 .bool)
abbrev SI:Ty:=(.sl false .bool)
abbrev KE:Ty:=(.pair (.int .i64) (.int .u64))
abbrev Ua:Ty:=(.sl true E5)
abbrev SH:Type:=(Option (List (Int×Int)))
abbrev M9:Ty:=(.pair (.int .u64) (.int .u64))
abbrev Ia:=List ((Int×Int)×Bool)
abbrev FW:=List ((Int×Int)×Int)
abbrev Ft:=List (Int×(Int×Int))
abbrev Fa:=List (Int×Int)
abbrev Fy:=List Int
namespace f108
noncomputable def aC:Code:=Tryz.f108.body.getD .skip
abbrev sig:List PT:=[(false,(.int .i64))]
abbrev rs:List RT:=[.d false .bool]
abbrev ts:List RV:=[.tmp 2]
abbrev S:=St->Option (eC rs)
def Y:dZ:=[]
noncomputable def E (k:Nat):Env:=[]
def A:oM:={}
def U:fF:=[]
noncomputable abbrev dr (k:Nat) (rc:List Nat) (G:Nat->S) (F:List PF):S:=λ σ=>ap T Y (E k) A k (zw T rs ts) (cD T Y (E k) A k (zw T rs ts) aC U rc G 9999 F) .nx σ
def ES (k:Nat) (a0:Int):Option (Bool×Unit):=some (decide (¬(a0=a0)),())
theorem EW (k:Nat) (G:Nat->S) (xs:DL sig):dr k [] G [.c 1 0] (uR 6 32 sig xs)=ES k xs.1:=by kernel_rfl
end f108
def f108 (k:Nat) (a0:Int):Option (Bool×Unit):=f108.ES k a0
namespace f108
theorem eq (k:Nat) (xs:DL sig):den T Y (E k) A k aC 0 (uR 6 32 sig xs) (zw T rs ts)=f108 k xs.1:=
 Eq.trans (Cg (R:=(λ _ _=>none)) (tb:=U)) ((EW k _ xs).trans (by kernel_rfl))
noncomputable def aN (k:Nat):jH:=⟨sig,rs,λ xs=>f108 k xs.1⟩
theorem ok (k:Nat):cT Tryz.prog 108 sig rs (λ xs=>f108 k xs.1):=
 (AL (k:=k) (A:=A) (T:=T) (Y:=Y) (E:=E k) (M:=32) (ts:=ts) FL trivial trivial mixed (f:=108) (fn:=Tryz.f108) (c:=aC) (by kernel_rfl) (by kernel_rfl) (by kernel_rfl) (by decide) (by kernel_rfl)).congr λ xs=>(eq k xs).symm
theorem E8:um Tryz.prog 108:=λ args w=>by kernel_rfl
end f108
namespace f63
noncomputable def aC:Code:=Tryz.f63.body.getD .skip
abbrev sig:List PT:=[(false,(.int .i64)),(false,(.int .i64))]
abbrev rs:List RT:=[.d false (.int .i64)]
abbrev ts:List RV:=[.tmp 4]
abbrev S:=St->Option (eC rs)
def Y:dZ:=[]
noncomputable def E (k:Nat):Env:=[(108,.c (f108.aN k))]
def A:oM:={}
def U:fF:=[]
noncomputable abbrev dr (k:Nat) (rc:List Nat) (G:Nat->S) (F:List PF):S:=λ σ=>ap T Y (E k) A k (zw T rs ts) (cD T Y (E k) A k (zw T rs ts) aC U rc G 9999 F) .nx σ
def ES (k:Nat) (a0 a1:Int):Option (Int×Unit):=((f108 k a0).bind λ r1=>((f108 k a1).bind λ r2=>(if r1.1=true then (if r2.1=true then some (0,()) else some ((-1),())) else (if r2.1=true then some (1,()) else (if a0 <a1 then some ((-1),()) else (if a1 <a0 then some (1,()) else some (0,())))))))
theorem EW (k:Nat) (G:Nat->S) (xs:DL sig):dr k [] G [.c 1 0] (uR 20 64 sig xs)=ES k xs.1 xs.2.1:=by kernel_rfl
end f63
def f63 (k:Nat) (a0 a1:Int):Option (Int×Unit):=f63.ES k a0 a1
namespace f63
theorem eq (k:Nat) (xs:DL sig):den T Y (E k) A k aC 0 (uR 20 64 sig xs) (zw T rs ts)=f63 k xs.1 xs.2.1:=
 Eq.trans (Cg (R:=(λ _ _=>none)) (tb:=U)) ((EW k _ xs).trans (by kernel_rfl))
noncomputable def aN (k:Nat):jH:=⟨sig,rs,λ xs=>f63 k xs.1 xs.2.1⟩
theorem ok (k:Nat):cT Tryz.prog 63 sig rs (λ xs=>f63 k xs.1 xs.2.1):=
 (AL (k:=k) (A:=A) (T:=T) (Y:=Y) (E:=E k) (M:=64) (ts:=ts) FL ⟨f108.ok k,trivial⟩ ⟨f108.E8,trivial⟩ mixed (f:=63) (fn:=Tryz.f63) (c:=aC) (by kernel_rfl) (by kernel_rfl) (by kernel_rfl) (by decide) (by kernel_rfl)).congr λ xs=>(eq k xs).symm
theorem E8:um Tryz.prog 63:=λ args w=>by kernel_rfl
end f63
namespace f14
noncomputable def aC:Code:=Tryz.f14.body.getD .skip
abbrev sig:List PT:=[(false,OE),(false,OE)]
abbrev rs:List RT:=[.d false (.int .i64)]
abbrev ts:List RV:=[.tmp 4]
abbrev S:=St->Option (eC rs)
def Y:dZ:=[]
noncomputable def E (k:Nat):Env:=[(63,.c (f63.aN k))]
def A:oM:={ loops:=[(0,{ slots:=[(0,.val false (.int .i64)),(1,.val false (.int .i64)),(9,.val false (.int .i64)),(10,.id),(11,.id)] })] }
def U:fF:=[(0,[.c 52 0,.r 0,.b 0,.c 7 0])]
noncomputable abbrev k6 (k:Nat) (R:Nat->S) (q:Nat):S:=cx T Y (E k) A k (zw T rs ts) aC U R q
noncomputable abbrev ur (k:Nat) (rc:List Nat) (R:Nat->S):Nat->S:=ext T Y (E k) A k (zw T rs ts) aC U rc R
noncomputable abbrev zv (k:Nat) (R:Nat->S) (i n:Nat):S:=lx T Y (E k) A k (zw T rs ts) aC U R i n
noncomputable abbrev dr (k:Nat) (rc:List Nat) (G:Nat->S) (F:List PF):S:=λ σ=>ap T Y (E k) A k (zw T rs ts) (cD T Y (E k) A k (zw T rs ts) aC U rc G 9999 F) .nx σ
def F4 (x0 x1:Fy) (HN FH:Int):St:=Dn 36 112 [(0,aV (.int .i64) x0),(1,aV (.int .i64) x1),(9,aV (.int .i64) x0),(10,aI HN),(11,aI FH)] []
abbrev E1:=Fy->Fy->Int->Int->Option (Int×Unit)
abbrev EV (R:S):E1:=(λ x0 x1 HN FH=>R (F4 x0 x1 HN FH))
def ES (k:Nat) (Fe:E1) (a0 a1:Fy):Option (Int×Unit):=(Fe a0 a1 (a0.length:Int) 0)
def E0 (k:Nat) (Fe:E1) (x0 x1:Fy) (HN FH:Int):Option (Int×Unit):=(if FH <HN then (if 0<=FH then (if FH <(x0.length:Int) then (if (x1.length:Int)<=FH then some (1,()) else (if 0<=FH then (if FH <(x1.length:Int) then ((f63 k (x0.getD (FH).toNat 0) (x1.getD (FH).toNat 0)).bind λ r1=>(if ¬(r1.1=0) then some (r1.1,()) else (Fe x0 x1 HN (AJ (FH+1))))) else none) else none)) else none) else none) else (if (x0.length:Int) <(x1.length:Int) then some ((-1),()) else some (0,())))
theorem F3 (k:Nat) (G:Nat->S):EV (dr k [0] G (U.at 0))=E0 k (EV (G 0)):=by kernel_rfl
def l0 (k:Nat):Nat->E1
 | 0=>λ _ _ _ _=>none
 |n+1=>E0 k (l0 k n)
noncomputable abbrev Fh (k:Nat) (R:Nat->S) (n:Nat):Nat->S:=up R 0 (zv k R 0 n)
theorem FA (k:Nat) (R:Nat->S):∀n,EV (zv k R 0 n)=l0 k n
 | 0=>by kernel_rfl
 |n+1=>
  Eq.trans (congrArg EV (CS [] (by kernel_rfl))) ((F3 k _).trans (Eq.trans (b:=E0 k (EV ((Fh k R n) 0))) (by kernel_rfl) (by rw [(show EV (Fh k R n 0)=_ from FA k R n)]<;>kernel_rfl)))
theorem EW (k:Nat) (G:Nat->S) (xs:DL sig):dr k [] G [.c 1 0] (uR 36 112 sig xs)=ES k (EV (G 0)) xs.1 xs.2.1:=by kernel_rfl
end f14
def f14 (k:Nat) (a0 a1:Fy):Option (Int×Unit):=f14.ES k (f14.l0 k k) a0 a1
namespace f14
theorem eq (k:Nat) (xs:DL sig):den T Y (E k) A k aC 0 (uR 36 112 sig xs) (zw T rs ts)=f14 k xs.1 xs.2.1:=
 Eq.trans (Cg (R:=(λ _ _=>none)) (tb:=U)) ((EW k _ xs).trans (Eq.trans (b:=ES k (EV (zv k (λ _ _=>none) 0 k)) xs.1 xs.2.1) (by kernel_rfl) (by rw [FA k (λ _ _=>none) k]<;>kernel_rfl)))
noncomputable def aN (k:Nat):jH:=⟨sig,rs,λ xs=>f14 k xs.1 xs.2.1⟩
theorem ok (k:Nat):cT Tryz.prog 14 sig rs (λ xs=>f14 k xs.1 xs.2.1):=
 (AL (k:=k) (A:=A) (T:=T) (Y:=Y) (E:=E k) (M:=112) (ts:=ts) FL ⟨f63.ok k,trivial⟩ ⟨f63.E8,trivial⟩ mixed (f:=14) (fn:=Tryz.f14) (c:=aC) (by kernel_rfl) (by kernel_rfl) (by kernel_rfl) (by decide) (by kernel_rfl)).congr λ xs=>(eq k xs).symm
theorem E8:um Tryz.prog 14:=λ args w=>by kernel_rfl
end f14
namespace f147
noncomputable def aC:Code:=Tryz.f147.body.getD .skip
abbrev sig:List PT:=[(false,(.int .i64)),(false,(.int .i64))]
abbrev rs:List RT:=[.d false (.int .i64)]
abbrev ts:List RV:=[.tmp 4]
abbrev S:=St->Option (eC rs)
def Y:dZ:=[]
noncomputable def E (k:Nat):Env:=[]
def A:oM:={}
def U:fF:=[]
noncomputable abbrev dr (k:Nat) (rc:List Nat) (G:Nat->S) (F:List PF):S:=λ σ=>ap T Y (E k) A k (zw T rs ts) (cD T Y (E k) A k (zw T rs ts) aC U rc G 9999 F) .nx σ
def ES (k:Nat) (a0 a1:Int):Option (Int×Unit):=some ((uJ true (AJ (0 - a1)) (uJ false a0 a1)),())
theorem EW (k:Nat) (G:Nat->S) (xs:DL sig):dr k [] G [.c 1 0] (uR 11 48 sig xs)=ES k xs.1 xs.2.1:=by kernel_rfl
end f147
def f147 (k:Nat) (a0 a1:Int):Option (Int×Unit):=f147.ES k a0 a1
namespace f147
theorem eq (k:Nat) (xs:DL sig):den T Y (E k) A k aC 0 (uR 11 48 sig xs) (zw T rs ts)=f147 k xs.1 xs.2.1:=
 Eq.trans (Cg (R:=(λ _ _=>none)) (tb:=U)) ((EW k _ xs).trans (by kernel_rfl))
noncomputable def aN (k:Nat):jH:=⟨sig,rs,λ xs=>f147 k xs.1 xs.2.1⟩
theorem ok (k:Nat):cT Tryz.prog 147 sig rs (λ xs=>f147 k xs.1 xs.2.1):=
 (AL (k:=k) (A:=A) (T:=T) (Y:=Y) (E:=E k) (M:=48) (ts:=ts) FL trivial trivial mixed (f:=147) (fn:=Tryz.f147) (c:=aC) (by kernel_rfl) (by kernel_rfl) (by kernel_rfl) (by decide) (by kernel_rfl)).congr λ xs=>(eq k xs).symm
theorem E8:um Tryz.prog 147:=λ args w=>by kernel_rfl
end f147
namespace f100
noncomputable def aC:Code:=Tryz.f100.body.getD .skip
abbrev sig:List PT:=[(true,E5)]
abbrev rs:List RT:=[.d true E5]
abbrev ts:List RV:=[.cell 2 55]
abbrev S:=St->Option (eC rs)
def Y:dZ:=[]
noncomputable def E (k:Nat):Env:=[(147,.c (f147.aN k))]
def A:oM:={}
def U:fF:=[]
noncomputable abbrev dr (k:Nat) (rc:List Nat) (G:Nat->S) (F:List PF):S:=λ σ=>ap T Y (E k) A k (zw T rs ts) (cD T Y (E k) A k (zw T rs ts) aC U rc G 9999 F) .nx σ
def ES (k:Nat) (a0:(Int×Int)):Option ((Int×Int)×Unit):=((f147 k a0.1 1048576).bind λ r1=>((f147 k a0.2 1048576).bind λ r2=>some ((r1.1,r2.1),())))
theorem EW (k:Nat) (G:Nat->S) (xs:DL sig):dr k [] G [.c 1 0] (uR 10 32 sig xs)=ES k xs.1:=by kernel_rfl
end f100
def f100 (k:Nat) (a0:(Int×Int)):Option ((Int×Int)×Unit):=f100.ES k a0
namespace f100
theorem eq (k:Nat) (xs:DL sig):den T Y (E k) A k aC 0 (uR 10 32 sig xs) (zw T rs ts)=f100 k xs.1:=
 Eq.trans (Cg (R:=(λ _ _=>none)) (tb:=U)) ((EW k _ xs).trans (by kernel_rfl))
noncomputable def aN (k:Nat):jH:=⟨sig,rs,λ xs=>f100 k xs.1⟩
theorem ok (k:Nat):cT Tryz.prog 100 sig rs (λ xs=>f100 k xs.1):=
 (AL (k:=k) (A:=A) (T:=T) (Y:=Y) (E:=E k) (M:=32) (ts:=ts) FL ⟨f147.ok k,trivial⟩ ⟨f147.E8,trivial⟩ mixed (f:=100) (fn:=Tryz.f100) (c:=aC) (by kernel_rfl) (by kernel_rfl) (by kernel_rfl) (by decide) (by kernel_rfl)).congr λ xs=>(eq k xs).symm
theorem E8:um Tryz.prog 100:=λ args w=>by kernel_rfl
end f100
namespace f156
noncomputable def aC:Code:=Tryz.f156.body.getD .skip
abbrev sig:List PT:=[(true,E5),(true,E5)]
abbrev rs:List RT:=[.d true E5]
abbrev ts:List RV:=[.cell 4 55]
abbrev S:=St->Option (eC rs)
def Y:dZ:=[]
noncomputable def E (k:Nat):Env:=[(100,.c (f100.aN k))]
def A:oM:={}
def U:fF:=[]
noncomputable abbrev dr (k:Nat) (rc:List Nat) (G:Nat->S) (F:List PF):S:=λ σ=>ap T Y (E k) A k (zw T rs ts) (cD T Y (E k) A k (zw T rs ts) aC U rc G 9999 F) .nx σ
def ES (k:Nat) (a0 a1:(Int×Int)):Option ((Int×Int)×Unit):=((f100 k (a0.1,a0.2)).bind λ r1=>((f100 k (a1.1,a1.2)).bind λ r2=>some ((AJ (r2.1.1 - r1.1.1),AJ (r2.1.2 - r1.1.2)),())))
theorem EW (k:Nat) (G:Nat->S) (xs:DL sig):dr k [] G [.c 1 0] (uR 20 64 sig xs)=ES k xs.1 xs.2.1:=by kernel_rfl
end f156
def f156 (k:Nat) (a0 a1:(Int×Int)):Option ((Int×Int)×Unit):=f156.ES k a0 a1
namespace f156
theorem eq (k:Nat) (xs:DL sig):den T Y (E k) A k aC 0 (uR 20 64 sig xs) (zw T rs ts)=f156 k xs.1 xs.2.1:=
 Eq.trans (Cg (R:=(λ _ _=>none)) (tb:=U)) ((EW k _ xs).trans (by kernel_rfl))
noncomputable def aN (k:Nat):jH:=⟨sig,rs,λ xs=>f156 k xs.1 xs.2.1⟩
theorem ok (k:Nat):cT Tryz.prog 156 sig rs (λ xs=>f156 k xs.1 xs.2.1):=
 (AL (k:=k) (A:=A) (T:=T) (Y:=Y) (E:=E k) (M:=64) (ts:=ts) FL ⟨f100.ok k,trivial⟩ ⟨f100.E8,trivial⟩ mixed (f:=156) (fn:=Tryz.f156) (c:=aC) (by kernel_rfl) (by kernel_rfl) (by kernel_rfl) (by decide) (by kernel_rfl)).congr λ xs=>(eq k xs).symm
theorem E8:um Tryz.prog 156:=λ args w=>by kernel_rfl
end f156
namespace f106
noncomputable def aC:Code:=Tryz.f106.body.getD .skip
abbrev sig:List PT:=[(true,E5),(true,E5),(true,E5)]
abbrev rs:List RT:=[.d false (.int .i64)]
abbrev ts:List RV:=[.tmp 6]
abbrev S:=St->Option (eC rs)
def Y:dZ:=[]
noncomputable def E (k:Nat):Env:=[(156,.c (f156.aN k))]
def A:oM:={}
def U:fF:=[]
noncomputable abbrev dr (k:Nat) (rc:List Nat) (G:Nat->S) (F:List PF):S:=λ σ=>ap T Y (E k) A k (zw T rs ts) (cD T Y (E k) A k (zw T rs ts) aC U rc G 9999 F) .nx σ
def ES (k:Nat) (a0 a1 a2:(Int×Int)):Option (Int×Unit):=((f156 k (a0.1,a0.2) (a1.1,a1.2)).bind λ r1=>((f156 k (a0.1,a0.2) (a2.1,a2.2)).bind λ r2=>some (AJ ((AJ (r1.1.1 * r2.1.2)) - (AJ (r1.1.2 * r2.1.1))),())))
theorem EW (k:Nat) (G:Nat->S) (xs:DL sig):dr k [] G [.c 1 0] (uR 26 80 sig xs)=ES k xs.1 xs.2.1 xs.2.2.1:=by kernel_rfl
end f106
def f106 (k:Nat) (a0 a1 a2:(Int×Int)):Option (Int×Unit):=f106.ES k a0 a1 a2
namespace f106
theorem eq (k:Nat) (xs:DL sig):den T Y (E k) A k aC 0 (uR 26 80 sig xs) (zw T rs ts)=f106 k xs.1 xs.2.1 xs.2.2.1:=
 Eq.trans (Cg (R:=(λ _ _=>none)) (tb:=U)) ((EW k _ xs).trans (by kernel_rfl))
noncomputable def aN (k:Nat):jH:=⟨sig,rs,λ xs=>f106 k xs.1 xs.2.1 xs.2.2.1⟩
theorem ok (k:Nat):cT Tryz.prog 106 sig rs (λ xs=>f106 k xs.1 xs.2.1 xs.2.2.1):=
 (AL (k:=k) (A:=A) (T:=T) (Y:=Y) (E:=E k) (M:=80) (ts:=ts) FL ⟨f156.ok k,trivial⟩ ⟨f156.E8,trivial⟩ mixed (f:=106) (fn:=Tryz.f106) (c:=aC) (by kernel_rfl) (by kernel_rfl) (by kernel_rfl) (by decide) (by kernel_rfl)).congr λ xs=>(eq k xs).symm
theorem E8:um Tryz.prog 106:=λ args w=>by kernel_rfl
end f106
namespace f99
noncomputable def aC:Code:=Tryz.f99.body.getD .skip
abbrev sig:List PT:=[(true,E5),(true,E5),(true,E5)]
abbrev rs:List RT:=[.d false (.int .i64)]
abbrev ts:List RV:=[.tmp 6]
abbrev S:=St->Option (eC rs)
def Y:dZ:=[]
noncomputable def E (k:Nat):Env:=[(63,.c (f63.aN k)),(106,.c (f106.aN k))]
def A:oM:={}
def U:fF:=[]
noncomputable abbrev dr (k:Nat) (rc:List Nat) (G:Nat->S) (F:List PF):S:=λ σ=>ap T Y (E k) A k (zw T rs ts) (cD T Y (E k) A k (zw T rs ts) aC U rc G 9999 F) .nx σ
def ES (k:Nat) (a0 a1 a2:(Int×Int)):Option (Int×Unit):=((f106 k (a0.1,a0.2) (a1.1,a1.2) (a2.1,a2.2)).bind λ r1=>((f63 k r1.1 0).bind λ r2=>some (r2.1,())))
theorem EW (k:Nat) (G:Nat->S) (xs:DL sig):dr k [] G [.c 1 0] (uR 12 48 sig xs)=ES k xs.1 xs.2.1 xs.2.2.1:=by kernel_rfl
end f99
def f99 (k:Nat) (a0 a1 a2:(Int×Int)):Option (Int×Unit):=f99.ES k a0 a1 a2
namespace f99
theorem eq (k:Nat) (xs:DL sig):den T Y (E k) A k aC 0 (uR 12 48 sig xs) (zw T rs ts)=f99 k xs.1 xs.2.1 xs.2.2.1:=
 Eq.trans (Cg (R:=(λ _ _=>none)) (tb:=U)) ((EW k _ xs).trans (by kernel_rfl))
noncomputable def aN (k:Nat):jH:=⟨sig,rs,λ xs=>f99 k xs.1 xs.2.1 xs.2.2.1⟩
theorem ok (k:Nat):cT Tryz.prog 99 sig rs (λ xs=>f99 k xs.1 xs.2.1 xs.2.2.1):=
 (AL (k:=k) (A:=A) (T:=T) (Y:=Y) (E:=E k) (M:=48) (ts:=ts) FL ⟨f63.ok k,f106.ok k,trivial⟩ ⟨f63.E8,f106.E8,trivial⟩ mixed (f:=99) (fn:=Tryz.f99) (c:=aC) (by kernel_rfl) (by kernel_rfl) (by kernel_rfl) (by decide) (by kernel_rfl)).congr λ xs=>(eq k xs).symm
theorem E8:um Tryz.prog 99:=λ args w=>by kernel_rfl
end f99
namespace f101
noncomputable def aC:Code:=Tryz.f101.body.getD .skip
abbrev sig:List PT:=[(true,E5)]
abbrev rs:List RT:=[.d false .bool]
abbrev ts:List RV:=[.tmp 2]
abbrev S:=St->Option (eC rs)
def Y:dZ:=[]
noncomputable def E (k:Nat):Env:=[(100,.c (f100.aN k))]
def A:oM:={}
def U:fF:=[]
noncomputable abbrev dr (k:Nat) (rc:List Nat) (G:Nat->S) (F:List PF):S:=λ σ=>ap T Y (E k) A k (zw T rs ts) (cD T Y (E k) A k (zw T rs ts) aC U rc G 9999 F) .nx σ
def ES (k:Nat) (a0:(Int×Int)):Option (Bool×Unit):=((f100 k (a0.1,a0.2)).bind λ r1=>some (decide ((a0.1=r1.1.1)/\(a0.2=r1.1.2)),()))
theorem EW (k:Nat) (G:Nat->S) (xs:DL sig):dr k [] G [.c 1 0] (uR 7 32 sig xs)=ES k xs.1:=by kernel_rfl
end f101
def f101 (k:Nat) (a0:(Int×Int)):Option (Bool×Unit):=f101.ES k a0
namespace f101
theorem eq (k:Nat) (xs:DL sig):den T Y (E k) A k aC 0 (uR 7 32 sig xs) (zw T rs ts)=f101 k xs.1:=
 Eq.trans (Cg (R:=(λ _ _=>none)) (tb:=U)) ((EW k _ xs).trans (by kernel_rfl))
noncomputable def aN (k:Nat):jH:=⟨sig,rs,λ xs=>f101 k xs.1⟩
theorem ok (k:Nat):cT Tryz.prog 101 sig rs (λ xs=>f101 k xs.1):=
 (AL (k:=k) (A:=A) (T:=T) (Y:=Y) (E:=E k) (M:=32) (ts:=ts) FL ⟨f100.ok k,trivial⟩ ⟨f100.E8,trivial⟩ mixed (f:=101) (fn:=Tryz.f101) (c:=aC) (by kernel_rfl) (by kernel_rfl) (by kernel_rfl) (by decide) (by kernel_rfl)).congr λ xs=>(eq k xs).symm
theorem E8:um Tryz.prog 101:=λ args w=>by kernel_rfl
end f101
namespace f117
noncomputable def aC:Code:=Tryz.f117.body.getD .skip
abbrev sig:List PT:=[(true,E5),(true,E5)]
abbrev rs:List RT:=[.d false (.int .i64)]
abbrev ts:List RV:=[.tmp 4]
abbrev S:=St->Option (eC rs)
def Y:dZ:=[]
noncomputable def E (k:Nat):Env:=[(63,.c (f63.aN k))]
def A:oM:={}
def U:fF:=[]
noncomputable abbrev dr (k:Nat) (rc:List Nat) (G:Nat->S) (F:List PF):S:=λ σ=>ap T Y (E k) A k (zw T rs ts) (cD T Y (E k) A k (zw T rs ts) aC U rc G 9999 F) .nx σ
def ES (k:Nat) (a0 a1:(Int×Int)):Option (Int×Unit):=((f63 k a0.1 a1.1).bind λ r1=>(if ¬(r1.1=0) then some (r1.1,()) else ((f63 k a0.2 a1.2).bind λ r2=>some (r2.1,()))))
theorem EW (k:Nat) (G:Nat->S) (xs:DL sig):dr k [] G [.c 1 0] (uR 19 64 sig xs)=ES k xs.1 xs.2.1:=by kernel_rfl
end f117
def f117 (k:Nat) (a0 a1:(Int×Int)):Option (Int×Unit):=f117.ES k a0 a1
namespace f117
theorem eq (k:Nat) (xs:DL sig):den T Y (E k) A k aC 0 (uR 19 64 sig xs) (zw T rs ts)=f117 k xs.1 xs.2.1:=
 Eq.trans (Cg (R:=(λ _ _=>none)) (tb:=U)) ((EW k _ xs).trans (by kernel_rfl))
noncomputable def aN (k:Nat):jH:=⟨sig,rs,λ xs=>f117 k xs.1 xs.2.1⟩
theorem ok (k:Nat):cT Tryz.prog 117 sig rs (λ xs=>f117 k xs.1 xs.2.1):=
 (AL (k:=k) (A:=A) (T:=T) (Y:=Y) (E:=E k) (M:=64) (ts:=ts) FL ⟨f63.ok k,trivial⟩ ⟨f63.E8,trivial⟩ mixed (f:=117) (fn:=Tryz.f117) (c:=aC) (by kernel_rfl) (by kernel_rfl) (by kernel_rfl) (by decide) (by kernel_rfl)).congr λ xs=>(eq k xs).symm
theorem E8:um Tryz.prog 117:=λ args w=>by kernel_rfl
end f117
namespace f68
noncomputable def aC:Code:=Tryz.f68.body.getD .skip
abbrev sig:List PT:=[(true,PV)]
abbrev rs:List RT:=[.d false (.int .i64)]
abbrev ts:List RV:=[.tmp 2]
abbrev S:=St->Option (eC rs)
def Y:dZ:=[(56,Fp)]
noncomputable def E (k:Nat):Env:=[(14,.c (f14.aN k)),(99,.c (f99.aN k)),(101,.c (f101.aN k)),(117,.c (f117.aN k))]
def A:oM:={ qF:=[(1,{ slots:=[(1,.id),(19,.bool)],keys:=[(1,[.val false E5,.val false Fp])] }),(20,{ slots:=[(1,.id),(6,.id),(7,.id),(52,.val false Fp),(53,.id),(54,.id),(59,.id),(60,.id),(71,.bool)],keys:=[(1,[.val false E5,.val false Fp]),(7,[])] }),(23,{ A8:=[(7,Fp)],slots:=[(1,.id),(7,.id),(52,.val false Fp),(53,.id),(54,.id),(99,.bool)],keys:=[(1,[.val false E5,.val false Fp]),(7,[])] })],loops:=[(0,{ slots:=[(1,.id),(21,.val false E5),(22,.id),(23,.id)],keys:=[(1,[.val false E5,.val false Fp])] }),(2,{ slots:=[(1,.id),(5,.id)],keys:=[(1,[.val false E5,.val false Fp])] }),(4,{ slots:=[(1,.id),(52,.val false Fp),(53,.id),(54,.id)],keys:=[(1,[.val false E5,.val false Fp])] }),(6,{ slots:=[(1,.id),(6,.id),(7,.id),(52,.val false Fp),(53,.id),(54,.id),(59,.id),(60,.id)],keys:=[(1,[.val false E5,.val false Fp]),(7,[])] })] }
def U:fF:=[(7,[.c 13 0,.c 7 0]),(0,[.c 116 0,.r 0,.b 0,.c 15 0]),(8,[.c 244 2,.r 2,.b 2,.c 31 0]),(16,[.c 500 4,.r 4,.b 4,.c 63 0]),(24,[.c 256404 6,.r 6,.b 6,.c 32051 5,.b 5,.c 4007 4,.r 4,.b 4,.c 63 0]),(83,[.c 16409907 7,.b 7,.c 2051239 6,.r 6,.b 6,.c 32051 5,.b 5,.c 4007 4,.r 4,.b 4,.c 63 0]),(95,[.c 128205 5,.c 64103 5,.b 5,.c 4007 4,.r 4,.b 4,.c 63 0])]
noncomputable abbrev k6 (k:Nat) (R:Nat->S) (q:Nat):S:=cx T Y (E k) A k (zw T rs ts) aC U R q
noncomputable abbrev ur (k:Nat) (rc:List Nat) (R:Nat->S):Nat->S:=ext T Y (E k) A k (zw T rs ts) aC U rc R
noncomputable abbrev zv (k:Nat) (R:Nat->S) (i n:Nat):S:=lx T Y (E k) A k (zw T rs ts) aC U R i n
noncomputable abbrev dr (k:Nat) (rc:List Nat) (G:Nat->S) (F:List PF):S:=λ σ=>ap T Y (E k) A k (zw T rs ts) (cD T Y (E k) A k (zw T rs ts) aC U rc G 9999 F) .nx σ
def N6 (Fj:Fa) (Fw:Ft) (IA:Bool):St:=Dn 121 368 [(1,aP 1),(19,aB IA)] [(1,.box [cV E5 Fj,cV Fp Fw])]
abbrev JG:=Fa->Ft->Bool->Option (Int×Unit)
abbrev HY (R:S):JG:=(λ Fj Fw IA=>R (N6 Fj Fw IA))
def F4 (Fj:Fa) (Fw:Ft) (J6 E7:Int):St:=Dn 121 368 [(1,aP 1),(21,aV E5 Fj),(22,aI J6),(23,aI E7)] [(1,.box [cV E5 Fj,cV Fp Fw])]
abbrev E1:=Fa->Ft->Int->Int->Option (Int×Unit)
abbrev EV (R:S):E1:=(λ Fj Fw J6 E7=>R (F4 Fj Fw J6 E7))
def HK (Fj:Fa) (Fw:Ft) (gi:Int):St:=Dn 121 368 [(1,aP 1),(5,aI gi)] [(1,.box [cV E5 Fj,cV Fp Fw])]
abbrev FM:=Fa->Ft->Int->Option (Int×Unit)
abbrev Fb (R:S):FM:=(λ Fj Fw gi=>R (HK Fj Fw gi))
def Lp (Fj:Fa) (Fw:Ft) (GI F1:Int):St:=Dn 121 368 [(1,aP 1),(52,aV Fp Fw),(53,aI GI),(54,aI F1)] [(1,.box [cV E5 Fj,cV Fp Fw])]
abbrev G6:=Fa->Ft->Int->Int->Option (Int×Unit)
abbrev Gg (R:S):G6:=(λ Fj Fw GI F1=>R (Lp Fj Fw GI F1))
def N5 (Fj:Fa) (Fw:Ft) (Fk Fl Hs GI F1 IX:Int):St:=Dn 121 368 [(1,aP 1),(6,aI F1),(7,aP 7),(52,aV Fp Fw),(53,aI GI),(54,aI F1),(59,.cp (.agg [cI Fk,cI Fl,cI Hs])),(60,aI IX)] [(1,.box [cV E5 Fj,cV Fp Fw]),(7,.box [cI Fk,cI Fl,cI Hs])]
abbrev Ie:=Fa->Ft->Int->Int->Int->Int->Int->Int->Option (Int×Unit)
abbrev G1 (R:S):Ie:=(λ Fj Fw Fk Fl Hs GI F1 IX=>R (N5 Fj Fw Fk Fl Hs GI F1 IX))
def TL (Fj:Fa) (Fw:Ft) (Fk Fl Hs GI F1 IX:Int) (QG:Bool):St:=Dn 121 368 [(1,aP 1),(6,aI F1),(7,aP 7),(52,aV Fp Fw),(53,aI GI),(54,aI F1),(59,.cp (.agg [cI Fk,cI Fl,cI Hs])),(60,aI IX),(71,aB QG)] [(1,.box [cV E5 Fj,cV Fp Fw]),(7,.box [cI Fk,cI Fl,cI Hs])]
abbrev PN:=Fa->Ft->Int->Int->Int->Int->Int->Int->Bool->Option (Int×Unit)
abbrev L0 (R:S):PN:=(λ Fj Fw Fk Fl Hs GI F1 IX QG=>R (TL Fj Fw Fk Fl Hs GI F1 IX QG))
def TM (Fj:Fa) (Fw:Ft) (uo:(Int×(Int×Int))) (GI F1:Int) (x99:Bool):St:=Dn 121 368 [(1,aP 1),(7,aP 7),(52,aV Fp Fw),(53,aI GI),(54,aI F1),(99,aB x99)] [(1,.box [cV E5 Fj,cV Fp Fw]),(7,.cG Fp uo)]
abbrev PO:=Fa->Ft->(Int×(Int×Int))->Int->Int->Bool->Option (Int×Unit)
abbrev L5 (R:S):PO:=(λ Fj Fw uo GI F1 x99=>R (TM Fj Fw uo GI F1 x99))
def ES (k:Nat) (Js:JG) (a0:KB):Option (Int×Unit):=(if 200 <(a0.1.length:Int) then (Js a0.1 a0.2 true) else (Js a0.1 a0.2 (decide (400 <(a0.2.length:Int)))))
def I4 (k:Nat) (Fe:E1) (Fj:Fa) (Fw:Ft) (IA:Bool):Option (Int×Unit):=(if IA=true then some (2,()) else (Fe Fj Fw (Fj.length:Int) 0))
def E0 (k:Nat) (Fe:E1) (Gd:FM) (Fj:Fa) (Fw:Ft) (J6 E7:Int):Option (Int×Unit):=(if E7 <J6 then (if 0<=E7 then (if E7 <(Fj.length:Int) then ((f101 k ((Fj.getD (E7).toNat (0,0)).1,(Fj.getD (E7).toNat (0,0)).2)).bind λ r1=>(if ¬(r1.1=true) then some (1,()) else (Fe Fj Fw J6 (AJ (E7+1))))) else none) else none) else (Gd Fj Fw 1))
def FG (k:Nat) (Gd:FM) (Il:G6) (Fj:Fa) (Fw:Ft) (gi:Int):Option (Int×Unit):=(if gi <(Fj.length:Int) then (if 0<=(AJ (gi - 1)) then (if (AJ (gi - 1)) <(Fj.length:Int) then (if 0<=gi then (if gi <(Fj.length:Int) then ((f117 k ((Fj.getD (AJ (gi - 1)).toNat (0,0)).1,(Fj.getD (AJ (gi - 1)).toNat (0,0)).2) ((Fj.getD (gi).toNat (0,0)).1,(Fj.getD (gi).toNat (0,0)).2)).bind λ r1=>(if 0<=r1.1 then some (9,()) else (Gd Fj Fw (AJ (gi+1))))) else none) else none) else none) else none) else (Il Fj Fw (Fw.length:Int) 0))
def Hj (k:Nat) (Jr:Ie) (Fj:Fa) (Fw:Ft) (GI F1:Int):Option (Int×Unit):=(if F1 <GI then (if 0<=F1 then (if F1 <(Fw.length:Int) then (Jr Fj Fw ((Fw.getD (F1).toNat (0,(0,0))).1) (((Fw.getD (F1).toNat (0,(0,0))).2).1) (((Fw.getD (F1).toNat (0,(0,0))).2).2) GI F1 0) else none) else none) else some (0,()))
def HX (k:Nat) (Sc:PN) (M4:PO) (Fj:Fa) (Fw:Ft) (Fk Fl Hs GI F1 IX:Int):Option (Int×Unit):=(if IX <3 then (if 0<=IX then (if IX <(3:Int) then (if (([Fk,Fl,Hs]:List Int).getD ((IX).toNat) 0) <0 then (Sc Fj Fw Fk Fl Hs GI F1 IX true) else (Sc Fj Fw Fk Fl Hs GI F1 IX (decide ((Fj.length:Int)<=(([Fk,Fl,Hs]:List Int).getD ((IX).toNat) 0))))) else none) else none) else (if Fl <Fk then (M4 Fj Fw (Fk,(Fl,Hs)) GI F1 true) else (if Hs <Fk then (M4 Fj Fw (Fk,(Fl,Hs)) GI F1 true) else (if 0 <F1 then (if 0<=(AJ (F1 - 1)) then (if (AJ (F1 - 1)) <(Fw.length:Int) then ((f14 k ([(Fw.getD (AJ (F1 - 1)).toNat (0,(0,0))).1,((Fw.getD (AJ (F1 - 1)).toNat (0,(0,0))).2).1,((Fw.getD (AJ (F1 - 1)).toNat (0,(0,0))).2).2]) ([Fk,Fl,Hs])).bind λ r1=>(M4 Fj Fw (Fk,(Fl,Hs)) GI F1 (decide (0<=r1.1)))) else none) else none) else (M4 Fj Fw (Fk,(Fl,Hs)) GI F1 false)))))
def Pv (k:Nat) (Jr:Ie) (Fj:Fa) (Fw:Ft) (Fk Fl Hs GI F1 IX:Int) (QG:Bool):Option (Int×Unit):=(if QG=true then some (1,()) else (Jr Fj Fw Fk Fl Hs GI F1 (AJ (IX+1))))
def Pw (k:Nat) (Il:G6) (Fj:Fa) (Fw:Ft) (uo:(Int×(Int×Int))) (GI F1:Int) (x99:Bool):Option (Int×Unit):=(if x99=true then some (9,()) else (if 0<=uo.1 then (if uo.1 <(Fj.length:Int) then (if 0<=uo.2.1 then (if uo.2.1 <(Fj.length:Int) then (if 0<=uo.2.2 then (if uo.2.2 <(Fj.length:Int) then ((f99 k ((Fj.getD (uo.1).toNat (0,0)).1,(Fj.getD (uo.1).toNat (0,0)).2) ((Fj.getD (uo.2.1).toNat (0,0)).1,(Fj.getD (uo.2.1).toNat (0,0)).2) ((Fj.getD (uo.2.2).toNat (0,0)).1,(Fj.getD (uo.2.2).toNat (0,0)).2)).bind λ r1=>(if r1.1<=0 then some (3,()) else (Il Fj Fw GI (AJ (F1+1))))) else none) else none) else none) else none) else none) else none))
theorem TE (k:Nat) (G:Nat->S):L0 (dr k [24,16] G (U.at 83))=Pv k (G1 (G 24)):=by kernel_rfl
def Tc (k:Nat) (RD:Ie) (KX:G6):PN:=Pv k RD
theorem TD (k:Nat) (R:Nat->S):L0 (k6 k R 83)=Tc k (G1 (R 24)) (Gg (R 16)):=
 Eq.trans (congrArg L0 (Cd [24,16] (by kernel_rfl))) ((TE k _).trans (by kernel_rfl))
theorem TG (k:Nat) (G:Nat->S):L5 (dr k [16] G (U.at 95))=Pw k (Gg (G 16)):=by kernel_rfl
def L9 (k:Nat) (KX:G6):PO:=Pw k KX
theorem TF (k:Nat) (R:Nat->S):L5 (k6 k R 95)=L9 k (Gg (R 16)):=
 Eq.trans (congrArg L5 (Cd [16] (by kernel_rfl))) ((TG k _).trans (by kernel_rfl))
theorem Nx (k:Nat) (G:Nat->S):G1 (dr k [24,16] G (U.at 24))=HX k (L0 (G 83)) (L5 (G 95)):=by kernel_rfl
def wv (k:Nat) (KX:G6):Nat->Ie
 | 0=>λ _ _ _ _ _ _ _ _=>none
 |n+1=>HX k (Tc k (wv k KX n) KX) (L9 k KX)
noncomputable abbrev IM (k:Nat) (R:Nat->S) (n:Nat):Nat->S:=up R 24 (zv k R 6 n)
theorem KO (k:Nat) (R:Nat->S):∀n,G1 (zv k R 6 n)=wv k (Gg (R 16)) n
 | 0=>by kernel_rfl
 |n+1=>
  Eq.trans (congrArg G1 (CS [16] (by kernel_rfl))) ((Nx k _).trans (Eq.trans (b:=HX k (L0 (k6 k (IM k R n) 83)) (L5 (k6 k (IM k R n) 95))) (by kernel_rfl) (by rw [TD k (IM k R n),TF k (IM k R n),(show G1 (IM k R n 24)=_ from KO k R n)]<;>kernel_rfl)))
theorem Ll (k:Nat) (G:Nat->S):Gg (dr k [16] G (U.at 16))=Hj k (G1 (G 24)):=by kernel_rfl
def l4 (k:Nat):Nat->G6
 | 0=>λ _ _ _ _=>none
 |n+1=>Hj k (wv k (l4 k n) k)
noncomputable abbrev Ip (k:Nat) (R:Nat->S) (n:Nat):Nat->S:=up R 16 (zv k R 4 n)
theorem Jv (k:Nat) (R:Nat->S):∀n,Gg (zv k R 4 n)=l4 k n
 | 0=>by kernel_rfl
 |n+1=>
  Eq.trans (congrArg Gg (CS [] (by kernel_rfl))) ((Ll k _).trans (Eq.trans (b:=Hj k (G1 (zv k (Ip k R n) 6 k))) (by kernel_rfl) (by rw [KO k (Ip k R n) k,(show Gg (Ip k R n 16)=_ from Jv k R n)]<;>kernel_rfl)))
theorem HH (k:Nat) (G:Nat->S):Fb (dr k [8] G (U.at 8))=FG k (Fb (G 8)) (Gg (G 16)):=by kernel_rfl
def l2 (k:Nat):Nat->FM
 | 0=>λ _ _ _=>none
 |n+1=>FG k (l2 k n) (l4 k k)
noncomputable abbrev F5 (k:Nat) (R:Nat->S) (n:Nat):Nat->S:=up R 8 (zv k R 2 n)
theorem GL (k:Nat) (R:Nat->S):∀n,Fb (zv k R 2 n)=l2 k n
 | 0=>by kernel_rfl
 |n+1=>
  Eq.trans (congrArg Fb (CS [] (by kernel_rfl))) ((HH k _).trans (Eq.trans (b:=FG k (Fb ((F5 k R n) 8)) (Gg (zv k (F5 k R n) 4 k))) (by kernel_rfl) (by rw [Jv k (F5 k R n) k,(show Fb (F5 k R n 8)=_ from GL k R n)]<;>kernel_rfl)))
theorem F3 (k:Nat) (G:Nat->S):EV (dr k [0] G (U.at 0))=E0 k (EV (G 0)) (Fb (G 8)):=by kernel_rfl
def l0 (k:Nat):Nat->E1
 | 0=>λ _ _ _ _=>none
 |n+1=>E0 k (l0 k n) (l2 k k)
noncomputable abbrev Fh (k:Nat) (R:Nat->S) (n:Nat):Nat->S:=up R 0 (zv k R 0 n)
theorem FA (k:Nat) (R:Nat->S):∀n,EV (zv k R 0 n)=l0 k n
 | 0=>by kernel_rfl
 |n+1=>
  Eq.trans (congrArg EV (CS [] (by kernel_rfl))) ((F3 k _).trans (Eq.trans (b:=E0 k (EV ((Fh k R n) 0)) (Fb (zv k (Fh k R n) 2 k))) (by kernel_rfl) (by rw [GL k (Fh k R n) k,(show EV (Fh k R n 0)=_ from FA k R n)]<;>kernel_rfl)))
theorem NZ (k:Nat) (G:Nat->S):HY (dr k [] G (U.at 7))=I4 k (EV (G 0)):=by kernel_rfl
def r1 (k:Nat):JG:=I4 k (l0 k k)
theorem NY (k:Nat) (R:Nat->S):HY (k6 k R 7)=r1 k:=
 Eq.trans (congrArg HY (Cd [] (by kernel_rfl))) ((NZ k _).trans (Eq.trans (b:=I4 k (EV (zv k R 0 k))) (by kernel_rfl) (by rw [FA k R k]<;>kernel_rfl)))
theorem EW (k:Nat) (G:Nat->S) (xs:DL sig):dr k [] G [.c 1 0] (uR 121 368 sig xs)=ES k (HY (G 7)) xs.1:=by kernel_rfl
end f68
def f68 (k:Nat) (a0:KB):Option (Int×Unit):=f68.ES k (f68.r1 k) a0
namespace f68
theorem eq (k:Nat) (xs:DL sig):den T Y (E k) A k aC 0 (uR 121 368 sig xs) (zw T rs ts)=f68 k xs.1:=
 Eq.trans (Cg (R:=(λ _ _=>none)) (tb:=U)) ((EW k _ xs).trans (Eq.trans (b:=ES k (HY (k6 k (λ _ _=>none) 7)) xs.1) (by kernel_rfl) (by rw [NY k (λ _ _=>none)]<;>kernel_rfl)))
noncomputable def aN (k:Nat):jH:=⟨sig,rs,λ xs=>f68 k xs.1⟩
theorem ok (k:Nat):cT Tryz.prog 68 sig rs (λ xs=>f68 k xs.1):=
 (AL (k:=k) (A:=A) (T:=T) (Y:=Y) (E:=E k) (M:=368) (ts:=ts) FL ⟨f14.ok k,f99.ok k,f101.ok k,f117.ok k,trivial⟩ ⟨f14.E8,f99.E8,f101.E8,f117.E8,trivial⟩ mixed (f:=68) (fn:=Tryz.f68) (c:=aC) (by kernel_rfl) (by kernel_rfl) (by kernel_rfl) (by decide) (by kernel_rfl)).congr λ xs=>(eq k xs).symm
theorem E8:um Tryz.prog 68:=λ args w=>by kernel_rfl
end f68
namespace f69
noncomputable def aC:Code:=Tryz.f69.body.getD .skip
abbrev sig:List PT:=[(false,LG)]
abbrev rs:List RT:=[.obj (.map E5 (.int .i64)) []]
abbrev ts:List RV:=[.tmp 2]
abbrev S:=St->Option (eC rs)
def Y:dZ:=[(109,T8)]
noncomputable def E (k:Nat):Env:=[]
def A:oM:={ loops:=[(0,{ slots:=[(3,.id),(8,.val false Fp),(9,.id),(10,.id)],keys:=[(7,[])] }),(2,{ slots:=[(3,.id),(5,.id),(8,.val false Fp),(9,.id),(10,.id),(14,.id)],keys:=[(5,[]),(7,[])] })] }
def U:fF:=[(0,[.c 116 0,.r 0,.b 0,.c 15 0]),(8,[.c 29900 2,.r 2,.b 2,.b 1,.c 935 0,.r 0,.b 0,.c 15 0])]
noncomputable abbrev k6 (k:Nat) (R:Nat->S) (q:Nat):S:=cx T Y (E k) A k (zw T rs ts) aC U R q
noncomputable abbrev ur (k:Nat) (rc:List Nat) (R:Nat->S):Nat->S:=ext T Y (E k) A k (zw T rs ts) aC U rc R
noncomputable abbrev zv (k:Nat) (R:Nat->S) (i n:Nat):S:=lx T Y (E k) A k (zw T rs ts) aC U R i n
noncomputable abbrev dr (k:Nat) (rc:List Nat) (G:Nat->S) (F:List PF):S:=λ σ=>ap T Y (E k) A k (zw T rs ts) (cD T Y (E k) A k (zw T rs ts) aC U rc G 9999 F) .nx σ
def F4 (uo:FW) (HN:Int) (fz:Ft) (uf:Int):St:=Dn 35 112 [(3,.cp (.one (.mp 7))),(8,aV Fp fz),(9,aI uf),(10,aI HN)] [(7,.map E5 (.int .i64) uo none)]
abbrev E1:=FW->Int->Ft->Int->Option ((HT×Unit)×Unit)
abbrev EV (R:S):E1:=(λ uo HN fz uf=>R (F4 uo HN fz uf))
def HK (E9 FN Hp:Int) (uo:FW) (HN GH:Int) (fz:Ft) (uf:Int):St:=Dn 35 112 [(3,.cp (.one (.mp 7))),(5,aP 5),(8,aV Fp fz),(9,aI uf),(10,aI HN),(14,aI GH)] [(5,.box [cI E9,cI FN,cI Hp]),(7,.map E5 (.int .i64) uo none)]
abbrev FM:=Int->Int->Int->FW->Int->Int->Ft->Int->Option ((HT×Unit)×Unit)
abbrev Fb (R:S):FM:=(λ E9 FN Hp uo HN GH fz uf=>R (HK E9 FN Hp uo HN GH fz uf))
def ES (k:Nat) (Fe:E1) (a0:(List FI)):Option ((HT×Unit)×Unit):=(Fe ([]:FW) 0 a0 (a0.length:Int))
def E0 (k:Nat) (Gd:FM) (uo:FW) (HN:Int) (fz:Ft) (uf:Int):Option ((HT×Unit)×Unit):=(if HN <uf then (if 0<=HN then (if HN <(fz.length:Int) then (Gd ((fz.getD (HN).toNat (0,(0,0))).1) (((fz.getD (HN).toNat (0,(0,0))).2).1) (((fz.getD (HN).toNat (0,(0,0))).2).2) uo HN 0 fz uf) else none) else none) else some ((uo,()),()))
def FG (k:Nat) (Fe:E1) (Gd:FM) (E9 FN Hp:Int) (uo:FW) (HN GH:Int) (fz:Ft) (uf:Int):Option ((HT×Unit)×Unit):=(if GH <3 then (if 0<=GH then (if GH <(3:Int) then (if 0<=((AJ (GH+1)).tmod 3) then (if ((AJ (GH+1)).tmod 3) <(3:Int) then (if 0<=((AJ (GH+2)).tmod 3) then (if ((AJ (GH+2)).tmod 3) <(3:Int) then (Gd E9 FN Hp (jV (kB (.pair (.int .i64) (.int .i64))) uo ((([E9,FN,Hp]:List Int).getD ((GH).toNat) 0),(([E9,FN,Hp]:List Int).getD ((((AJ (GH+1)).tmod 3)).toNat) 0)) (([E9,FN,Hp]:List Int).getD ((((AJ (GH+2)).tmod 3)).toNat) 0)) HN (AJ (GH+1)) fz uf) else none) else none) else none) else none) else none) else none) else (Fe uo (AJ (HN+1)) fz uf))
theorem HH (k:Nat) (G:Nat->S):Fb (dr k [8,0] G (U.at 8))=FG k (EV (G 0)) (Fb (G 8)):=by kernel_rfl
def l2 (k:Nat) (F9:E1):Nat->FM
 | 0=>λ _ _ _ _ _ _ _ _=>none
 |n+1=>FG k F9 (l2 k F9 n)
noncomputable abbrev F5 (k:Nat) (R:Nat->S) (n:Nat):Nat->S:=up R 8 (zv k R 2 n)
theorem GL (k:Nat) (R:Nat->S):∀n,Fb (zv k R 2 n)=l2 k (EV (R 0)) n
 | 0=>by kernel_rfl
 |n+1=>
  Eq.trans (congrArg Fb (CS [0] (by kernel_rfl))) ((HH k _).trans (Eq.trans (b:=FG k (EV ((F5 k R n) 0)) (Fb ((F5 k R n) 8))) (by kernel_rfl) (by rw [(show Fb (F5 k R n 8)=_ from GL k R n)]<;>kernel_rfl)))
theorem F3 (k:Nat) (G:Nat->S):EV (dr k [0] G (U.at 0))=E0 k (Fb (G 8)):=by kernel_rfl
def l0 (k:Nat):Nat->E1
 | 0=>λ _ _ _ _=>none
 |n+1=>E0 k (l2 k (l0 k n) k)
noncomputable abbrev Fh (k:Nat) (R:Nat->S) (n:Nat):Nat->S:=up R 0 (zv k R 0 n)
theorem FA (k:Nat) (R:Nat->S):∀n,EV (zv k R 0 n)=l0 k n
 | 0=>by kernel_rfl
 |n+1=>
  Eq.trans (congrArg EV (CS [] (by kernel_rfl))) ((F3 k _).trans (Eq.trans (b:=E0 k (Fb (zv k (Fh k R n) 2 k))) (by kernel_rfl) (by rw [GL k (Fh k R n) k,(show EV (Fh k R n 0)=_ from FA k R n)]<;>kernel_rfl)))
theorem EW (k:Nat) (G:Nat->S) (xs:DL sig):dr k [] G [.c 1 0] (uR 35 112 sig xs)=ES k (EV (G 0)) xs.1:=by kernel_rfl
end f69
def f69 (k:Nat) (a0:(List FI)):Option ((HT×Unit)×Unit):=f69.ES k (f69.l0 k k) a0
namespace f69
theorem eq (k:Nat) (xs:DL sig):den T Y (E k) A k aC 0 (uR 35 112 sig xs) (zw T rs ts)=f69 k xs.1:=
 Eq.trans (Cg (R:=(λ _ _=>none)) (tb:=U)) ((EW k _ xs).trans (Eq.trans (b:=ES k (EV (zv k (λ _ _=>none) 0 k)) xs.1) (by kernel_rfl) (by rw [FA k (λ _ _=>none) k]<;>kernel_rfl)))
noncomputable def aN (k:Nat):jH:=⟨sig,rs,λ xs=>f69 k xs.1⟩
theorem ok (k:Nat):cT Tryz.prog 69 sig rs (λ xs=>f69 k xs.1):=
 (AL (k:=k) (A:=A) (T:=T) (Y:=Y) (E:=E k) (M:=112) (ts:=ts) FL trivial trivial mixed (f:=69) (fn:=Tryz.f69) (c:=aC) (by kernel_rfl) (by kernel_rfl) (by kernel_rfl) (by decide) (by kernel_rfl)).congr λ xs=>(eq k xs).symm
theorem E8:um Tryz.prog 69:=λ args w=>by kernel_rfl
end f69
namespace f70
noncomputable def aC:Code:=Tryz.f70.body.getD .skip
abbrev sig:List PT:=[(false,LF)]
abbrev rs:List RT:=[.obj (.map E5 .bool) []]
abbrev ts:List RV:=[.tmp 2]
abbrev S:=St->Option (eC rs)
def Y:dZ:=[(3,(.int .i64)),(92,T9),(1000056,(.int .i64))]
noncomputable def E (k:Nat):Env:=[(99,.c (f99.aN k))]
def A:oM:={ loops:=[(0,{ slots:=[(0,.val false E5),(3,.id),(10,.id),(11,.id),(12,.id)],keys:=[(9,[]),(10,[])] }),(2,{ Bu:=[(6,60,(.int .i64))],slots:=[(0,.val false E5),(3,.id),(5,.id),(6,.id),(10,.id),(11,.id),(12,.id),(17,.id),(18,.id)],keys:=[(9,[]),(10,[]),(60,[])] }),(4,{ Bu:=[(6,60,(.int .i64))],slots:=[(0,.val false E5),(3,.id),(5,.id),(6,.id),(7,.id),(10,.id),(11,.id),(12,.id),(17,.id),(18,.id)],keys:=[(9,[]),(10,[]),(60,[])] }),(6,{ Bu:=[(6,60,(.int .i64))],slots:=[(0,.val false E5),(3,.id),(5,.id),(6,.id),(8,.id),(10,.id),(11,.id),(12,.id)],keys:=[(9,[]),(10,[]),(60,[])] })],qF:=[(9,{ Bu:=[(6,60,(.int .i64))],slots:=[(0,.val false E5),(3,.id),(5,.id),(6,.id),(7,.id),(10,.id),(11,.id),(12,.id),(17,.id),(18,.id),(51,.bool)],keys:=[(9,[]),(10,[]),(60,[])] })],conds:=[(17,{ slots:=[(0,.val false E5),(3,.id),(5,.id),(6,.id),(8,.id),(10,.id),(11,.id),(12,.id)],keys:=[(9,[]),(10,[]),(60,[])] })] }
def U:fF:=[(0,[.c 116 0,.r 0,.b 0,.c 15 0]),(8,[.c 119604 2,.r 2,.b 2,.c 14951 1,.b 1,.c 935 0,.r 0,.b 0,.c 15 0]),(16,[.c 30618824 4,.r 4,.b 4,.c 7654707 3,.b 3,.c 956839 2,.r 2,.b 2,.c 14951 1,.b 1,.c 935 0,.r 0,.b 0,.c 15 0]),(24,[.c 119612 6,.r 6,.b 6,.b 1,.c 935 0,.r 0,.b 0,.c 15 0]),(39,[.c 122475297 4,.c 61237649 4,.r 4,.b 4,.c 7654707 3,.b 3,.c 956839 2,.r 2,.b 2,.c 14951 1,.b 1,.c 935 0,.r 0,.b 0,.c 15 0]),(69,[.b 7,.c 478451 6,.r 6,.b 6,.b 1,.c 935 0,.r 0,.b 0,.c 15 0])]
noncomputable abbrev k6 (k:Nat) (R:Nat->S) (q:Nat):S:=cx T Y (E k) A k (zw T rs ts) aC U R q
noncomputable abbrev ur (k:Nat) (rc:List Nat) (R:Nat->S):Nat->S:=ext T Y (E k) A k (zw T rs ts) aC U rc R
noncomputable abbrev zv (k:Nat) (R:Nat->S) (i n:Nat):S:=lx T Y (E k) A k (zw T rs ts) aC U R i n
noncomputable abbrev dr (k:Nat) (rc:List Nat) (G:Nat->S) (F:List PF):S:=λ σ=>ap T Y (E k) A k (zw T rs ts) (cD T Y (E k) A k (zw T rs ts) aC U rc G 9999 F) .nx σ
def F4 (F7:Fy) (r7:Ia) (x0:Fa) (FH Fq:Int):St:=Dn 94 288 [(0,aV E5 x0),(3,.cp (.one (.mp 9))),(10,aO 10),(11,aI FH),(12,aI Fq)] [(9,.map E5 .bool r7 none),(10,.vec (.int .i64) F7)]
abbrev E1:=Fy->Ia->Fa->Int->Int->Option ((It×Unit)×Unit)
abbrev EV (R:S):E1:=(λ F7 r7 x0 FH Fq=>R (F4 F7 r7 x0 FH Fq))
def HK (F7 FU:Fy) (r7:Ia) (x0:Fa) (FH Fq HV Gn gi:Int):St:=Dn 94 288 [(0,aV E5 x0),(3,.cp (.one (.mp 9))),(5,aI gi),(6,aO 60),(10,aO 10),(11,aI FH),(12,aI Fq),(17,aI HV),(18,aI Gn)] [(9,.map E5 .bool r7 none),(10,.vec (.int .i64) F7),(60,.vec (.int .i64) FU)]
abbrev FM:=Fy->Fy->Ia->Fa->Int->Int->Int->Int->Int->Option ((It×Unit)×Unit)
abbrev Fb (R:S):FM:=(λ F7 FU r7 x0 FH Fq HV Gn gi=>R (HK F7 FU r7 x0 FH Fq HV Gn gi))
def Lp (F7 FU:Fy) (r7:Ia) (x0:Fa) (FH Fq HV Gn gi:Int):St:=Dn 94 288 [(0,aV E5 x0),(3,.cp (.one (.mp 9))),(5,aI gi),(6,aO 60),(7,aI Gn),(10,aO 10),(11,aI FH),(12,aI Fq),(17,aI HV),(18,aI Gn)] [(9,.map E5 .bool r7 none),(10,.vec (.int .i64) F7),(60,.vec (.int .i64) FU)]
abbrev G6:=Fy->Fy->Ia->Fa->Int->Int->Int->Int->Int->Option ((It×Unit)×Unit)
abbrev Gg (R:S):G6:=(λ F7 FU r7 x0 FH Fq HV Gn gi=>R (Lp F7 FU r7 x0 FH Fq HV Gn gi))
def N5 (F7 FU:Fy) (r7:Ia) (x0:Fa) (FH Fq gi fz:Int):St:=Dn 94 288 [(0,aV E5 x0),(3,.cp (.one (.mp 9))),(5,aI gi),(6,aO 60),(8,aI fz),(10,aO 10),(11,aI FH),(12,aI Fq)] [(9,.map E5 .bool r7 none),(10,.vec (.int .i64) F7),(60,.vec (.int .i64) FU)]
abbrev Ie:=Fy->Fy->Ia->Fa->Int->Int->Int->Int->Option ((It×Unit)×Unit)
abbrev G1 (R:S):Ie:=(λ F7 FU r7 x0 FH Fq gi fz=>R (N5 F7 FU r7 x0 FH Fq gi fz))
def RI (F7 FU:Fy) (r7:Ia) (x0:Fa) (FH Fq HV Gn gi:Int) (QE:Bool):St:=Dn 94 288 [(0,aV E5 x0),(3,.cp (.one (.mp 9))),(5,aI gi),(6,aO 60),(7,aI Gn),(10,aO 10),(11,aI FH),(12,aI Fq),(17,aI HV),(18,aI Gn),(51,aB QE)] [(9,.map E5 .bool r7 none),(10,.vec (.int .i64) F7),(60,.vec (.int .i64) FU)]
abbrev LB:=Fy->Fy->Ia->Fa->Int->Int->Int->Int->Int->Bool->Option ((It×Unit)×Unit)
abbrev Jz (R:S):LB:=(λ F7 FU r7 x0 FH Fq HV Gn gi QE=>R (RI F7 FU r7 x0 FH Fq HV Gn gi QE))
def TJ (F7 FU:Fy) (r7:Ia) (x0:Fa) (FH Fq gi fz:Int):St:=Dn 94 288 [(0,aV E5 x0),(3,.cp (.one (.mp 9))),(5,aI gi),(6,aO 60),(8,aI fz),(10,aO 10),(11,aI FH),(12,aI Fq)] [(9,.map E5 .bool r7 none),(10,.vec (.int .i64) F7),(60,.vec (.int .i64) FU)]
abbrev PL:=Fy->Fy->Ia->Fa->Int->Int->Int->Int->Option ((It×Unit)×Unit)
abbrev LY (R:S):PL:=(λ F7 FU r7 x0 FH Fq gi fz=>R (TJ F7 FU r7 x0 FH Fq gi fz))
def ES (k:Nat) (Fe:E1) (a0:Iu):Option ((It×Unit)×Unit):=(Fe ([1,(-1)]) ([]:Ia) a0 (([1,(-1)]).length:Int) 0)
def E0 (k:Nat) (Gd:FM) (F7:Fy) (r7:Ia) (x0:Fa) (FH Fq:Int):Option ((It×Unit)×Unit):=(if Fq <FH then (if 0<=Fq then (if Fq <(F7.length:Int) then (Gd F7 ([]:List Int) r7 x0 FH Fq (x0.length:Int) 0 (F7.getD ((Fq).toNat) 0)) else none) else none) else some ((r7,()),()))
def FG (k:Nat) (Il:G6) (Jr:Ie) (F7 FU:Fy) (r7:Ia) (x0:Fa) (FH Fq HV Gn gi:Int):Option ((It×Unit)×Unit):=(if Gn <HV then (Il F7 FU r7 x0 FH Fq HV Gn gi) else (Jr F7 FU r7 x0 FH Fq gi 1))
def Hj (k:Nat) (Ns:LB) (F7 FU:Fy) (r7:Ia) (x0:Fa) (FH Fq HV Gn gi:Int):Option ((It×Unit)×Unit):=(if 1 <(FU.length:Int) then (if 0<=(AJ ((FU.length:Int) - 2)) then (if (AJ ((FU.length:Int) - 2)) <(FU.length:Int) then (if 0<=(FU.getD ((AJ ((FU.length:Int) - 2)).toNat) 0) then (if (FU.getD ((AJ ((FU.length:Int) - 2)).toNat) 0) <(x0.length:Int) then (if 0<=(AJ ((FU.length:Int) - 1)) then (if (AJ ((FU.length:Int) - 1)) <(FU.length:Int) then (if 0<=(FU.getD ((AJ ((FU.length:Int) - 1)).toNat) 0) then (if (FU.getD ((AJ ((FU.length:Int) - 1)).toNat) 0) <(x0.length:Int) then (if 0<=Gn then (if Gn <(x0.length:Int) then ((f99 k ((x0.getD ((FU.getD ((AJ ((FU.length:Int) - 2)).toNat) 0)).toNat (0,0)).1,(x0.getD ((FU.getD ((AJ ((FU.length:Int) - 2)).toNat) 0)).toNat (0,0)).2) ((x0.getD ((FU.getD ((AJ ((FU.length:Int) - 1)).toNat) 0)).toNat (0,0)).1,(x0.getD ((FU.getD ((AJ ((FU.length:Int) - 1)).toNat) 0)).toNat (0,0)).2) ((x0.getD (Gn).toNat (0,0)).1,(x0.getD (Gn).toNat (0,0)).2)).bind λ r1=>(Ns F7 FU r7 x0 FH Fq HV Gn gi (decide ((AJ (gi * r1.1)) <0)))) else none) else none) else none) else none) else none) else none) else none) else none) else none) else none) else (Ns F7 FU r7 x0 FH Fq HV Gn gi false))
def HX (k:Nat) (Fe:E1) (Sa:PL) (F7 FU:Fy) (r7:Ia) (x0:Fa) (FH Fq gi fz:Int):Option ((It×Unit)×Unit):=(if fz <(FU.length:Int) then (if 0 <gi then (if 0<=(AJ (fz - 1)) then (if (AJ (fz - 1)) <(FU.length:Int) then (if 0<=fz then (if fz <(FU.length:Int) then (Sa F7 FU (jV (kB (.pair (.int .i64) (.int .i64))) r7 ((FU.getD ((AJ (fz - 1)).toNat) 0),(FU.getD ((fz).toNat) 0)) true) x0 FH Fq gi fz) else none) else none) else none) else none) else (if 0<=fz then (if fz <(FU.length:Int) then (if 0<=(AJ (fz - 1)) then (if (AJ (fz - 1)) <(FU.length:Int) then (Sa F7 FU (jV (kB (.pair (.int .i64) (.int .i64))) r7 ((FU.getD ((fz).toNat) 0),(FU.getD ((AJ (fz - 1)).toNat) 0)) true) x0 FH Fq gi fz) else none) else none) else none) else none)) else (Fe F7 r7 x0 FH (AJ (Fq+1))))
def Km (k:Nat) (Gd:FM) (Il:G6) (F7 FU:Fy) (r7:Ia) (x0:Fa) (FH Fq HV Gn gi:Int) (QE:Bool):Option ((It×Unit)×Unit):=(if QE=true then (if 0<=(AJ ((FU.length:Int) - 1)) then (if (AJ ((FU.length:Int) - 1))<=(FU.length:Int) then (Il F7 (FU.take (AJ ((FU.length:Int) - 1)).toNat) r7 x0 FH Fq HV Gn gi) else none) else none) else (if (FU.length+1) * 8<=140737488355328 then (Gd F7 (FU++[Gn]) r7 x0 FH Fq HV (AJ (Gn+1)) gi) else none))
def Pa (k:Nat) (Jr:Ie) (F7 FU:Fy) (r7:Ia) (x0:Fa) (FH Fq gi fz:Int):Option ((It×Unit)×Unit):=(Jr F7 FU r7 x0 FH Fq gi (AJ (fz+1)))
theorem RC (k:Nat) (G:Nat->S):Jz (dr k [16,8,0] G (U.at 39))=Km k (Fb (G 8)) (Gg (G 16)):=by kernel_rfl
def r9 (k:Nat) (KX:G6) (I5:FM) (F9:E1):LB:=Km k I5 KX
theorem RB (k:Nat) (R:Nat->S):Jz (k6 k R 39)=r9 k (Gg (R 16)) (Fb (R 8)) (EV (R 0)):=
 Eq.trans (congrArg Jz (Cd [16,8,0] (by kernel_rfl))) ((RC k _).trans (by kernel_rfl))
theorem Ll (k:Nat) (G:Nat->S):Gg (dr k [16,8,0] G (U.at 16))=Hj k (Jz (G 39)):=by kernel_rfl
def l4 (k:Nat) (I5:FM) (F9:E1):Nat->G6
 | 0=>λ _ _ _ _ _ _ _ _ _=>none
 |n+1=>Hj k (r9 k (l4 k I5 F9 n) I5 F9)
noncomputable abbrev Ip (k:Nat) (R:Nat->S) (n:Nat):Nat->S:=up R 16 (zv k R 4 n)
theorem Jv (k:Nat) (R:Nat->S):∀n,Gg (zv k R 4 n)=l4 k (Fb (R 8)) (EV (R 0)) n
 | 0=>by kernel_rfl
 |n+1=>
  Eq.trans (congrArg Gg (CS [8,0] (by kernel_rfl))) ((Ll k _).trans (Eq.trans (b:=Hj k (Jz (k6 k (Ip k R n) 39))) (by kernel_rfl) (by rw [RB k (Ip k R n),(show Gg (Ip k R n 16)=_ from Jv k R n)]<;>kernel_rfl)))
theorem Tr (k:Nat) (G:Nat->S):LY (dr k [24,0] G (U.at 69))=Pa k (G1 (G 24)):=by kernel_rfl
def SJ (k:Nat) (RD:Ie) (F9:E1):PL:=Pa k RD
theorem Tq (k:Nat) (R:Nat->S):LY (k6 k R 69)=SJ k (G1 (R 24)) (EV (R 0)):=
 Eq.trans (congrArg LY (Cd [24,0] (by kernel_rfl))) ((Tr k _).trans (by kernel_rfl))
theorem Nx (k:Nat) (G:Nat->S):G1 (dr k [24,0] G (U.at 24))=HX k (EV (G 0)) (LY (G 69)):=by kernel_rfl
def wv (k:Nat) (F9:E1):Nat->Ie
 | 0=>λ _ _ _ _ _ _ _ _=>none
 |n+1=>HX k F9 (SJ k (wv k F9 n) F9)
noncomputable abbrev IM (k:Nat) (R:Nat->S) (n:Nat):Nat->S:=up R 24 (zv k R 6 n)
theorem KO (k:Nat) (R:Nat->S):∀n,G1 (zv k R 6 n)=wv k (EV (R 0)) n
 | 0=>by kernel_rfl
 |n+1=>
  Eq.trans (congrArg G1 (CS [0] (by kernel_rfl))) ((Nx k _).trans (Eq.trans (b:=HX k (EV ((IM k R n) 0)) (LY (k6 k (IM k R n) 69))) (by kernel_rfl) (by rw [Tq k (IM k R n),(show G1 (IM k R n 24)=_ from KO k R n)]<;>kernel_rfl)))
theorem HH (k:Nat) (G:Nat->S):Fb (dr k [8,0] G (U.at 8))=FG k (Gg (G 16)) (G1 (G 24)):=by kernel_rfl
def l2 (k:Nat) (F9:E1):Nat->FM
 | 0=>λ _ _ _ _ _ _ _ _ _=>none
 |n+1=>FG k (l4 k (l2 k F9 n) F9 k) (wv k F9 k)
noncomputable abbrev F5 (k:Nat) (R:Nat->S) (n:Nat):Nat->S:=up R 8 (zv k R 2 n)
theorem GL (k:Nat) (R:Nat->S):∀n,Fb (zv k R 2 n)=l2 k (EV (R 0)) n
 | 0=>by kernel_rfl
 |n+1=>
  Eq.trans (congrArg Fb (CS [0] (by kernel_rfl))) ((HH k _).trans (Eq.trans (b:=FG k (Gg (zv k (F5 k R n) 4 k)) (G1 (zv k (F5 k R n) 6 k))) (by kernel_rfl) (by rw [Jv k (F5 k R n) k,KO k (F5 k R n) k,(show Fb (F5 k R n 8)=_ from GL k R n)]<;>kernel_rfl)))
theorem F3 (k:Nat) (G:Nat->S):EV (dr k [0] G (U.at 0))=E0 k (Fb (G 8)):=by kernel_rfl
def l0 (k:Nat):Nat->E1
 | 0=>λ _ _ _ _ _=>none
 |n+1=>E0 k (l2 k (l0 k n) k)
noncomputable abbrev Fh (k:Nat) (R:Nat->S) (n:Nat):Nat->S:=up R 0 (zv k R 0 n)
theorem FA (k:Nat) (R:Nat->S):∀n,EV (zv k R 0 n)=l0 k n
 | 0=>by kernel_rfl
 |n+1=>
  Eq.trans (congrArg EV (CS [] (by kernel_rfl))) ((F3 k _).trans (Eq.trans (b:=E0 k (Fb (zv k (Fh k R n) 2 k))) (by kernel_rfl) (by rw [GL k (Fh k R n) k,(show EV (Fh k R n 0)=_ from FA k R n)]<;>kernel_rfl)))
theorem EW (k:Nat) (G:Nat->S) (xs:DL sig):dr k [] G [.c 1 0] (uR 94 288 sig xs)=ES k (EV (G 0)) xs.1:=by kernel_rfl
end f70
def f70 (k:Nat) (a0:Iu):Option ((It×Unit)×Unit):=f70.ES k (f70.l0 k k) a0
namespace f70
theorem eq (k:Nat) (xs:DL sig):den T Y (E k) A k aC 0 (uR 94 288 sig xs) (zw T rs ts)=f70 k xs.1:=
 Eq.trans (Cg (R:=(λ _ _=>none)) (tb:=U)) ((EW k _ xs).trans (Eq.trans (b:=ES k (EV (zv k (λ _ _=>none) 0 k)) xs.1) (by kernel_rfl) (by rw [FA k (λ _ _=>none) k]<;>kernel_rfl)))
noncomputable def aN (k:Nat):jH:=⟨sig,rs,λ xs=>f70 k xs.1⟩
theorem ok (k:Nat):cT Tryz.prog 70 sig rs (λ xs=>f70 k xs.1):=
 (AL (k:=k) (A:=A) (T:=T) (Y:=Y) (E:=E k) (M:=288) (ts:=ts) FL ⟨f99.ok k,trivial⟩ ⟨f99.E8,trivial⟩ mixed (f:=70) (fn:=Tryz.f70) (c:=aC) (by kernel_rfl) (by kernel_rfl) (by kernel_rfl) (by decide) (by kernel_rfl)).congr λ xs=>(eq k xs).symm
theorem E8:um Tryz.prog 70:=λ args w=>by kernel_rfl
end f70
namespace f118
noncomputable def aC:Code:=Tryz.f118.body.getD .skip
abbrev sig:List PT:=[(false,SI),(false,.bool)]
abbrev rs:List RT:=[.d false (.int .i64)]
abbrev ts:List RV:=[.tmp 4]
abbrev S:=St->Option (eC rs)
def Y:dZ:=[]
noncomputable def E (k:Nat):Env:=[]
def A:oM:={ loops:=[(0,{ slots:=[(0,.val false .bool),(1,.bool),(7,.id),(8,.id)] })] }
def U:fF:=[(0,[.c 52 0,.r 0,.b 0,.c 7 0])]
noncomputable abbrev k6 (k:Nat) (R:Nat->S) (q:Nat):S:=cx T Y (E k) A k (zw T rs ts) aC U R q
noncomputable abbrev ur (k:Nat) (rc:List Nat) (R:Nat->S):Nat->S:=ext T Y (E k) A k (zw T rs ts) aC U rc R
noncomputable abbrev zv (k:Nat) (R:Nat->S) (i n:Nat):S:=lx T Y (E k) A k (zw T rs ts) aC U R i n
noncomputable abbrev dr (k:Nat) (rc:List Nat) (G:Nat->S) (F:List PF):S:=λ σ=>ap T Y (E k) A k (zw T rs ts) (cD T Y (E k) A k (zw T rs ts) aC U rc G 9999 F) .nx σ
def F4 (x0:(List Bool)) (x1:Bool) (nk fz:Int):St:=Dn 19 64 [(0,aV .bool x0),(1,aB x1),(7,aI nk),(8,aI fz)] []
abbrev E1:=(List Bool)->Bool->Int->Int->Option (Int×Unit)
abbrev EV (R:S):E1:=(λ x0 x1 nk fz=>R (F4 x0 x1 nk fz))
def ES (k:Nat) (Fe:E1) (a0:(List Bool)) (a1:Bool):Option (Int×Unit):=(Fe a0 (decide (a1=true)) (a0.length:Int) 0)
def E0 (k:Nat) (Fe:E1) (x0:(List Bool)) (x1:Bool) (nk fz:Int):Option (Int×Unit):=(if fz <nk then (if 0<=fz then (if fz <(x0.length:Int) then (if decide (x1=true)=decide ((x0.getD (fz).toNat false)=true) then some (fz,()) else (Fe x0 (decide (x1=true)) nk (AJ (fz+1)))) else none) else none) else some ((-1),()))
theorem F3 (k:Nat) (G:Nat->S):EV (dr k [0] G (U.at 0))=E0 k (EV (G 0)):=by kernel_rfl
def l0 (k:Nat):Nat->E1
 | 0=>λ _ _ _ _=>none
 |n+1=>E0 k (l0 k n)
noncomputable abbrev Fh (k:Nat) (R:Nat->S) (n:Nat):Nat->S:=up R 0 (zv k R 0 n)
theorem FA (k:Nat) (R:Nat->S):∀n,EV (zv k R 0 n)=l0 k n
 | 0=>by kernel_rfl
 |n+1=>
  Eq.trans (congrArg EV (CS [] (by kernel_rfl))) ((F3 k _).trans (Eq.trans (b:=E0 k (EV ((Fh k R n) 0))) (by kernel_rfl) (by rw [(show EV (Fh k R n 0)=_ from FA k R n)]<;>kernel_rfl)))
theorem EW (k:Nat) (G:Nat->S) (xs:DL sig):dr k [] G [.c 1 0] (uR 19 64 sig xs)=ES k (EV (G 0)) xs.1 xs.2.1:=by kernel_rfl
end f118
def f118 (k:Nat) (a0:(List Bool)) (a1:Bool):Option (Int×Unit):=f118.ES k (f118.l0 k k) a0 a1
namespace f118
theorem eq (k:Nat) (xs:DL sig):den T Y (E k) A k aC 0 (uR 19 64 sig xs) (zw T rs ts)=f118 k xs.1 xs.2.1:=
 Eq.trans (Cg (R:=(λ _ _=>none)) (tb:=U)) ((EW k _ xs).trans (Eq.trans (b:=ES k (EV (zv k (λ _ _=>none) 0 k)) xs.1 xs.2.1) (by kernel_rfl) (by rw [FA k (λ _ _=>none) k]<;>kernel_rfl)))
noncomputable def aN (k:Nat):jH:=⟨sig,rs,λ xs=>f118 k xs.1 xs.2.1⟩
theorem ok (k:Nat):cT Tryz.prog 118 sig rs (λ xs=>f118 k xs.1 xs.2.1):=
 (AL (k:=k) (A:=A) (T:=T) (Y:=Y) (E:=E k) (M:=64) (ts:=ts) FL trivial trivial mixed (f:=118) (fn:=Tryz.f118) (c:=aC) (by kernel_rfl) (by kernel_rfl) (by kernel_rfl) (by decide) (by kernel_rfl)).congr λ xs=>(eq k xs).symm
theorem E8:um Tryz.prog 118:=λ args w=>by kernel_rfl
end f118
namespace f71
noncomputable def aC:Code:=Tryz.f71.body.getD .skip
abbrev sig:List PT:=[(false,SI),(false,.bool)]
abbrev rs:List RT:=[.d false .bool]
abbrev ts:List RV:=[.tmp 4]
abbrev S:=St->Option (eC rs)
def Y:dZ:=[]
noncomputable def E (k:Nat):Env:=[(118,.c (f118.aN k))]
def A:oM:={}
def U:fF:=[]
noncomputable abbrev dr (k:Nat) (rc:List Nat) (G:Nat->S) (F:List PF):S:=λ σ=>ap T Y (E k) A k (zw T rs ts) (cD T Y (E k) A k (zw T rs ts) aC U rc G 9999 F) .nx σ
def ES (k:Nat) (a0:(List Bool)) (a1:Bool):Option (Bool×Unit):=((f118 k a0 (decide (a1=true))).bind λ r1=>some (decide (0<=r1.1),()))
theorem EW (k:Nat) (G:Nat->S) (xs:DL sig):dr k [] G [.c 1 0] (uR 9 32 sig xs)=ES k xs.1 xs.2.1:=by kernel_rfl
end f71
def f71 (k:Nat) (a0:(List Bool)) (a1:Bool):Option (Bool×Unit):=f71.ES k a0 a1
namespace f71
theorem eq (k:Nat) (xs:DL sig):den T Y (E k) A k aC 0 (uR 9 32 sig xs) (zw T rs ts)=f71 k xs.1 xs.2.1:=
 Eq.trans (Cg (R:=(λ _ _=>none)) (tb:=U)) ((EW k _ xs).trans (by kernel_rfl))
noncomputable def aN (k:Nat):jH:=⟨sig,rs,λ xs=>f71 k xs.1 xs.2.1⟩
theorem ok (k:Nat):cT Tryz.prog 71 sig rs (λ xs=>f71 k xs.1 xs.2.1):=
 (AL (k:=k) (A:=A) (T:=T) (Y:=Y) (E:=E k) (M:=32) (ts:=ts) FL ⟨f118.ok k,trivial⟩ ⟨f118.E8,trivial⟩ mixed (f:=71) (fn:=Tryz.f71) (c:=aC) (by kernel_rfl) (by kernel_rfl) (by kernel_rfl) (by decide) (by kernel_rfl)).congr λ xs=>(eq k xs).symm
theorem E8:um Tryz.prog 71:=λ args w=>by kernel_rfl
end f71
namespace f26
noncomputable def aC:Code:=Tryz.f26.body.getD .skip
abbrev sig:List PT:=[(true,PV)]
abbrev rs:List RT:=[.d false (.int .i64)]
abbrev ts:List RV:=[.tmp 2]
abbrev S:=St->Option (eC rs)
def Y:dZ:=[(4,.bool)]
noncomputable def E (k:Nat):Env:=[(68,.c (f68.aN k)),(69,.c (f69.aN k)),(70,.c (f70.aN k)),(71,.c (f71.aN k))]
def A:oM:={ loops:=[(0,{ slots:=[(4,.id),(5,.id),(6,.id),(37,.id)],keys:=[(22,[]),(25,[]),(35,[]),(37,[])] })] }
def U:fF:=[(0,[.c 4084 0,.r 0,.b 0,.c 511 0])]
noncomputable abbrev k6 (k:Nat) (R:Nat->S) (q:Nat):S:=cx T Y (E k) A k (zw T rs ts) aC U R q
noncomputable abbrev ur (k:Nat) (rc:List Nat) (R:Nat->S):Nat->S:=ext T Y (E k) A k (zw T rs ts) aC U rc R
noncomputable abbrev zv (k:Nat) (R:Nat->S) (i n:Nat):S:=lx T Y (E k) A k (zw T rs ts) aC U R i n
noncomputable abbrev dr (k:Nat) (rc:List Nat) (G:Nat->S) (F:List PF):S:=λ σ=>ap T Y (E k) A k (zw T rs ts) (cD T Y (E k) A k (zw T rs ts) aC U rc G 9999 F) .nx σ
def F4 (Oo:(List Bool)) (y25:FW) (Lc:(Option ((Int×Int)×Int))) (JJ:FW) (Ic:Ia):St:=Dn 63 192 [(4,aO 22),(5,.cp (.one (.mp 25))),(6,.cp (.one (.mp 35))),(37,aP 37)] [(22,.vec .bool Oo),(25,.map E5 (.int .i64) y25 (some (37,JJ,Lc))),(35,.map E5 .bool Ic none),(37,.tok 25)]
abbrev E1:=(List Bool)->FW->(Option ((Int×Int)×Int))->FW->Ia->Option (Int×Unit)
abbrev EV (R:S):E1:=(λ Oo y25 Lc JJ Ic=>R (F4 Oo y25 Lc JJ Ic))
def ES (k:Nat) (Fe:E1) (a0:KB):Option (Int×Unit):=((f68 k (a0.1,a0.2)).bind λ r1=>(if ¬(r1.1=0) then some (r1.1,()) else (if (a0.2.length:Int)=0 then some (14,()) else (if 0<=(a0.1.length:Int) then (if (a0.1.length:Int)<=1073741824 then ((f69 k a0.2).bind λ r2=>(if ¬((r2.1.1.length:Int)=(AJ (3 * (a0.2.length:Int)))) then some (3,()) else ((f70 k a0.1).bind λ r3=>(Fe (List.replicate ((a0.1.length:Int)).toNat (false:Bool)) r2.1.1 none r2.1.1 r3.1.1)))) else none) else none))))
def E0 (k:Nat) (Fe:E1) (Oo:(List Bool)) (y25:FW) (Lc:(Option ((Int×Int)×Int))) (JJ:FW) (Ic:Ia):Option (Int×Unit):=(p7 JJ ((f71 k Oo false).bind λ r2=>(if r2.1=true then some (3,()) else some (0,()))) (λ GZ Ji=>(if 0<=GZ.1.1 then (if GZ.1.1 <(Oo.length:Int) then (if decide ((dA (kB (.pair (.int .i64) (.int .i64))) y25 (GZ.1.2,GZ.1.1)).isSome=true)=decide (((dA (kB (.pair (.int .i64) (.int .i64))) Ic (GZ.1.1,GZ.1.2)).getD false)=true) then some (3,()) else (Fe (Oo.set ((GZ.1.1).toNat) true) y25 (some GZ) Ji Ic)) else none) else none)))
theorem F3 (k:Nat) (G:Nat->S):EV (dr k [0] G (U.at 0))=E0 k (EV (G 0)):=by kernel_rfl
def l0 (k:Nat):Nat->E1
 | 0=>λ _ _ _ _ _=>none
 |n+1=>E0 k (l0 k n)
noncomputable abbrev Fh (k:Nat) (R:Nat->S) (n:Nat):Nat->S:=up R 0 (zv k R 0 n)
theorem FA (k:Nat) (R:Nat->S):∀n,EV (zv k R 0 n)=l0 k n
 | 0=>by kernel_rfl
 |n+1=>
  Eq.trans (congrArg EV (CS [] (by kernel_rfl))) ((F3 k _).trans (Eq.trans (b:=E0 k (EV ((Fh k R n) 0))) (by kernel_rfl) (by rw [(show EV (Fh k R n 0)=_ from FA k R n)]<;>kernel_rfl)))
theorem EW (k:Nat) (G:Nat->S) (xs:DL sig):dr k [] G [.c 1 0] (uR 63 192 sig xs)=ES k (EV (G 0)) xs.1:=by kernel_rfl
end f26
def f26 (k:Nat) (a0:KB):Option (Int×Unit):=f26.ES k (f26.l0 k k) a0
namespace f26
theorem eq (k:Nat) (xs:DL sig):den T Y (E k) A k aC 0 (uR 63 192 sig xs) (zw T rs ts)=f26 k xs.1:=
 Eq.trans (Cg (R:=(λ _ _=>none)) (tb:=U)) ((EW k _ xs).trans (Eq.trans (b:=ES k (EV (zv k (λ _ _=>none) 0 k)) xs.1) (by kernel_rfl) (by rw [FA k (λ _ _=>none) k]<;>kernel_rfl)))
noncomputable def aN (k:Nat):jH:=⟨sig,rs,λ xs=>f26 k xs.1⟩
theorem ok (k:Nat):cT Tryz.prog 26 sig rs (λ xs=>f26 k xs.1):=
 (AL (k:=k) (A:=A) (T:=T) (Y:=Y) (E:=E k) (M:=192) (ts:=ts) FL ⟨f68.ok k,f69.ok k,f70.ok k,f71.ok k,trivial⟩ ⟨f68.E8,f69.E8,f70.E8,f71.E8,trivial⟩ mixed (f:=26) (fn:=Tryz.f26) (c:=aC) (by kernel_rfl) (by kernel_rfl) (by kernel_rfl) (by decide) (by kernel_rfl)).congr λ xs=>(eq k xs).symm
theorem E8:um Tryz.prog 26:=λ args w=>by kernel_rfl
end f26
namespace f77
noncomputable def aC:Code:=Tryz.f77.body.getD .skip
abbrev sig:List PT:=[(false,(.int .i64))]
abbrev rs:List RT:=[.d true KE]
abbrev ts:List RV:=[.cell 2 121]
abbrev S:=St->Option (eC rs)
def Y:dZ:=[]
noncomputable def E (k:Nat):Env:=[]
def A:oM:={}
def U:fF:=[]
noncomputable abbrev dr (k:Nat) (rc:List Nat) (G:Nat->S) (F:List PF):S:=λ σ=>ap T Y (E k) A k (zw T rs ts) (cD T Y (E k) A k (zw T rs ts) aC U rc G 9999 F) .nx σ
def ES (k:Nat) (a0:Int):Option ((Int×Int)×Unit):=some (((a0.fdiv (2 ^ min (63:Int).toNat (IntKind.bits .i64))),IntKind.u64.wrap (a0)),())
theorem EW (k:Nat) (G:Nat->S) (xs:DL sig):dr k [] G [.c 1 0] (uR 8 32 sig xs)=ES k xs.1:=by kernel_rfl
end f77
def f77 (k:Nat) (a0:Int):Option ((Int×Int)×Unit):=f77.ES k a0
namespace f77
theorem eq (k:Nat) (xs:DL sig):den T Y (E k) A k aC 0 (uR 8 32 sig xs) (zw T rs ts)=f77 k xs.1:=
 Eq.trans (Cg (R:=(λ _ _=>none)) (tb:=U)) ((EW k _ xs).trans (by kernel_rfl))
noncomputable def aN (k:Nat):jH:=⟨sig,rs,λ xs=>f77 k xs.1⟩
theorem ok (k:Nat):cT Tryz.prog 77 sig rs (λ xs=>f77 k xs.1):=
 (AL (k:=k) (A:=A) (T:=T) (Y:=Y) (E:=E k) (M:=32) (ts:=ts) FL trivial trivial mixed (f:=77) (fn:=Tryz.f77) (c:=aC) (by kernel_rfl) (by kernel_rfl) (by kernel_rfl) (by decide) (by kernel_rfl)).congr λ xs=>(eq k xs).symm
theorem E8:um Tryz.prog 77:=λ args w=>by kernel_rfl
end f77
namespace f129
abbrev sig:List PT:=u3
abbrev rs:List RT:=u2
end f129
def f129 (k:Nat) (a0 a1 a2:Int):Option (Int×Int×Unit):=v8 a0 a1 a2
namespace f129
noncomputable def aN (k:Nat):jH:=⟨sig,rs,λ xs=>f129 k xs.1 xs.2.1 xs.2.2.1⟩
theorem ok (k:Nat):oN Tryz.prog 129 sig rs (λ xs=>f129 k xs.1 xs.2.1 xs.2.2.1):=BD (f:=129) (fn:=Tryz.f129) (by kernel_rfl) (by kernel_rfl) (by kernel_rfl) (by kernel_rfl) (by kernel_rfl)
theorem E8:True:=trivial
end f129
namespace f78
noncomputable def aC:Code:=Tryz.f78.body.getD .skip
abbrev sig:List PT:=[(true,KE),(true,KE)]
abbrev rs:List RT:=[.d true KE]
abbrev ts:List RV:=[.cell 4 121]
abbrev S:=St->Option (eC rs)
def Y:dZ:=[]
noncomputable def E (k:Nat):Env:=[(129,.x (f129.aN k))]
def A:oM:={}
def U:fF:=[]
noncomputable abbrev dr (k:Nat) (rc:List Nat) (G:Nat->S) (F:List PF):S:=λ σ=>ap T Y (E k) A k (zw T rs ts) (cD T Y (E k) A k (zw T rs ts) aC U rc G 9999 F) .nx σ
def ES (k:Nat) (a0 a1:(Int×Int)):Option ((Int×Int)×Unit):=((f129 k a0.2 a1.2 0).bind λ r1=>((f129 k (IntKind.u64.wrap (a0.1)) (IntKind.u64.wrap (a1.1)) r1.2.1).bind λ r2=>some ((AJ (r2.1),r1.1),())))
theorem EW (k:Nat) (G:Nat->S) (xs:DL sig):dr k [] G [.c 1 0] (uR 32 96 sig xs)=ES k xs.1 xs.2.1:=by kernel_rfl
end f78
def f78 (k:Nat) (a0 a1:(Int×Int)):Option ((Int×Int)×Unit):=f78.ES k a0 a1
namespace f78
theorem eq (k:Nat) (xs:DL sig):den T Y (E k) A k aC 0 (uR 32 96 sig xs) (zw T rs ts)=f78 k xs.1 xs.2.1:=
 Eq.trans (Cg (R:=(λ _ _=>none)) (tb:=U)) ((EW k _ xs).trans (by kernel_rfl))
noncomputable def aN (k:Nat):jH:=⟨sig,rs,λ xs=>f78 k xs.1 xs.2.1⟩
theorem ok (k:Nat):cT Tryz.prog 78 sig rs (λ xs=>f78 k xs.1 xs.2.1):=
 (AL (k:=k) (A:=A) (T:=T) (Y:=Y) (E:=E k) (M:=96) (ts:=ts) FL ⟨f129.ok k,trivial⟩ ⟨f129.E8,trivial⟩ mixed (f:=78) (fn:=Tryz.f78) (c:=aC) (by kernel_rfl) (by kernel_rfl) (by kernel_rfl) (by decide) (by kernel_rfl)).congr λ xs=>(eq k xs).symm
theorem E8:um Tryz.prog 78:=λ args w=>by kernel_rfl
end f78
namespace f130
noncomputable def aC:Code:=Tryz.f130.body.getD .skip
abbrev sig:List PT:=[(false,(.int .u64)),(false,(.int .u64))]
abbrev rs:List RT:=[.d false (.int .u64),.d false (.int .u64)]
abbrev ts:List RV:=[.tmp 4,.tmp 5]
abbrev S:=St->Option (eC rs)
def Y:dZ:=[]
noncomputable def E (k:Nat):Env:=[]
def A:oM:={}
def U:fF:=[]
noncomputable abbrev dr (k:Nat) (rc:List Nat) (G:Nat->S) (F:List PF):S:=λ σ=>ap T Y (E k) A k (zw T rs ts) (cD T Y (E k) A k (zw T rs ts) aC U rc G 9999 F) .nx σ
def ES (k:Nat) (a0 a1:Int):Option (Int×Int×Unit):=some (IntKind.u64.wrap ((IntKind.u64.wrap ((IntKind.u64.wrap ((a0.fdiv (2 ^ min (32:Int).toNat (IntKind.bits .u64))) * (a1.fdiv (2 ^ min (32:Int).toNat (IntKind.bits .u64)))))+((IntKind.u64.wrap ((IntKind.u64.wrap ((a0.fdiv (2 ^ min (32:Int).toNat (IntKind.bits .u64))) * (qj .and .u64 a1 4294967295)))+((IntKind.u64.wrap ((qj .and .u64 a0 4294967295) * (qj .and .u64 a1 4294967295))).fdiv (2 ^ min (32:Int).toNat (IntKind.bits .u64))))).fdiv (2 ^ min (32:Int).toNat (IntKind.bits .u64)))))+((IntKind.u64.wrap ((qj .and .u64 (IntKind.u64.wrap ((IntKind.u64.wrap ((a0.fdiv (2 ^ min (32:Int).toNat (IntKind.bits .u64))) * (qj .and .u64 a1 4294967295)))+((IntKind.u64.wrap ((qj .and .u64 a0 4294967295) * (qj .and .u64 a1 4294967295))).fdiv (2 ^ min (32:Int).toNat (IntKind.bits .u64))))) 4294967295)+(IntKind.u64.wrap ((qj .and .u64 a0 4294967295) * (a1.fdiv (2 ^ min (32:Int).toNat (IntKind.bits .u64))))))).fdiv (2 ^ min (32:Int).toNat (IntKind.bits .u64)))),IntKind.u64.wrap (a0 * a1),())
theorem EW (k:Nat) (G:Nat->S) (xs:DL sig):dr k [] G [.c 1 0] (uR 51 160 sig xs)=ES k xs.1 xs.2.1:=by kernel_rfl
end f130
def f130 (k:Nat) (a0 a1:Int):Option (Int×Int×Unit):=f130.ES k a0 a1
namespace f130
theorem eq (k:Nat) (xs:DL sig):den T Y (E k) A k aC 0 (uR 51 160 sig xs) (zw T rs ts)=f130 k xs.1 xs.2.1:=
 Eq.trans (Cg (R:=(λ _ _=>none)) (tb:=U)) ((EW k _ xs).trans (by kernel_rfl))
noncomputable def aN (k:Nat):jH:=⟨sig,rs,λ xs=>f130 k xs.1 xs.2.1⟩
theorem ok (k:Nat):cT Tryz.prog 130 sig rs (λ xs=>f130 k xs.1 xs.2.1):=
 (AL (k:=k) (A:=A) (T:=T) (Y:=Y) (E:=E k) (M:=160) (ts:=ts) FL trivial trivial mixed (f:=130) (fn:=Tryz.f130) (c:=aC) (by kernel_rfl) (by kernel_rfl) (by kernel_rfl) (by decide) (by kernel_rfl)).congr λ xs=>(eq k xs).symm
theorem E8:um Tryz.prog 130:=λ args w=>by kernel_rfl
end f130
namespace f79
noncomputable def aC:Code:=Tryz.f79.body.getD .skip
abbrev sig:List PT:=[(false,(.int .i64)),(false,(.int .i64))]
abbrev rs:List RT:=[.d true KE]
abbrev ts:List RV:=[.cell 4 121]
abbrev S:=St->Option (eC rs)
def Y:dZ:=[]
noncomputable def E (k:Nat):Env:=[(130,.c (f130.aN k))]
def A:oM:={ conds:=[(3,{ slots:=[(0,.id),(1,.id),(4,.id),(5,.id),(6,.id)],keys:=[(4,[])] }),(5,{ slots:=[(4,.id),(5,.id),(6,.id)],keys:=[(4,[])] })] }
def U:fF:=[(13,[.c 15 0]),(21,[.c 31 0])]
noncomputable abbrev k6 (k:Nat) (R:Nat->S) (q:Nat):S:=cx T Y (E k) A k (zw T rs ts) aC U R q
noncomputable abbrev ur (k:Nat) (rc:List Nat) (R:Nat->S):Nat->S:=ext T Y (E k) A k (zw T rs ts) aC U rc R
noncomputable abbrev dr (k:Nat) (rc:List Nat) (G:Nat->S) (F:List PF):S:=λ σ=>ap T Y (E k) A k (zw T rs ts) (cD T Y (E k) A k (zw T rs ts) aC U rc G 9999 F) .nx σ
def UI (x0 x1 gi mm:Int):St:=Dn 31 96 [(0,aI x0),(1,aI x1),(4,aP 4),(5,.cp (.one (.int .u64 gi))),(6,.cp (.one (.int .u64 mm)))] [(4,.box [cI 0,.int .u64 0])]
abbrev RP:=Int->Int->Int->Int->Option ((Int×Int)×Unit)
abbrev NL (R:S):RP:=(λ x0 x1 gi mm=>R (UI x0 x1 gi mm))
def UK (gi mm:Int):St:=Dn 31 96 [(4,aP 4),(5,.cp (.one (.int .u64 gi))),(6,.cp (.one (.int .u64 mm)))] [(4,.box [cI 0,.int .u64 0])]
abbrev RR:=Int->Int->Option ((Int×Int)×Unit)
abbrev NN (R:S):RR:=(λ gi mm=>R (UK gi mm))
def ES (k:Nat) (SS:RP) (a0 a1:Int):Option ((Int×Int)×Unit):=((f130 k (IntKind.u64.wrap (a0)) (IntKind.u64.wrap (a1))).bind λ r1=>(if a0 <0 then (SS a0 a1 (IntKind.u64.wrap (r1.1 - (IntKind.u64.wrap (a1)))) r1.2.1) else (SS a0 a1 r1.1 r1.2.1)))
def Pb (k:Nat) (SV:RR) (x0 x1 gi mm:Int):Option ((Int×Int)×Unit):=(if x1 <0 then (SV (IntKind.u64.wrap (gi - (IntKind.u64.wrap (x0)))) mm) else (SV gi mm))
def QO (k:Nat) (gi mm:Int):Option ((Int×Int)×Unit):=some ((AJ (gi),mm),())
theorem Ui (k:Nat) (G:Nat->S):NN (dr k [] G (U.at 21))=QO k:=by kernel_rfl
def c5 (k:Nat):RR:=QO k
theorem Uh (k:Nat) (R:Nat->S):NN (k6 k R 21)=c5 k:=
 Eq.trans (congrArg NN (Cd [] (by kernel_rfl))) ((Ui k _).trans (by kernel_rfl))
theorem Ue (k:Nat) (G:Nat->S):NL (dr k [] G (U.at 13))=Pb k (NN (G 21)):=by kernel_rfl
def c3 (k:Nat):RP:=Pb k (c5 k)
theorem Ud (k:Nat) (R:Nat->S):NL (k6 k R 13)=c3 k:=
 Eq.trans (congrArg NL (Cd [] (by kernel_rfl))) ((Ue k _).trans (Eq.trans (b:=Pb k (NN (k6 k R 21))) (by kernel_rfl) (by rw [Uh k R]<;>kernel_rfl)))
theorem EW (k:Nat) (G:Nat->S) (xs:DL sig):dr k [] G [.c 1 0] (uR 31 96 sig xs)=ES k (NL (G 13)) xs.1 xs.2.1:=by kernel_rfl
end f79
def f79 (k:Nat) (a0 a1:Int):Option ((Int×Int)×Unit):=f79.ES k (f79.c3 k) a0 a1
namespace f79
theorem eq (k:Nat) (xs:DL sig):den T Y (E k) A k aC 0 (uR 31 96 sig xs) (zw T rs ts)=f79 k xs.1 xs.2.1:=
 Eq.trans (Cg (R:=(λ _ _=>none)) (tb:=U)) ((EW k _ xs).trans (Eq.trans (b:=ES k (NL (k6 k (λ _ _=>none) 13)) xs.1 xs.2.1) (by kernel_rfl) (by rw [Ud k (λ _ _=>none)]<;>kernel_rfl)))
noncomputable def aN (k:Nat):jH:=⟨sig,rs,λ xs=>f79 k xs.1 xs.2.1⟩
theorem ok (k:Nat):cT Tryz.prog 79 sig rs (λ xs=>f79 k xs.1 xs.2.1):=
 (AL (k:=k) (A:=A) (T:=T) (Y:=Y) (E:=E k) (M:=96) (ts:=ts) FL ⟨f130.ok k,trivial⟩ ⟨f130.E8,trivial⟩ mixed (f:=79) (fn:=Tryz.f79) (c:=aC) (by kernel_rfl) (by kernel_rfl) (by kernel_rfl) (by decide) (by kernel_rfl)).congr λ xs=>(eq k xs).symm
theorem E8:um Tryz.prog 79:=λ args w=>by kernel_rfl
end f79
namespace f131
noncomputable def aC:Code:=Tryz.f131.body.getD .skip
abbrev sig:List PT:=[(true,KE),(true,KE)]
abbrev rs:List RT:=[.d false (.int .i64)]
abbrev ts:List RV:=[.tmp 4]
abbrev S:=St->Option (eC rs)
def Y:dZ:=[]
noncomputable def E (k:Nat):Env:=[]
def A:oM:={ qF:=[(3,{ slots:=[(9,.bool)] })],conds:=[(2,{ slots:=[] })] }
def U:fF:=[(15,[.c 103 0,.d 2,.b 0,.c 7 0]),(9,[.b 0,.c 7 0])]
noncomputable abbrev k6 (k:Nat) (R:Nat->S) (q:Nat):S:=cx T Y (E k) A k (zw T rs ts) aC U R q
noncomputable abbrev ur (k:Nat) (rc:List Nat) (R:Nat->S):Nat->S:=ext T Y (E k) A k (zw T rs ts) aC U rc R
noncomputable abbrev dr (k:Nat) (rc:List Nat) (G:Nat->S) (F:List PF):S:=λ σ=>ap T Y (E k) A k (zw T rs ts) (cD T Y (E k) A k (zw T rs ts) aC U rc G 9999 F) .nx σ
def RG (uf:Bool):St:=Dn 29 96 [(9,aB uf)] []
abbrev Lz:=Bool->Option (Int×Unit)
abbrev Jx (R:S):Lz:=(λ uf=>R (RG uf))
def RF  :St:=Dn 29 96 [] []
abbrev Lx:=Option (Int×Unit)
abbrev Jw (R:S):Lx:=(R (RF ))
def ES (k:Nat) (Mi:Lz) (a0 a1:(Int×Int)):Option (Int×Unit):=(if (a0.1=a1.1)/\(a0.2=a1.2) then some (0,()) else (if a0.1 <a1.1 then (Mi true) else (if a0.1=a1.1 then (Mi (decide (a0.2 <a1.2))) else (Mi false))))
def JB (k:Nat) (Ra:Lx) (uf:Bool):Option (Int×Unit):=(if uf=true then some ((-1),()) else Ra)
def KG (k:Nat)  :Option (Int×Unit):=some (1,())
theorem QM (k:Nat) (G:Nat->S):Jw (dr k [] G (U.at 9))=KG k:=by kernel_rfl
def c2 (k:Nat):Lx:=KG k
theorem QL (k:Nat) (R:Nat->S):Jw (k6 k R 9)=c2 k:=
 Eq.trans (congrArg Jw (Cd [] (by kernel_rfl))) ((QM k _).trans (by kernel_rfl))
theorem Rv (k:Nat) (G:Nat->S):Jx (dr k [] G (U.at 15))=JB k (Jw (G 9)):=by kernel_rfl
def r3 (k:Nat):Lz:=JB k (c2 k)
theorem Ru (k:Nat) (R:Nat->S):Jx (k6 k R 15)=r3 k:=
 Eq.trans (congrArg Jx (Cd [] (by kernel_rfl))) ((Rv k _).trans (Eq.trans (b:=JB k (Jw (k6 k R 9))) (by kernel_rfl) (by rw [QL k R]<;>kernel_rfl)))
theorem EW (k:Nat) (G:Nat->S) (xs:DL sig):dr k [] G [.c 1 0] (uR 29 96 sig xs)=ES k (Jx (G 15)) xs.1 xs.2.1:=by kernel_rfl
end f131
def f131 (k:Nat) (a0 a1:(Int×Int)):Option (Int×Unit):=f131.ES k (f131.r3 k) a0 a1
namespace f131
theorem eq (k:Nat) (xs:DL sig):den T Y (E k) A k aC 0 (uR 29 96 sig xs) (zw T rs ts)=f131 k xs.1 xs.2.1:=
 Eq.trans (Cg (R:=(λ _ _=>none)) (tb:=U)) ((EW k _ xs).trans (Eq.trans (b:=ES k (Jx (k6 k (λ _ _=>none) 15)) xs.1 xs.2.1) (by kernel_rfl) (by rw [Ru k (λ _ _=>none)]<;>kernel_rfl)))
noncomputable def aN (k:Nat):jH:=⟨sig,rs,λ xs=>f131 k xs.1 xs.2.1⟩
theorem ok (k:Nat):cT Tryz.prog 131 sig rs (λ xs=>f131 k xs.1 xs.2.1):=
 (AL (k:=k) (A:=A) (T:=T) (Y:=Y) (E:=E k) (M:=96) (ts:=ts) FL trivial trivial mixed (f:=131) (fn:=Tryz.f131) (c:=aC) (by kernel_rfl) (by kernel_rfl) (by kernel_rfl) (by decide) (by kernel_rfl)).congr λ xs=>(eq k xs).symm
theorem E8:um Tryz.prog 131:=λ args w=>by kernel_rfl
end f131
namespace f80
noncomputable def aC:Code:=Tryz.f80.body.getD .skip
abbrev sig:List PT:=[(true,KE)]
abbrev rs:List RT:=[.d false (.int .i64)]
abbrev ts:List RV:=[.tmp 2]
abbrev S:=St->Option (eC rs)
def Y:dZ:=[]
noncomputable def E (k:Nat):Env:=[(131,.c (f131.aN k))]
def A:oM:={}
def U:fF:=[]
noncomputable abbrev dr (k:Nat) (rc:List Nat) (G:Nat->S) (F:List PF):S:=λ σ=>ap T Y (E k) A k (zw T rs ts) (cD T Y (E k) A k (zw T rs ts) aC U rc G 9999 F) .nx σ
def ES (k:Nat) (a0:(Int×Int)):Option (Int×Unit):=((f131 k (a0.1,a0.2) (0,0)).bind λ r1=>some (r1.1,()))
theorem EW (k:Nat) (G:Nat->S) (xs:DL sig):dr k [] G [.c 1 0] (uR 6 32 sig xs)=ES k xs.1:=by kernel_rfl
end f80
def f80 (k:Nat) (a0:(Int×Int)):Option (Int×Unit):=f80.ES k a0
namespace f80
theorem eq (k:Nat) (xs:DL sig):den T Y (E k) A k aC 0 (uR 6 32 sig xs) (zw T rs ts)=f80 k xs.1:=
 Eq.trans (Cg (R:=(λ _ _=>none)) (tb:=U)) ((EW k _ xs).trans (by kernel_rfl))
noncomputable def aN (k:Nat):jH:=⟨sig,rs,λ xs=>f80 k xs.1⟩
theorem ok (k:Nat):cT Tryz.prog 80 sig rs (λ xs=>f80 k xs.1):=
 (AL (k:=k) (A:=A) (T:=T) (Y:=Y) (E:=E k) (M:=32) (ts:=ts) FL ⟨f131.ok k,trivial⟩ ⟨f131.E8,trivial⟩ mixed (f:=80) (fn:=Tryz.f80) (c:=aC) (by kernel_rfl) (by kernel_rfl) (by kernel_rfl) (by decide) (by kernel_rfl)).congr λ xs=>(eq k xs).symm
theorem E8:um Tryz.prog 80:=λ args w=>by kernel_rfl
end f80
namespace f38
noncomputable def aC:Code:=Tryz.f38.body.getD .skip
abbrev sig:List PT:=[(true,E5),(true,E5),(true,E5),(true,E5)]
abbrev rs:List RT:=[.d false (.int .i64)]
abbrev ts:List RV:=[.tmp 8]
abbrev S:=St->Option (eC rs)
def Y:dZ:=[(55,E5)]
noncomputable def E (k:Nat):Env:=[(77,.c (f77.aN k)),(78,.c (f78.aN k)),(79,.c (f79.aN k)),(80,.c (f80.aN k))]
def A:oM:={ loops:=[(0,{ slots:=[(7,.id),(9,.id),(10,.id),(11,.id),(21,.id),(22,.id),(23,.id)],keys:=[(7,[]),(9,[]),(10,[]),(11,[]),(21,[])] }),(2,{ slots:=[(9,.id),(10,.id),(11,.id),(14,.id),(61,.id)],keys:=[(9,[]),(10,[]),(11,[]),(14,[])] })] }
def U:fF:=[(0,[.c 116 0,.r 0,.b 0,.c 15 0]),(8,[.c 500 2,.r 2,.b 2,.c 63 0])]
noncomputable abbrev k6 (k:Nat) (R:Nat->S) (q:Nat):S:=cx T Y (E k) A k (zw T rs ts) aC U R q
noncomputable abbrev ur (k:Nat) (rc:List Nat) (R:Nat->S):Nat->S:=ext T Y (E k) A k (zw T rs ts) aC U rc R
noncomputable abbrev zv (k:Nat) (R:Nat->S) (i n:Nat):S:=lx T Y (E k) A k (zw T rs ts) aC U R i n
noncomputable abbrev dr (k:Nat) (rc:List Nat) (G:Nat->S) (F:List PF):S:=λ σ=>ap T Y (E k) A k (zw T rs ts) (cD T Y (E k) A k (zw T rs ts) aC U rc G 9999 F) .nx σ
def F4 (Fi G3 G4 GQ GR GS:Int) (Gk:Fa) (Fk Fl HB HC HD J6 E7:Int):St:=Dn 94 288 [(7,aP 7),(9,aP 9),(10,aP 10),(11,aP 11),(21,aO 21),(22,aI J6),(23,aI E7)] [(7,.box [cI Fk,cI Fl]),(9,.box [cI HB,cI HC,cI HD]),(10,.box [cI Fi,cI G3,cI G4]),(11,.box [cI GQ,cI GR,cI GS]),(21,.vec E5 Gk)]
abbrev E1:=Int->Int->Int->Int->Int->Int->Fa->Int->Int->Int->Int->Int->Int->Int->Option (Int×Unit)
abbrev EV (R:S):E1:=(λ Fi G3 G4 GQ GR GS Gk Fk Fl HB HC HD J6 E7=>R (F4 Fi G3 G4 GQ GR GS Gk Fk Fl HB HC HD J6 E7))
def HK (Fi G3 G4 GQ GR GS K9 La HB HC HD Ii:Int):St:=Dn 94 288 [(9,aP 9),(10,aP 10),(11,aP 11),(14,aP 14),(61,aI Ii)] [(9,.box [cI HB,cI HC,cI HD]),(10,.box [cI Fi,cI G3,cI G4]),(11,.box [cI GQ,cI GR,cI GS]),(14,.box [cI K9,.int .u64 La])]
abbrev FM:=Int->Int->Int->Int->Int->Int->Int->Int->Int->Int->Int->Int->Option (Int×Unit)
abbrev Fb (R:S):FM:=(λ Fi G3 G4 GQ GR GS K9 La HB HC HD Ii=>R (HK Fi G3 G4 GQ GR GS K9 La HB HC HD Ii))
def ES (k:Nat) (Fe:E1) (a0 a1 a2 a3:(Int×Int)):Option (Int×Unit):=(Fe 0 0 0 0 0 0 ([(a0.1,a0.2),(a1.1,a1.2),(a2.1,a2.2)]) a3.1 a3.2 0 0 0 (([(a0.1,a0.2),(a1.1,a1.2),(a2.1,a2.2)]).length:Int) 0)
def E0 (k:Nat) (Fe:E1) (Gd:FM) (Fi G3 G4 GQ GR GS:Int) (Gk:Fa) (Fk Fl HB HC HD J6 E7:Int):Option (Int×Unit):=(if E7 <J6 then (if 0<=E7 then (if E7 <(Gk.length:Int) then (if 0<=E7 then (if E7 <(3:Int) then (if 0<=E7 then (if E7 <(3:Int) then (if 0<=E7 then (if E7 <(3:Int) then (if 0<=E7 then (if E7 <(3:Int) then (if 0<=E7 then (if E7 <(3:Int) then (if 0<=E7 then (if E7 <(3:Int) then (if 0<=E7 then (if E7 <(3:Int) then (Fe (if (E7).toNat=0 then AJ (((Gk.getD ((E7).toNat) (0,0)).2) - Fl) else Fi) (if (E7).toNat=1 then AJ (((Gk.getD ((E7).toNat) (0,0)).2) - Fl) else G3) (if (E7).toNat=2 then AJ (((Gk.getD ((E7).toNat) (0,0)).2) - Fl) else G4) (if (E7).toNat=0 then AJ ((AJ ((([(if (E7).toNat=0 then AJ (((Gk.getD ((E7).toNat) (0,0)).1) - Fk) else HB),(if (E7).toNat=1 then AJ (((Gk.getD ((E7).toNat) (0,0)).1) - Fk) else HC),(if (E7).toNat=2 then AJ (((Gk.getD ((E7).toNat) (0,0)).1) - Fk) else HD)]:List Int).getD ((E7).toNat) 0) * (([(if (E7).toNat=0 then AJ (((Gk.getD ((E7).toNat) (0,0)).1) - Fk) else HB),(if (E7).toNat=1 then AJ (((Gk.getD ((E7).toNat) (0,0)).1) - Fk) else HC),(if (E7).toNat=2 then AJ (((Gk.getD ((E7).toNat) (0,0)).1) - Fk) else HD)]:List Int).getD ((E7).toNat) 0)))+(AJ ((([(if (E7).toNat=0 then AJ (((Gk.getD ((E7).toNat) (0,0)).2) - Fl) else Fi),(if (E7).toNat=1 then AJ (((Gk.getD ((E7).toNat) (0,0)).2) - Fl) else G3),(if (E7).toNat=2 then AJ (((Gk.getD ((E7).toNat) (0,0)).2) - Fl) else G4)]:List Int).getD ((E7).toNat) 0) * (([(if (E7).toNat=0 then AJ (((Gk.getD ((E7).toNat) (0,0)).2) - Fl) else Fi),(if (E7).toNat=1 then AJ (((Gk.getD ((E7).toNat) (0,0)).2) - Fl) else G3),(if (E7).toNat=2 then AJ (((Gk.getD ((E7).toNat) (0,0)).2) - Fl) else G4)]:List Int).getD ((E7).toNat) 0)))) else GQ) (if (E7).toNat=1 then AJ ((AJ ((([(if (E7).toNat=0 then AJ (((Gk.getD ((E7).toNat) (0,0)).1) - Fk) else HB),(if (E7).toNat=1 then AJ (((Gk.getD ((E7).toNat) (0,0)).1) - Fk) else HC),(if (E7).toNat=2 then AJ (((Gk.getD ((E7).toNat) (0,0)).1) - Fk) else HD)]:List Int).getD ((E7).toNat) 0) * (([(if (E7).toNat=0 then AJ (((Gk.getD ((E7).toNat) (0,0)).1) - Fk) else HB),(if (E7).toNat=1 then AJ (((Gk.getD ((E7).toNat) (0,0)).1) - Fk) else HC),(if (E7).toNat=2 then AJ (((Gk.getD ((E7).toNat) (0,0)).1) - Fk) else HD)]:List Int).getD ((E7).toNat) 0)))+(AJ ((([(if (E7).toNat=0 then AJ (((Gk.getD ((E7).toNat) (0,0)).2) - Fl) else Fi),(if (E7).toNat=1 then AJ (((Gk.getD ((E7).toNat) (0,0)).2) - Fl) else G3),(if (E7).toNat=2 then AJ (((Gk.getD ((E7).toNat) (0,0)).2) - Fl) else G4)]:List Int).getD ((E7).toNat) 0) * (([(if (E7).toNat=0 then AJ (((Gk.getD ((E7).toNat) (0,0)).2) - Fl) else Fi),(if (E7).toNat=1 then AJ (((Gk.getD ((E7).toNat) (0,0)).2) - Fl) else G3),(if (E7).toNat=2 then AJ (((Gk.getD ((E7).toNat) (0,0)).2) - Fl) else G4)]:List Int).getD ((E7).toNat) 0)))) else GR) (if (E7).toNat=2 then AJ ((AJ ((([(if (E7).toNat=0 then AJ (((Gk.getD ((E7).toNat) (0,0)).1) - Fk) else HB),(if (E7).toNat=1 then AJ (((Gk.getD ((E7).toNat) (0,0)).1) - Fk) else HC),(if (E7).toNat=2 then AJ (((Gk.getD ((E7).toNat) (0,0)).1) - Fk) else HD)]:List Int).getD ((E7).toNat) 0) * (([(if (E7).toNat=0 then AJ (((Gk.getD ((E7).toNat) (0,0)).1) - Fk) else HB),(if (E7).toNat=1 then AJ (((Gk.getD ((E7).toNat) (0,0)).1) - Fk) else HC),(if (E7).toNat=2 then AJ (((Gk.getD ((E7).toNat) (0,0)).1) - Fk) else HD)]:List Int).getD ((E7).toNat) 0)))+(AJ ((([(if (E7).toNat=0 then AJ (((Gk.getD ((E7).toNat) (0,0)).2) - Fl) else Fi),(if (E7).toNat=1 then AJ (((Gk.getD ((E7).toNat) (0,0)).2) - Fl) else G3),(if (E7).toNat=2 then AJ (((Gk.getD ((E7).toNat) (0,0)).2) - Fl) else G4)]:List Int).getD ((E7).toNat) 0) * (([(if (E7).toNat=0 then AJ (((Gk.getD ((E7).toNat) (0,0)).2) - Fl) else Fi),(if (E7).toNat=1 then AJ (((Gk.getD ((E7).toNat) (0,0)).2) - Fl) else G3),(if (E7).toNat=2 then AJ (((Gk.getD ((E7).toNat) (0,0)).2) - Fl) else G4)]:List Int).getD ((E7).toNat) 0)))) else GS) Gk Fk Fl (if (E7).toNat=0 then AJ (((Gk.getD ((E7).toNat) (0,0)).1) - Fk) else HB) (if (E7).toNat=1 then AJ (((Gk.getD ((E7).toNat) (0,0)).1) - Fk) else HC) (if (E7).toNat=2 then AJ (((Gk.getD ((E7).toNat) (0,0)).1) - Fk) else HD) J6 (AJ (E7+1))) else none) else none) else none) else none) else none) else none) else none) else none) else none) else none) else none) else none) else none) else none) else none) else none) else ((f77 k 0).bind λ r1=>(Gd Fi G3 G4 GQ GR GS r1.1.1 r1.1.2 HB HC HD 0)))
def FG (k:Nat) (Gd:FM) (Fi G3 G4 GQ GR GS K9 La HB HC HD Ii:Int):Option (Int×Unit):=(if Ii <3 then (if 0<=Ii then (if Ii <(3:Int) then (if 0<=((AJ (Ii+1)).tmod 3) then (if ((AJ (Ii+1)).tmod 3) <(3:Int) then (if 0<=((AJ (Ii+2)).tmod 3) then (if ((AJ (Ii+2)).tmod 3) <(3:Int) then (if 0<=((AJ (Ii+2)).tmod 3) then (if ((AJ (Ii+2)).tmod 3) <(3:Int) then (if 0<=((AJ (Ii+1)).tmod 3) then (if ((AJ (Ii+1)).tmod 3) <(3:Int) then ((f79 k (([GQ,GR,GS]:List Int).getD ((Ii).toNat) 0) (AJ ((AJ ((([HB,HC,HD]:List Int).getD ((((AJ (Ii+1)).tmod 3)).toNat) 0) * (([Fi,G3,G4]:List Int).getD ((((AJ (Ii+2)).tmod 3)).toNat) 0))) - (AJ ((([HB,HC,HD]:List Int).getD ((((AJ (Ii+2)).tmod 3)).toNat) 0) * (([Fi,G3,G4]:List Int).getD ((((AJ (Ii+1)).tmod 3)).toNat) 0)))))).bind λ r1=>((f78 k (K9,La) (r1.1.1,r1.1.2)).bind λ r2=>(Gd Fi G3 G4 GQ GR GS r2.1.1 r2.1.2 HB HC HD (AJ (Ii+1))))) else none) else none) else none) else none) else none) else none) else none) else none) else none) else none) else ((f80 k (K9,La)).bind λ r3=>some (r3.1,())))
theorem HH (k:Nat) (G:Nat->S):Fb (dr k [8] G (U.at 8))=FG k (Fb (G 8)):=by kernel_rfl
def l2 (k:Nat):Nat->FM
 | 0=>λ _ _ _ _ _ _ _ _ _ _ _ _=>none
 |n+1=>FG k (l2 k n)
noncomputable abbrev F5 (k:Nat) (R:Nat->S) (n:Nat):Nat->S:=up R 8 (zv k R 2 n)
theorem GL (k:Nat) (R:Nat->S):∀n,Fb (zv k R 2 n)=l2 k n
 | 0=>by kernel_rfl
 |n+1=>
  Eq.trans (congrArg Fb (CS [] (by kernel_rfl))) ((HH k _).trans (Eq.trans (b:=FG k (Fb ((F5 k R n) 8))) (by kernel_rfl) (by rw [(show Fb (F5 k R n 8)=_ from GL k R n)]<;>kernel_rfl)))
theorem F3 (k:Nat) (G:Nat->S):EV (dr k [0] G (U.at 0))=E0 k (EV (G 0)) (Fb (G 8)):=by kernel_rfl
def l0 (k:Nat):Nat->E1
 | 0=>λ _ _ _ _ _ _ _ _ _ _ _ _ _ _=>none
 |n+1=>E0 k (l0 k n) (l2 k k)
noncomputable abbrev Fh (k:Nat) (R:Nat->S) (n:Nat):Nat->S:=up R 0 (zv k R 0 n)
theorem FA (k:Nat) (R:Nat->S):∀n,EV (zv k R 0 n)=l0 k n
 | 0=>by kernel_rfl
 |n+1=>
  Eq.trans (congrArg EV (CS [] (by kernel_rfl))) ((F3 k _).trans (Eq.trans (b:=E0 k (EV ((Fh k R n) 0)) (Fb (zv k (Fh k R n) 2 k))) (by kernel_rfl) (by rw [GL k (Fh k R n) k,(show EV (Fh k R n 0)=_ from FA k R n)]<;>kernel_rfl)))
theorem EW (k:Nat) (G:Nat->S) (xs:DL sig):dr k [] G [.c 1 0] (uR 94 288 sig xs)=ES k (EV (G 0)) xs.1 xs.2.1 xs.2.2.1 xs.2.2.2.1:=by kernel_rfl
end f38
def f38 (k:Nat) (a0 a1 a2 a3:(Int×Int)):Option (Int×Unit):=f38.ES k (f38.l0 k k) a0 a1 a2 a3
namespace f38
theorem eq (k:Nat) (xs:DL sig):den T Y (E k) A k aC 0 (uR 94 288 sig xs) (zw T rs ts)=f38 k xs.1 xs.2.1 xs.2.2.1 xs.2.2.2.1:=
 Eq.trans (Cg (R:=(λ _ _=>none)) (tb:=U)) ((EW k _ xs).trans (Eq.trans (b:=ES k (EV (zv k (λ _ _=>none) 0 k)) xs.1 xs.2.1 xs.2.2.1 xs.2.2.2.1) (by kernel_rfl) (by rw [FA k (λ _ _=>none) k]<;>kernel_rfl)))
noncomputable def aN (k:Nat):jH:=⟨sig,rs,λ xs=>f38 k xs.1 xs.2.1 xs.2.2.1 xs.2.2.2.1⟩
theorem ok (k:Nat):cT Tryz.prog 38 sig rs (λ xs=>f38 k xs.1 xs.2.1 xs.2.2.1 xs.2.2.2.1):=
 (AL (k:=k) (A:=A) (T:=T) (Y:=Y) (E:=E k) (M:=288) (ts:=ts) FL ⟨f77.ok k,f78.ok k,f79.ok k,f80.ok k,trivial⟩ ⟨f77.E8,f78.E8,f79.E8,f80.E8,trivial⟩ mixed (f:=38) (fn:=Tryz.f38) (c:=aC) (by kernel_rfl) (by kernel_rfl) (by kernel_rfl) (by decide) (by kernel_rfl)).congr λ xs=>(eq k xs).symm
theorem E8:um Tryz.prog 38:=λ args w=>by kernel_rfl
end f38
namespace f72
noncomputable def aC:Code:=Tryz.f72.body.getD .skip
abbrev sig:List PT:=[(false,LF),(false,(.int .i64)),(false,(.int .i64)),(false,(.int .i64)),(false,(.int .i64))]
abbrev rs:List RT:=[.d false .bool]
abbrev ts:List RV:=[.tmp 10]
abbrev S:=St->Option (eC rs)
def Y:dZ:=[]
noncomputable def E (k:Nat):Env:=[(38,.c (f38.aN k))]
def A:oM:={}
def U:fF:=[]
noncomputable abbrev dr (k:Nat) (rc:List Nat) (G:Nat->S) (F:List PF):S:=λ σ=>ap T Y (E k) A k (zw T rs ts) (cD T Y (E k) A k (zw T rs ts) aC U rc G 9999 F) .nx σ
def ES (k:Nat) (a0:Iu) (a1 a2 a3 a4:Int):Option (Bool×Unit):=(if 0<=a1 then (if a1 <(a0.length:Int) then (if 0<=a2 then (if a2 <(a0.length:Int) then (if 0<=a3 then (if a3 <(a0.length:Int) then (if 0<=a4 then (if a4 <(a0.length:Int) then ((f38 k ((a0.getD (a1).toNat (0,0)).1,(a0.getD (a1).toNat (0,0)).2) ((a0.getD (a2).toNat (0,0)).1,(a0.getD (a2).toNat (0,0)).2) ((a0.getD (a3).toNat (0,0)).1,(a0.getD (a3).toNat (0,0)).2) ((a0.getD (a4).toNat (0,0)).1,(a0.getD (a4).toNat (0,0)).2)).bind λ r1=>(if r1.1=1 then some (true,()) else (if r1.1=0 then some (decide ((uJ false a3 a4) <(uJ false a1 a2)),()) else some (false,())))) else none) else none) else none) else none) else none) else none) else none) else none)
theorem EW (k:Nat) (G:Nat->S) (xs:DL sig):dr k [] G [.c 1 0] (uR 39 128 sig xs)=ES k xs.1 xs.2.1 xs.2.2.1 xs.2.2.2.1 xs.2.2.2.2.1:=by kernel_rfl
end f72
def f72 (k:Nat) (a0:Iu) (a1 a2 a3 a4:Int):Option (Bool×Unit):=f72.ES k a0 a1 a2 a3 a4
namespace f72
theorem eq (k:Nat) (xs:DL sig):den T Y (E k) A k aC 0 (uR 39 128 sig xs) (zw T rs ts)=f72 k xs.1 xs.2.1 xs.2.2.1 xs.2.2.2.1 xs.2.2.2.2.1:=
 Eq.trans (Cg (R:=(λ _ _=>none)) (tb:=U)) ((EW k _ xs).trans (by kernel_rfl))
noncomputable def aN (k:Nat):jH:=⟨sig,rs,λ xs=>f72 k xs.1 xs.2.1 xs.2.2.1 xs.2.2.2.1 xs.2.2.2.2.1⟩
theorem ok (k:Nat):cT Tryz.prog 72 sig rs (λ xs=>f72 k xs.1 xs.2.1 xs.2.2.1 xs.2.2.2.1 xs.2.2.2.2.1):=
 (AL (k:=k) (A:=A) (T:=T) (Y:=Y) (E:=E k) (M:=128) (ts:=ts) FL ⟨f38.ok k,trivial⟩ ⟨f38.E8,trivial⟩ mixed (f:=72) (fn:=Tryz.f72) (c:=aC) (by kernel_rfl) (by kernel_rfl) (by kernel_rfl) (by decide) (by kernel_rfl)).congr λ xs=>(eq k xs).symm
theorem E8:um Tryz.prog 72:=λ args w=>by kernel_rfl
end f72
namespace f27
noncomputable def aC:Code:=Tryz.f27.body.getD .skip
abbrev sig:List PT:=[(true,PV)]
abbrev rs:List RT:=[.d false (.int .i64)]
abbrev ts:List RV:=[.tmp 2]
abbrev S:=St->Option (eC rs)
def Y:dZ:=[]
noncomputable def E (k:Nat):Env:=[(26,.c (f26.aN k)),(69,.c (f69.aN k)),(72,.c (f72.aN k))]
def A:oM:={ loops:=[(0,{ slots:=[(1,.id),(4,.id),(18,.id)],keys:=[(1,[.val false E5,.val false Fp]),(16,[]),(18,[])] })],qF:=[(9,{ slots:=[(1,.id),(4,.id),(18,.id),(45,.bool)],keys:=[(1,[.val false E5,.val false Fp]),(16,[]),(18,[])] })] }
def U:fF:=[(0,[.c 244 0,.r 0,.b 0,.c 31 0]),(39,[.c 15671 1,.b 1,.r 0,.b 0,.c 31 0])]
noncomputable abbrev k6 (k:Nat) (R:Nat->S) (q:Nat):S:=cx T Y (E k) A k (zw T rs ts) aC U R q
noncomputable abbrev ur (k:Nat) (rc:List Nat) (R:Nat->S):Nat->S:=ext T Y (E k) A k (zw T rs ts) aC U rc R
noncomputable abbrev zv (k:Nat) (R:Nat->S) (i n:Nat):S:=lx T Y (E k) A k (zw T rs ts) aC U R i n
noncomputable abbrev dr (k:Nat) (rc:List Nat) (G:Nat->S) (F:List PF):S:=λ σ=>ap T Y (E k) A k (zw T rs ts) (cD T Y (E k) A k (zw T rs ts) aC U rc G 9999 F) .nx σ
def F4 (Fj:Fa) (Fw:Ft) (JT:FW) (HQ:(Option ((Int×Int)×Int))) (Ho:FW):St:=Dn 46 144 [(1,aP 1),(4,.cp (.one (.mp 16))),(18,aP 18)] [(1,.box [cV E5 Fj,cV Fp Fw]),(16,.map E5 (.int .i64) JT (some (18,Ho,HQ))),(18,.tok 16)]
abbrev E1:=Fa->Ft->FW->(Option ((Int×Int)×Int))->FW->Option (Int×Unit)
abbrev EV (R:S):E1:=(λ Fj Fw JT HQ Ho=>R (F4 Fj Fw JT HQ Ho))
def RI (Fj:Fa) (Fw:Ft) (JT:FW) (HQ:((Int×Int)×Int)) (Ho:FW) (QD:Bool):St:=Dn 46 144 [(1,aP 1),(4,.cp (.one (.mp 16))),(18,aP 18),(45,aB QD)] [(1,.box [cV E5 Fj,cV Fp Fw]),(16,.map E5 (.int .i64) JT (some (18,Ho,(some HQ)))),(18,.tok 16)]
abbrev LB:=Fa->Ft->FW->((Int×Int)×Int)->FW->Bool->Option (Int×Unit)
abbrev Jz (R:S):LB:=(λ Fj Fw JT HQ Ho QD=>R (RI Fj Fw JT HQ Ho QD))
def ES (k:Nat) (Fe:E1) (a0:KB):Option (Int×Unit):=((f26 k (a0.1,a0.2)).bind λ r1=>(if ¬(r1.1=0) then some (r1.1,()) else ((f69 k a0.2).bind λ r2=>(Fe a0.1 a0.2 r2.1.1 none r2.1.1))))
def E0 (k:Nat) (Ns:LB) (Fj:Fa) (Fw:Ft) (JT:FW) (HQ:(Option ((Int×Int)×Int))) (Ho:FW):Option (Int×Unit):=(p7 Ho (some (0,())) (λ GZ Ji=>(if (dA (kB (.pair (.int .i64) (.int .i64))) JT (GZ.1.2,GZ.1.1)).isSome=true then ((f72 k Fj GZ.1.1 GZ.1.2 GZ.2 ((dA (kB (.pair (.int .i64) (.int .i64))) JT (GZ.1.2,GZ.1.1)).getD 0)).bind λ r2=>(Ns Fj Fw JT GZ Ji (decide (r2.1=true)))) else (Ns Fj Fw JT GZ Ji false))))
def Km (k:Nat) (Fe:E1) (Fj:Fa) (Fw:Ft) (JT:FW) (HQ:((Int×Int)×Int)) (Ho:FW) (QD:Bool):Option (Int×Unit):=(if QD=true then some (3,()) else (Fe Fj Fw JT (some HQ) Ho))
theorem RC (k:Nat) (G:Nat->S):Jz (dr k [0] G (U.at 39))=Km k (EV (G 0)):=by kernel_rfl
def r9 (k:Nat) (F9:E1):LB:=Km k F9
theorem RB (k:Nat) (R:Nat->S):Jz (k6 k R 39)=r9 k (EV (R 0)):=
 Eq.trans (congrArg Jz (Cd [0] (by kernel_rfl))) ((RC k _).trans (by kernel_rfl))
theorem F3 (k:Nat) (G:Nat->S):EV (dr k [0] G (U.at 0))=E0 k (Jz (G 39)):=by kernel_rfl
def l0 (k:Nat):Nat->E1
 | 0=>λ _ _ _ _ _=>none
 |n+1=>E0 k (r9 k (l0 k n))
noncomputable abbrev Fh (k:Nat) (R:Nat->S) (n:Nat):Nat->S:=up R 0 (zv k R 0 n)
theorem FA (k:Nat) (R:Nat->S):∀n,EV (zv k R 0 n)=l0 k n
 | 0=>by kernel_rfl
 |n+1=>
  Eq.trans (congrArg EV (CS [] (by kernel_rfl))) ((F3 k _).trans (Eq.trans (b:=E0 k (Jz (k6 k (Fh k R n) 39))) (by kernel_rfl) (by rw [RB k (Fh k R n),(show EV (Fh k R n 0)=_ from FA k R n)]<;>kernel_rfl)))
theorem EW (k:Nat) (G:Nat->S) (xs:DL sig):dr k [] G [.c 1 0] (uR 46 144 sig xs)=ES k (EV (G 0)) xs.1:=by kernel_rfl
end f27
def f27 (k:Nat) (a0:KB):Option (Int×Unit):=f27.ES k (f27.l0 k k) a0
namespace f27
theorem eq (k:Nat) (xs:DL sig):den T Y (E k) A k aC 0 (uR 46 144 sig xs) (zw T rs ts)=f27 k xs.1:=
 Eq.trans (Cg (R:=(λ _ _=>none)) (tb:=U)) ((EW k _ xs).trans (Eq.trans (b:=ES k (EV (zv k (λ _ _=>none) 0 k)) xs.1) (by kernel_rfl) (by rw [FA k (λ _ _=>none) k]<;>kernel_rfl)))
noncomputable def aN (k:Nat):jH:=⟨sig,rs,λ xs=>f27 k xs.1⟩
theorem ok (k:Nat):cT Tryz.prog 27 sig rs (λ xs=>f27 k xs.1):=
 (AL (k:=k) (A:=A) (T:=T) (Y:=Y) (E:=E k) (M:=144) (ts:=ts) FL ⟨f26.ok k,f69.ok k,f72.ok k,trivial⟩ ⟨f26.E8,f69.E8,f72.E8,trivial⟩ mixed (f:=27) (fn:=Tryz.f27) (c:=aC) (by kernel_rfl) (by kernel_rfl) (by kernel_rfl) (by decide) (by kernel_rfl)).congr λ xs=>(eq k xs).symm
theorem E8:um Tryz.prog 27:=λ args w=>by kernel_rfl
end f27
namespace f34
noncomputable def aC:Code:=Tryz.f34.body.getD .skip
abbrev sig:List PT:=[(false,LG),(false,LG)]
abbrev rs:List RT:=[.d false .bool]
abbrev ts:List RV:=[.tmp 4]
abbrev S:=St->Option (eC rs)
def Y:dZ:=[]
noncomputable def E (k:Nat):Env:=[]
def A:oM:={ loops:=[(0,{ slots:=[(0,.val false Fp),(1,.val false Fp),(12,.id),(13,.id)] })] }
def U:fF:=[(0,[.c 116 0,.r 0,.b 0,.c 15 0])]
noncomputable abbrev k6 (k:Nat) (R:Nat->S) (q:Nat):S:=cx T Y (E k) A k (zw T rs ts) aC U R q
noncomputable abbrev ur (k:Nat) (rc:List Nat) (R:Nat->S):Nat->S:=ext T Y (E k) A k (zw T rs ts) aC U rc R
noncomputable abbrev zv (k:Nat) (R:Nat->S) (i n:Nat):S:=lx T Y (E k) A k (zw T rs ts) aC U R i n
noncomputable abbrev dr (k:Nat) (rc:List Nat) (G:Nat->S) (F:List PF):S:=λ σ=>ap T Y (E k) A k (zw T rs ts) (cD T Y (E k) A k (zw T rs ts) aC U rc G 9999 F) .nx σ
def F4 (x0 x1:Ft) (Fq He:Int):St:=Dn 26 80 [(0,aV Fp x0),(1,aV Fp x1),(12,aI Fq),(13,aI He)] []
abbrev E1:=Ft->Ft->Int->Int->Option (Bool×Unit)
abbrev EV (R:S):E1:=(λ x0 x1 Fq He=>R (F4 x0 x1 Fq He))
def ES (k:Nat) (Fe:E1) (a0 a1:(List FI)):Option (Bool×Unit):=(if ¬((a0.length:Int)=(a1.length:Int)) then some (false,()) else (Fe a0 a1 (a0.length:Int) 0))
def E0 (k:Nat) (Fe:E1) (x0 x1:Ft) (Fq He:Int):Option (Bool×Unit):=(if He <Fq then (if 0<=He then (if He <(x0.length:Int) then (if 0<=He then (if He <(x1.length:Int) then (if ¬((((x0.getD (He).toNat (0,(0,0))).1)=((x1.getD (He).toNat (0,(0,0))).1))/\((((x0.getD (He).toNat (0,(0,0))).2).1)=(((x1.getD (He).toNat (0,(0,0))).2).1))/\((((x0.getD (He).toNat (0,(0,0))).2).2)=(((x1.getD (He).toNat (0,(0,0))).2).2))) then some (false,()) else (Fe x0 x1 Fq (AJ (He+1)))) else none) else none) else none) else none) else some (true,()))
theorem F3 (k:Nat) (G:Nat->S):EV (dr k [0] G (U.at 0))=E0 k (EV (G 0)):=by kernel_rfl
def l0 (k:Nat):Nat->E1
 | 0=>λ _ _ _ _=>none
 |n+1=>E0 k (l0 k n)
noncomputable abbrev Fh (k:Nat) (R:Nat->S) (n:Nat):Nat->S:=up R 0 (zv k R 0 n)
theorem FA (k:Nat) (R:Nat->S):∀n,EV (zv k R 0 n)=l0 k n
 | 0=>by kernel_rfl
 |n+1=>
  Eq.trans (congrArg EV (CS [] (by kernel_rfl))) ((F3 k _).trans (Eq.trans (b:=E0 k (EV ((Fh k R n) 0))) (by kernel_rfl) (by rw [(show EV (Fh k R n 0)=_ from FA k R n)]<;>kernel_rfl)))
theorem EW (k:Nat) (G:Nat->S) (xs:DL sig):dr k [] G [.c 1 0] (uR 26 80 sig xs)=ES k (EV (G 0)) xs.1 xs.2.1:=by kernel_rfl
end f34
def f34 (k:Nat) (a0 a1:(List FI)):Option (Bool×Unit):=f34.ES k (f34.l0 k k) a0 a1
namespace f34
theorem eq (k:Nat) (xs:DL sig):den T Y (E k) A k aC 0 (uR 26 80 sig xs) (zw T rs ts)=f34 k xs.1 xs.2.1:=
 Eq.trans (Cg (R:=(λ _ _=>none)) (tb:=U)) ((EW k _ xs).trans (Eq.trans (b:=ES k (EV (zv k (λ _ _=>none) 0 k)) xs.1 xs.2.1) (by kernel_rfl) (by rw [FA k (λ _ _=>none) k]<;>kernel_rfl)))
noncomputable def aN (k:Nat):jH:=⟨sig,rs,λ xs=>f34 k xs.1 xs.2.1⟩
theorem ok (k:Nat):cT Tryz.prog 34 sig rs (λ xs=>f34 k xs.1 xs.2.1):=
 (AL (k:=k) (A:=A) (T:=T) (Y:=Y) (E:=E k) (M:=80) (ts:=ts) FL trivial trivial mixed (f:=34) (fn:=Tryz.f34) (c:=aC) (by kernel_rfl) (by kernel_rfl) (by kernel_rfl) (by decide) (by kernel_rfl)).congr λ xs=>(eq k xs).symm
theorem E8:um Tryz.prog 34:=λ args w=>by kernel_rfl
end f34
namespace f62
noncomputable def aC:Code:=Tryz.f62.body.getD .skip
abbrev sig:List PT:=[]
abbrev rs:List RT:=[.d true PV]
abbrev ts:List RV:=[.cell 0 25]
abbrev S:=St->Option (eC rs)
def Y:dZ:=[(55,E5),(56,Fp)]
noncomputable def E (k:Nat):Env:=[]
def A:oM:={}
def U:fF:=[]
noncomputable abbrev dr (k:Nat) (rc:List Nat) (G:Nat->S) (F:List PF):S:=λ σ=>ap T Y (E k) A k (zw T rs ts) (cD T Y (E k) A k (zw T rs ts) aC U rc G 9999 F) .nx σ
def ES (k:Nat)  :Option (KB×Unit):=some (([(0,0),(0,2),(2,0)],[(0,(2,1))]),())
theorem EW (k:Nat) (G:Nat->S) (xs:DL sig):dr k [] G [.c 1 0] (uR 8 32 sig xs)=ES k  :=by kernel_rfl
end f62
def f62 (k:Nat)  :Option (KB×Unit):=f62.ES k
namespace f62
theorem eq (k:Nat) (xs:DL sig):den T Y (E k) A k aC 0 (uR 8 32 sig xs) (zw T rs ts)=f62 k  :=
 Eq.trans (Cg (R:=(λ _ _=>none)) (tb:=U)) ((EW k _ xs).trans (by kernel_rfl))
noncomputable def aN (k:Nat):jH:=⟨sig,rs,λ xs=>f62 k ⟩
theorem ok (k:Nat):cT Tryz.prog 62 sig rs (λ xs=>f62 k ):=
 (AL (k:=k) (A:=A) (T:=T) (Y:=Y) (E:=E k) (M:=32) (ts:=ts) FL trivial trivial mixed (f:=62) (fn:=Tryz.f62) (c:=aC) (by kernel_rfl) (by kernel_rfl) (by kernel_rfl) (by decide) (by kernel_rfl)).congr λ xs=>(eq k xs).symm
theorem E8:um Tryz.prog 62:=λ args w=>by kernel_rfl
end f62
namespace f133
noncomputable def aC:Code:=Tryz.f133.body.getD .skip
abbrev sig:List PT:=[(false,Ua)]
abbrev rs:List RT:=[.new E5]
abbrev ts:List RV:=[.tmp 2]
abbrev S:=St->Option (eC rs)
def Y:dZ:=[(55,E5)]
noncomputable def E (k:Nat):Env:=[]
def A:oM:={}
def U:fF:=[]
noncomputable abbrev dr (k:Nat) (rc:List Nat) (G:Nat->S) (F:List PF):S:=λ σ=>ap T Y (E k) A k (zw T rs ts) (cD T Y (E k) A k (zw T rs ts) aC U rc G 9999 F) .nx σ
def ES (k:Nat) (a0:SH):Option (Fa×Unit):=(if td a0=true then some ([],()) else (if (([]:List (Int×Int)).length+(bX true a0).length) * 16<=140737488355328 then some ((([]:List (Int×Int))++(bX true a0)),()) else none))
theorem EW (k:Nat) (G:Nat->S) (xs:DL sig):dr k [] G [.c 1 0] (uR 8 32 sig xs)=ES k xs.1:=by kernel_rfl
end f133
def f133 (k:Nat) (a0:SH):Option (Fa×Unit):=f133.ES k a0
namespace f133
theorem eq (k:Nat) (xs:DL sig):den T Y (E k) A k aC 0 (uR 8 32 sig xs) (zw T rs ts)=f133 k xs.1:=
 Eq.trans (Cg (R:=(λ _ _=>none)) (tb:=U)) ((EW k _ xs).trans (by kernel_rfl))
noncomputable def aN (k:Nat):jH:=⟨sig,rs,λ xs=>f133 k xs.1⟩
theorem ok (k:Nat):cT Tryz.prog 133 sig rs (λ xs=>f133 k xs.1):=
 (AL (k:=k) (A:=A) (T:=T) (Y:=Y) (E:=E k) (M:=32) (ts:=ts) FL trivial trivial mixed (f:=133) (fn:=Tryz.f133) (c:=aC) (by kernel_rfl) (by kernel_rfl) (by kernel_rfl) (by decide) (by kernel_rfl)).congr λ xs=>(eq k xs).symm
theorem E8:um Tryz.prog 133:=λ args w=>by kernel_rfl
end f133
def f133u (k:Nat) (a0:List (Int×Int)):Option (List (Int×Int)×Unit):=mX (f133 k) a0
noncomputable def f133u_con (k:Nat):jH:=⟨[(false,.sl false E5)],f133.rs,λ xs=>f133u k xs.1⟩
theorem f133u_ok (k:Nat):cT Tryz.prog 133 [(false,.sl false E5)] f133.rs (λ xs=>f133u k xs.1):=(f133.ok k).mX
theorem f133u_ent:um Tryz.prog 133:=f133.E8
namespace f134
abbrev sig:List PT:=[(false,.fn 117)]
abbrev rs:List RT:=[]
abbrev ls:List LO:=[.row E5]
end f134
def f134 (k:Nat) (a:Fa) (a0:Unit):Option ((Fa×Unit)×Unit):=qe (e:=E5) (λ x y=>f117 k x y) a
namespace f134
noncomputable def aN (k:Nat):kI:=⟨0,true,ls,sig,rs,λ x xs=>f134 k x.1 xs.1⟩
theorem ok (k:Nat):gV Tryz.prog 134 0 true ls sig rs (λ x xs=>f134 k x.1 xs.1):=By (e:=E5) (f:=λ x y=>f117 k x y) Tryz.Ri rfl (λ w=>by kernel_rfl) (λ w=>by kernel_rfl) (f117.ok k) f117.E8
theorem E8:um Tryz.prog 134:=λ args w=>by kernel_rfl
end f134
namespace f135
noncomputable def aC:Code:=Tryz.f135.body.getD .skip
abbrev sig:List PT:=[]
abbrev rs:List RT:=[]
abbrev ts:List RV:=[.tmp 2]
abbrev ls:List LO:=[.row E5]
abbrev S:=St->Option (cv ls×eC rs)
def Y:dZ:=[(1000059,E5)]
noncomputable def E (k:Nat):Env:=[]
def A:oM:={ loops:=[(0,{ slots:=[(0,.id),(3,.id)],keys:=[(0,[])] }),(2,{ slots:=[(0,.id),(3,.id),(4,.id),(5,.id)],keys:=[(0,[])] })],conds:=[(7,{ slots:=[(0,.id),(3,.id)],keys:=[(0,[])] }),(12,{ slots:=[(0,.id),(3,.id),(4,.id),(5,.id)],keys:=[(0,[])] })] }
def U:fF:=[(0,[.c 116 0,.r 0,.b 0,.c 15 0]),(8,[.c 119380 2,.r 2,.b 2,.c 14923 1,.d 7,.b 1,.c 467 0,.r 0,.b 0,.c 15 0]),(29,[.b 1,.c 467 0,.r 0,.b 0,.c 15 0]),(49,[.b 3,.c 477523 2,.r 2,.b 2,.c 14923 1,.d 7,.b 1,.c 467 0,.r 0,.b 0,.c 15 0])]
noncomputable abbrev k6 (k:Nat) (R:Nat->S) (q:Nat):S:=cx T Y (E k) A k (yF T 0 false ls rs ts) aC U R q
noncomputable abbrev ur (k:Nat) (rc:List Nat) (R:Nat->S):Nat->S:=ext T Y (E k) A k (yF T 0 false ls rs ts) aC U rc R
noncomputable abbrev zv (k:Nat) (R:Nat->S) (i n:Nat):S:=lx T Y (E k) A k (yF T 0 false ls rs ts) aC U R i n
noncomputable abbrev dr (k:Nat) (rc:List Nat) (G:Nat->S) (F:List PF):S:=λ σ=>ap T Y (E k) A k (yF T 0 false ls rs ts) (cD T Y (E k) A k (yF T 0 false ls rs ts) aC U rc G 9999 F) .nx σ
def F4 (y0:Fa) (e9:Int):St:=Dn 61 192 [(0,aO 0),(3,aI e9)] [(0,.vec E5 y0)]
abbrev E1:=Fa->Int->Option ((Fa×Unit)×(Unit))
abbrev EV (R:S):E1:=(λ y0 e9=>R (F4 y0 e9))
def HK (y0:Fa) (e9:Int) (Hq Ig:Nat) (gi:Int):St:=Dn 61 192 [(0,aO 0),(3,aI e9),(4,.cp (.one (.part 0 2 Hq Ig))),(5,aI gi)] [(0,.vec E5 y0)]
abbrev FM:=Fa->Int->Nat->Nat->Int->Option ((Fa×Unit)×(Unit))
abbrev Fb (R:S):FM:=(λ y0 e9 Hq Ig gi=>R (HK y0 e9 Hq Ig gi))
def UM (y0:Fa) (e9:Int):St:=Dn 61 192 [(0,aO 0),(3,aI e9)] [(0,.vec E5 y0)]
abbrev RU:=Fa->Int->Option ((Fa×Unit)×(Unit))
abbrev NP (R:S):RU:=(λ y0 e9=>R (UM y0 e9))
def TH (y0:Fa) (e9:Int) (Hq Ig:Nat) (gi:Int):St:=Dn 61 192 [(0,aO 0),(3,aI e9),(4,.cp (.one (.part 0 2 Hq Ig))),(5,aI gi)] [(0,.vec E5 y0)]
abbrev PJ:=Fa->Int->Nat->Nat->Int->Option ((Fa×Unit)×(Unit))
abbrev LW (R:S):PJ:=(λ y0 e9 Hq Ig gi=>R (TH y0 e9 Hq Ig gi))
def ES (k:Nat) (Fe:E1) (a:Iu):Option ((Fa×Unit)×(Unit)):=(if (a.length:Int) <2 then some ((a,()),(())) else (Fe a 1))
def E0 (k:Nat) (Gd:FM) (Up:RU) (y0:Fa) (e9:Int):Option ((Fa×Unit)×(Unit)):=(if e9 <(y0.length:Int) then (if 0<=e9 then (if e9 <(y0.length:Int) then (if 0<=(AJ (e9 - 1)) then (if (AJ (e9 - 1)) <(y0.length:Int) then (if (((y0.getD ((e9).toNat) (0,0)).1)=((y0.getD ((AJ (e9 - 1)).toNat) (0,0)).1))/\(((y0.getD ((e9).toNat) (0,0)).2)=((y0.getD ((AJ (e9 - 1)).toNat) (0,0)).2)) then (if 0<=e9 then (if e9<=(y0.length:Int) then (Gd y0 e9 ((e9).toNat) ((y0.length:Int).toNat - (e9).toNat) 1) else none) else none) else (Up y0 e9)) else none) else none) else none) else none) else some ((y0,()),(())))
def FG (k:Nat) (R8:PJ) (y0:Fa) (e9:Int) (Hq Ig:Nat) (gi:Int):Option ((Fa×Unit)×(Unit)):=(if gi <(Ig:Int) then (if 0<=gi then (if gi <(Ig:Int) then (if 0<=(AJ (gi - 1)) then (if (AJ (gi - 1)) <(Ig:Int) then (if ¬((((y0.getD (Hq+(gi).toNat) (0,0)).1)=((y0.getD (Hq+(AJ (gi - 1)).toNat) (0,0)).1))/\(((y0.getD (Hq+(gi).toNat) (0,0)).2)=((y0.getD (Hq+(AJ (gi - 1)).toNat) (0,0)).2))) then (if 0<=gi then (if gi <(Ig:Int) then (if 0<=e9 then (if e9 <(y0.length:Int) then (R8 (y0.set ((e9).toNat) ((y0.getD (Hq+(gi).toNat) (0,0)).1,(y0.getD (Hq+(gi).toNat) (0,0)).2)) (AJ (e9+1)) Hq Ig gi) else none) else none) else none) else none) else (R8 y0 e9 Hq Ig gi)) else none) else none) else none) else none) else (if 0<=e9 then (if e9<=(y0.length:Int) then (if 0<=e9 then (if e9<=((xV y0 ((0,0):(Int×Int)) ((e9).toNat) ((y0.length:Int).toNat - (e9).toNat)).length:Int) then some ((((xV y0 ((0,0):(Int×Int)) ((e9).toNat) ((y0.length:Int).toNat - (e9).toNat)).take (e9).toNat),()),(())) else none) else none) else none) else none))
def QS (k:Nat) (Fe:E1) (y0:Fa) (e9:Int):Option ((Fa×Unit)×(Unit)):=(Fe y0 (AJ (e9+1)))
def M0 (k:Nat) (Gd:FM) (y0:Fa) (e9:Int) (Hq Ig:Nat) (gi:Int):Option ((Fa×Unit)×(Unit)):=(Gd y0 e9 Hq Ig (AJ (gi+1)))
theorem Tn (k:Nat) (G:Nat->S):LW (dr k [8,0] G (U.at 49))=M0 k (Fb (G 8)):=by kernel_rfl
def R6 (k:Nat) (I5:FM) (F9:E1):PJ:=M0 k I5
theorem Tm (k:Nat) (R:Nat->S):LW (k6 k R 49)=R6 k (Fb (R 8)) (EV (R 0)):=
 Eq.trans (congrArg LW (Cd [8,0] (by kernel_rfl))) ((Tn k _).trans (by kernel_rfl))
theorem HH (k:Nat) (G:Nat->S):Fb (dr k [8,0] G (U.at 8))=FG k (LW (G 49)):=by kernel_rfl
def l2 (k:Nat) (F9:E1):Nat->FM
 | 0=>λ _ _ _ _ _=>none
 |n+1=>FG k (R6 k (l2 k F9 n) F9)
noncomputable abbrev F5 (k:Nat) (R:Nat->S) (n:Nat):Nat->S:=up R 8 (zv k R 2 n)
theorem GL (k:Nat) (R:Nat->S):∀n,Fb (zv k R 2 n)=l2 k (EV (R 0)) n
 | 0=>by kernel_rfl
 |n+1=>
  Eq.trans (congrArg Fb (CS [0] (by kernel_rfl))) ((HH k _).trans (Eq.trans (b:=FG k (LW (k6 k (F5 k R n) 49))) (by kernel_rfl) (by rw [Tm k (F5 k R n),(show Fb (F5 k R n 8)=_ from GL k R n)]<;>kernel_rfl)))
theorem Um (k:Nat) (G:Nat->S):NP (dr k [0] G (U.at 29))=QS k (EV (G 0)):=by kernel_rfl
def DY (k:Nat) (F9:E1):RU:=QS k F9
theorem Ul (k:Nat) (R:Nat->S):NP (k6 k R 29)=DY k (EV (R 0)):=
 Eq.trans (congrArg NP (Cd [0] (by kernel_rfl))) ((Um k _).trans (by kernel_rfl))
theorem F3 (k:Nat) (G:Nat->S):EV (dr k [0] G (U.at 0))=E0 k (Fb (G 8)) (NP (G 29)):=by kernel_rfl
def l0 (k:Nat):Nat->E1
 | 0=>λ _ _=>none
 |n+1=>E0 k (l2 k (l0 k n) k) (DY k (l0 k n))
noncomputable abbrev Fh (k:Nat) (R:Nat->S) (n:Nat):Nat->S:=up R 0 (zv k R 0 n)
theorem FA (k:Nat) (R:Nat->S):∀n,EV (zv k R 0 n)=l0 k n
 | 0=>by kernel_rfl
 |n+1=>
  Eq.trans (congrArg EV (CS [] (by kernel_rfl))) ((F3 k _).trans (Eq.trans (b:=E0 k (Fb (zv k (Fh k R n) 2 k)) (NP (k6 k (Fh k R n) 29))) (by kernel_rfl) (by rw [GL k (Fh k R n) k,Ul k (Fh k R n),(show EV (Fh k R n 0)=_ from FA k R n)]<;>kernel_rfl)))
theorem EW (k:Nat) (G:Nat->S) (x:cv ls) (xs:DL sig):dr k [] G [.c 1 0] (gU 61 192 0 ls x sig xs)=ES k (EV (G 0)) x.1:=by kernel_rfl
end f135
def f135 (k:Nat) (a:Iu):Option ((Fa×Unit)×(Unit)):=f135.ES k (f135.l0 k k) a
namespace f135
theorem eq (k:Nat) (x:cv ls) (xs:DL sig):den T Y (E k) A k aC 0 (gU 61 192 0 ls x sig xs) (yF T 0 false ls rs ts)=f135 k x.1:=
 Eq.trans (Cg (R:=(λ _ _=>none)) (tb:=U)) ((EW k _ x xs).trans (Eq.trans (b:=ES k (EV (zv k (λ _ _=>none) 0 k)) x.1) (by kernel_rfl) (by rw [FA k (λ _ _=>none) k]<;>kernel_rfl)))
noncomputable def aN (k:Nat):kI:=⟨0,false,ls,sig,rs,λ x xs=>f135 k x.1⟩
theorem ok (k:Nat):gV Tryz.prog 135 0 false ls sig rs (λ x xs=>f135 k x.1):=
 (AM (k:=k) (A:=A) (T:=T) (Y:=Y) (E:=E k) (M:=192) (ts:=ts) FL trivial trivial mixed (f:=135) (fn:=Tryz.f135) (c:=aC) (by kernel_rfl) (by kernel_rfl) (by kernel_rfl) (by decide) (by kernel_rfl) (by decide)).congr λ x xs=>(eq k x xs).symm
theorem E8:um Tryz.prog 135:=λ args w=>by kernel_rfl
end f135
namespace f113
noncomputable def aC:Code:=Tryz.f113.body.getD .skip
abbrev sig:List PT:=[(false,LF)]
abbrev rs:List RT:=[.new E5]
abbrev ts:List RV:=[.tmp 2]
abbrev S:=St->Option (eC rs)
def Y:dZ:=[]
noncomputable def E (k:Nat):Env:=[(133,.c (f133u_con k)),(134,.b (f134.aN k)),(135,.b (f135.aN k))]
def A:oM:={}
def U:fF:=[]
noncomputable abbrev dr (k:Nat) (rc:List Nat) (G:Nat->S) (F:List PF):S:=λ σ=>ap T Y (E k) A k (zw T rs ts) (cD T Y (E k) A k (zw T rs ts) aC U rc G 9999 F) .nx σ
def ES (k:Nat) (a0:Iu):Option (Fa×Unit):=((f133u k a0).bind λ r1=>((f134 k r1.1 ()).bind λ r2=>((f135 k r2.1.1).bind λ r3=>some (r3.1.1,()))))
theorem EW (k:Nat) (G:Nat->S) (xs:DL sig):dr k [] G [.c 1 0] (uR 10 32 sig xs)=ES k xs.1:=by kernel_rfl
end f113
def f113 (k:Nat) (a0:Iu):Option (Fa×Unit):=f113.ES k a0
namespace f113
theorem eq (k:Nat) (xs:DL sig):den T Y (E k) A k aC 0 (uR 10 32 sig xs) (zw T rs ts)=f113 k xs.1:=
 Eq.trans (Cg (R:=(λ _ _=>none)) (tb:=U)) ((EW k _ xs).trans (by kernel_rfl))
noncomputable def aN (k:Nat):jH:=⟨sig,rs,λ xs=>f113 k xs.1⟩
theorem ok (k:Nat):cT Tryz.prog 113 sig rs (λ xs=>f113 k xs.1):=
 (AL (k:=k) (A:=A) (T:=T) (Y:=Y) (E:=E k) (M:=32) (ts:=ts) FL ⟨f133u_ok k,f134.ok k,f135.ok k,trivial⟩ ⟨f133u_ent,f134.E8,f135.E8,trivial⟩ mixed (f:=113) (fn:=Tryz.f113) (c:=aC) (by kernel_rfl) (by kernel_rfl) (by kernel_rfl) (by decide) (by kernel_rfl)).congr λ xs=>(eq k xs).symm
theorem E8:um Tryz.prog 113:=λ args w=>by kernel_rfl
end f113
namespace f160
noncomputable def aC:Code:=Tryz.f160.body.getD .skip
abbrev sig:List PT:=[]
abbrev rs:List RT:=[]
abbrev ts:List RV:=[]
abbrev ls:List LO:=[.row (.int .i64)]
abbrev S:=St->Option (cv ls×eC rs)
def Y:dZ:=[]
noncomputable def E (k:Nat):Env:=[]
def A:oM:={ loops:=[(0,{ slots:=[(0,.id),(2,.id),(3,.id)],keys:=[(0,[])] })] }
def U:fF:=[(0,[.c 12 0,.r 0,.b 0])]
noncomputable abbrev k6 (k:Nat) (R:Nat->S) (q:Nat):S:=cx T Y (E k) A k (yF T 0 true ls rs ts) aC U R q
noncomputable abbrev ur (k:Nat) (rc:List Nat) (R:Nat->S):Nat->S:=ext T Y (E k) A k (yF T 0 true ls rs ts) aC U rc R
noncomputable abbrev zv (k:Nat) (R:Nat->S) (i n:Nat):S:=lx T Y (E k) A k (yF T 0 true ls rs ts) aC U R i n
noncomputable abbrev dr (k:Nat) (rc:List Nat) (G:Nat->S) (F:List PF):S:=λ σ=>ap T Y (E k) A k (yF T 0 true ls rs ts) (cD T Y (E k) A k (yF T 0 true ls rs ts) aC U rc G 9999 F) .nx σ
def F4 (y0:Fy) (x2 e9:Int):St:=Dn 28 97 [(0,aO 0),(2,aI x2),(3,aI e9)] [(0,.vec (.int .i64) y0)]
abbrev E1:=Fy->Int->Int->Option ((Fy×Unit)×(Unit))
abbrev EV (R:S):E1:=(λ y0 x2 e9=>R (F4 y0 x2 e9))
def ES (k:Nat) (Fe:E1) (a:Fy):Option ((Fy×Unit)×(Unit)):=(Fe a 0 (AJ ((a.length:Int) - 1)))
def E0 (k:Nat) (Fe:E1) (y0:Fy) (x2 e9:Int):Option ((Fy×Unit)×(Unit)):=(if x2 <e9 then (if 0<=e9 then (if e9 <(y0.length:Int) then (if 0<=x2 then (if x2 <(y0.length:Int) then (if 0<=x2 then (if x2 <(y0.length:Int) then (if 0<=e9 then (if e9 <((y0.set ((x2).toNat) (y0.getD ((e9).toNat) 0)).length:Int) then (Fe ((y0.set ((x2).toNat) (y0.getD ((e9).toNat) 0)).set ((e9).toNat) (y0.getD ((x2).toNat) 0)) (AJ (x2+1)) (AJ (e9 - 1))) else none) else none) else none) else none) else none) else none) else none) else none) else some ((y0,()),(())))
theorem F3 (k:Nat) (G:Nat->S):EV (dr k [0] G (U.at 0))=E0 k (EV (G 0)):=by kernel_rfl
def l0 (k:Nat):Nat->E1
 | 0=>λ _ _ _=>none
 |n+1=>E0 k (l0 k n)
noncomputable abbrev Fh (k:Nat) (R:Nat->S) (n:Nat):Nat->S:=up R 0 (zv k R 0 n)
theorem FA (k:Nat) (R:Nat->S):∀n,EV (zv k R 0 n)=l0 k n
 | 0=>by kernel_rfl
 |n+1=>
  Eq.trans (congrArg EV (CS [] (by kernel_rfl))) ((F3 k _).trans (Eq.trans (b:=E0 k (EV ((Fh k R n) 0))) (by kernel_rfl) (by rw [(show EV (Fh k R n 0)=_ from FA k R n)]<;>kernel_rfl)))
theorem EW (k:Nat) (G:Nat->S) (x:cv ls) (xs:DL sig):dr k [] G [.c 1 0] (gU 28 97 0 ls x sig xs)=ES k (EV (G 0)) x.1:=by kernel_rfl
end f160
def f160 (k:Nat) (a:Fy):Option ((Fy×Unit)×(Unit)):=f160.ES k (f160.l0 k k) a
namespace f160
theorem eq (k:Nat) (x:cv ls) (xs:DL sig):den T Y (E k) A k aC 0 (gU 28 97 0 ls x sig xs) (yF T 0 true ls rs ts)=f160 k x.1:=
 Eq.trans (Cg (R:=(λ _ _=>none)) (tb:=U)) ((EW k _ x xs).trans (Eq.trans (b:=ES k (EV (zv k (λ _ _=>none) 0 k)) x.1) (by kernel_rfl) (by rw [FA k (λ _ _=>none) k]<;>kernel_rfl)))
noncomputable def aN (k:Nat):kI:=⟨0,true,ls,sig,rs,λ x xs=>f160 k x.1⟩
theorem ok (k:Nat):gV Tryz.prog 160 0 true ls sig rs (λ x xs=>f160 k x.1):=
 (AM (k:=k) (A:=A) (T:=T) (Y:=Y) (E:=E k) (M:=97) (ts:=ts) FL trivial trivial mixed (f:=160) (fn:=Tryz.f160) (c:=aC) (by kernel_rfl) (by kernel_rfl) (by kernel_rfl) (by decide) (by kernel_rfl) (by decide)).congr λ x xs=>(eq k x xs).symm
theorem E8:um Tryz.prog 160:=λ args w=>by kernel_rfl
end f160
namespace f204
noncomputable def aC:Code:=Tryz.f204.body.getD .skip
abbrev sig:List PT:=[(false,(.int .i64)),(false,(.ptr LF)),(false,(.ptr OE)),(false,(.ptr (.int .i64))),(false,(.ptr (.int .i64)))]
abbrev rs:List RT:=[.d false .bool]
abbrev ts:List RV:=[.tmp 6]
abbrev S:=St->Option (eC rs)
def Y:dZ:=[]
noncomputable def E (k:Nat):Env:=[(99,.c (f99.aN k))]
def A:oM:={}
def U:fF:=[]
noncomputable abbrev dr (k:Nat) (rc:List Nat) (G:Nat->S) (F:List PF):S:=λ σ=>ap T Y (E k) A k (zw T rs ts) (cD T Y (E k) A k (zw T rs ts) aC U rc G 9999 F) .nx σ
def ES (k:Nat) (a0:Int) (a1:Iu) (a2:Fy) (a3 a4:Int):Option (Bool×Unit):=(if 0<=a0 then (if a0 <(a2.length:Int) then (if 0<=(a2.getD (a0).toNat 0) then (if (a2.getD (a0).toNat 0) <(a1.length:Int) then (if ¬a3=0 then (if 0<=((AJ (a0+1)).tmod a3) then (if ((AJ (a0+1)).tmod a3) <(a2.length:Int) then (if 0<=(a2.getD (((AJ (a0+1)).tmod a3)).toNat 0) then (if (a2.getD (((AJ (a0+1)).tmod a3)).toNat 0) <(a1.length:Int) then (if 0<=a4 then (if a4 <(a1.length:Int) then ((f99 k ((a1.getD ((a2.getD (a0).toNat 0)).toNat (0,0)).1,(a1.getD ((a2.getD (a0).toNat 0)).toNat (0,0)).2) ((a1.getD ((a2.getD (((AJ (a0+1)).tmod a3)).toNat 0)).toNat (0,0)).1,(a1.getD ((a2.getD (((AJ (a0+1)).tmod a3)).toNat 0)).toNat (0,0)).2) ((a1.getD (a4).toNat (0,0)).1,(a1.getD (a4).toNat (0,0)).2)).bind λ r1=>some (decide (r1.1 <0),())) else none) else none) else none) else none) else none) else none) else none) else none) else none) else none) else none)
theorem EW (k:Nat) (G:Nat->S) (xs:DL sig):dr k [] G [.c 1 0] (uR 30 96 sig xs)=ES k xs.1 xs.2.1 xs.2.2.1 xs.2.2.2.1 xs.2.2.2.2.1:=by kernel_rfl
end f204
def f204 (k:Nat) (a0:Int) (a1:Iu) (a2:Fy) (a3 a4:Int):Option (Bool×Unit):=f204.ES k a0 a1 a2 a3 a4
namespace f204
theorem eq (k:Nat) (xs:DL sig):den T Y (E k) A k aC 0 (uR 30 96 sig xs) (zw T rs ts)=f204 k xs.1 xs.2.1 xs.2.2.1 xs.2.2.2.1 xs.2.2.2.2.1:=
 Eq.trans (Cg (R:=(λ _ _=>none)) (tb:=U)) ((EW k _ xs).trans (by kernel_rfl))
noncomputable def aN (k:Nat):jH:=⟨sig,rs,λ xs=>f204 k xs.1 xs.2.1 xs.2.2.1 xs.2.2.2.1 xs.2.2.2.2.1⟩
theorem ok (k:Nat):cT Tryz.prog 204 sig rs (λ xs=>f204 k xs.1 xs.2.1 xs.2.2.1 xs.2.2.2.1 xs.2.2.2.2.1):=
 (AL (k:=k) (A:=A) (T:=T) (Y:=Y) (E:=E k) (M:=96) (ts:=ts) FL ⟨f99.ok k,trivial⟩ ⟨f99.E8,trivial⟩ mixed (f:=204) (fn:=Tryz.f204) (c:=aC) (by kernel_rfl) (by kernel_rfl) (by kernel_rfl) (by decide) (by kernel_rfl)).congr λ xs=>(eq k xs).symm
theorem E8:um Tryz.prog 204:=λ args w=>by kernel_rfl
end f204
namespace f161
noncomputable def aC:Code:=Tryz.f161.body.getD .skip
abbrev sig:List PT:=[(false,LF),(false,OE),(false,(.int .i64))]
abbrev rs:List RT:=[.new (.int .i64)]
abbrev ts:List RV:=[.tmp 8,.tmp 9]
abbrev ls:List LO:=[.row Fp]
abbrev S:=St->Option (cv ls×eC rs)
def Y:dZ:=[(3,(.int .i64)),(56,Fp)]
noncomputable def E (k:Nat):Env:=[(204,.c (f204.aN k))]
def A:oM:={ loops:=[(0,{ slots:=[(3,.id),(5,.id),(6,.id),(10,.id),(11,.id),(12,.id)],keys:=[(0,[]),(4,[.val false E5]),(5,[.val false (.int .i64)]),(6,[]),(10,[])] }),(2,{ slots:=[(3,.id),(5,.id),(6,.id),(10,.id),(11,.id),(12,.id),(13,.id),(14,.id)],keys:=[(0,[]),(4,[.val false E5]),(5,[.val false (.int .i64)]),(6,[]),(10,[]),(35,[])] }),(4,{ slots:=[(3,.id),(5,.id),(6,.id),(10,.id),(12,.id),(13,.id),(15,.id)],keys:=[(0,[]),(5,[.val false (.int .i64)]),(6,[]),(10,[]),(35,[])] })],qF:=[(4,{ slots:=[(3,.id),(5,.id),(6,.id),(10,.id),(11,.id),(12,.id),(32,.bool)],keys:=[(0,[]),(4,[.val false E5]),(5,[.val false (.int .i64)]),(6,[]),(10,[])] })] }
def U:fF:=[(0,[.c 248 0,.r 0,.b 0,.c 63 0]),(19,[.c 993 0,.c 497 0,.r 0,.b 0,.c 63 0]),(8,[.c 2040 2,.r 2,.b 2,.c 511 0]),(16,[.c 8180 4,.r 4,.b 4,.c 1023 0])]
noncomputable abbrev k6 (k:Nat) (R:Nat->S) (q:Nat):S:=cx T Y (E k) A k (yF T 3 false ls rs ts) aC U R q
noncomputable abbrev ur (k:Nat) (rc:List Nat) (R:Nat->S):Nat->S:=ext T Y (E k) A k (yF T 3 false ls rs ts) aC U rc R
noncomputable abbrev zv (k:Nat) (R:Nat->S) (i n:Nat):S:=lx T Y (E k) A k (yF T 3 false ls rs ts) aC U R i n
noncomputable abbrev dr (k:Nat) (rc:List Nat) (G:Nat->S) (F:List PF):S:=λ σ=>ap T Y (E k) A k (yF T 3 false ls rs ts) (cD T Y (E k) A k (yF T 3 false ls rs ts) aC U rc G 9999 F) .nx σ
def F4 (y0:Ft) (Fi:Int) (GO:Fa) (E9:Fy) (FC Fq:Int):St:=Dn 84 256 [(3,aO 0),(5,aP 5),(6,aP 6),(10,aP 10),(11,.cp (.one (.fn 204 [4,5,10,6]))),(12,aI Fq)] [(0,.vec Fp y0),(4,.box [cV E5 GO]),(5,.box [cV (.int .i64) E9]),(6,.box [cI FC]),(10,.box [cI Fi])]
abbrev E1:=Ft->Int->Fa->Fy->Int->Int->Option (((List FI)×Unit)×(Fy×Unit))
abbrev EV (R:S):E1:=(λ y0 Fi GO E9 FC Fq=>R (F4 y0 Fi GO E9 FC Fq))
def UO (y0:Ft) (Fi:Int) (GO:Fa) (E9:Fy) (FC Fq:Int) (x32:Bool):St:=Dn 84 256 [(3,aO 0),(5,aP 5),(6,aP 6),(10,aP 10),(11,.cp (.one (.fn 204 [4,5,10,6]))),(12,aI Fq),(32,aB x32)] [(0,.vec Fp y0),(4,.box [cV E5 GO]),(5,.box [cV (.int .i64) E9]),(6,.box [cI FC]),(10,.box [cI Fi])]
abbrev RX:=Ft->Int->Fa->Fy->Int->Int->Bool->Option (((List FI)×Unit)×(Fy×Unit))
abbrev NR (R:S):RX:=(λ y0 Fi GO E9 FC Fq x32=>R (UO y0 Fi GO E9 FC Fq x32))
def HK (y0:Ft) (Fi:Int) (Ic:Fy) (GO:Fa) (E9:Fy) (FC Fq GH:Int):St:=Dn 84 256 [(3,aO 0),(5,aP 5),(6,aP 6),(10,aP 10),(11,.cp (.one (.fn 204 [4,5,10,6]))),(12,aI Fq),(13,aO 35),(14,aI GH)] [(0,.vec Fp y0),(4,.box [cV E5 GO]),(5,.box [cV (.int .i64) E9]),(6,.box [cI FC]),(10,.box [cI Fi]),(35,.vec (.int .i64) Ic)]
abbrev FM:=Ft->Int->Fy->Fa->Fy->Int->Int->Int->Option (((List FI)×Unit)×(Fy×Unit))
abbrev Fb (R:S):FM:=(λ y0 Fi Ic GO E9 FC Fq GH=>R (HK y0 Fi Ic GO E9 FC Fq GH))
def Lp (y0:Ft) (Fi:Int) (Ic E9:Fy) (FC Fq Ih:Int):St:=Dn 84 256 [(3,aO 0),(5,aP 5),(6,aP 6),(10,aP 10),(12,aI Fq),(13,aO 35),(15,aI Ih)] [(0,.vec Fp y0),(5,.box [cV (.int .i64) E9]),(6,.box [cI FC]),(10,.box [cI Fi]),(35,.vec (.int .i64) Ic)]
abbrev G6:=Ft->Int->Fy->Fy->Int->Int->Int->Option (((List FI)×Unit)×(Fy×Unit))
abbrev Gg (R:S):G6:=(λ y0 Fi Ic E9 FC Fq Ih=>R (Lp y0 Fi Ic E9 FC Fq Ih))
def ES (k:Nat) (Fe:E1) (a:(List FI)) (a0:Iu) (a1:Fy) (a2:Int):Option (((List FI)×Unit)×(Fy×Unit)):=(Fe a (a1.length:Int) a0 a1 a2 0)
def E0 (k:Nat) (SY:RX) (y0:Ft) (Fi:Int) (GO:Fa) (E9:Fy) (FC Fq:Int):Option (((List FI)×Unit)×(Fy×Unit)):=((f204 k Fq GO E9 Fi FC).bind λ r1=>(if ¬(r1.1=true) then (SY y0 Fi GO E9 FC Fq true) else (if ¬Fi=0 then ((f204 k ((AJ ((AJ (Fq+Fi)) - 1)).tmod Fi) GO E9 Fi FC).bind λ r2=>(SY y0 Fi GO E9 FC Fq (decide (r2.1=true)))) else none)))
def Mo (k:Nat) (Fe:E1) (Gd:FM) (y0:Ft) (Fi:Int) (GO:Fa) (E9:Fy) (FC Fq:Int) (x32:Bool):Option (((List FI)×Unit)×(Fy×Unit)):=(if x32=true then (Fe y0 Fi GO E9 FC (AJ (Fq+1))) else (Gd y0 Fi ([]:List Int) GO E9 FC Fq Fq))
def FG (k:Nat) (Gd:FM) (Il:G6) (y0:Ft) (Fi:Int) (Ic:Fy) (GO:Fa) (E9:Fy) (FC Fq GH:Int):Option (((List FI)×Unit)×(Fy×Unit)):=(if ¬Fi=0 then ((f204 k (GH.tmod Fi) GO E9 Fi FC).bind λ r1=>(if r1.1=true then (if ¬Fi=0 then (if 0<=((AJ (GH+1)).tmod Fi) then (if ((AJ (GH+1)).tmod Fi) <(E9.length:Int) then (if ¬Fi=0 then (if 0<=(GH.tmod Fi) then (if (GH.tmod Fi) <(E9.length:Int) then (if (y0.length+1) * 24<=140737488355328 then (Gd (y0++[((E9.getD (((AJ (GH+1)).tmod Fi)).toNat 0),((E9.getD ((GH.tmod Fi)).toNat 0),FC))]) Fi Ic GO E9 FC Fq (AJ (GH+1))) else none) else none) else none) else none) else none) else none) else none) else (if ¬Fi=0 then (Il y0 Fi Ic E9 FC Fq (GH.tmod Fi)) else none))) else none)
def Hj (k:Nat) (Il:G6) (y0:Ft) (Fi:Int) (Ic E9:Fy) (FC Fq Ih:Int):Option (((List FI)×Unit)×(Fy×Unit)):=(if 0<=Ih then (if Ih <(E9.length:Int) then (if (Ic.length+1) * 8<=140737488355328 then (if Ih=Fq then (if ((Ic++[(E9.getD (Ih).toNat 0)]).length+1) * 8<=140737488355328 then some ((y0,()),(((Ic++[(E9.getD (Ih).toNat 0)])++[FC]),())) else none) else (if ¬Fi=0 then (Il y0 Fi (Ic++[(E9.getD (Ih).toNat 0)]) E9 FC Fq ((AJ (Ih+1)).tmod Fi)) else none)) else none) else none) else none)
theorem Ll (k:Nat) (G:Nat->S):Gg (dr k [16] G (U.at 16))=Hj k (Gg (G 16)):=by kernel_rfl
def l4 (k:Nat):Nat->G6
 | 0=>λ _ _ _ _ _ _ _=>none
 |n+1=>Hj k (l4 k n)
noncomputable abbrev Ip (k:Nat) (R:Nat->S) (n:Nat):Nat->S:=up R 16 (zv k R 4 n)
theorem Jv (k:Nat) (R:Nat->S):∀n,Gg (zv k R 4 n)=l4 k n
 | 0=>by kernel_rfl
 |n+1=>
  Eq.trans (congrArg Gg (CS [] (by kernel_rfl))) ((Ll k _).trans (Eq.trans (b:=Hj k (Gg ((Ip k R n) 16))) (by kernel_rfl) (by rw [(show Gg (Ip k R n 16)=_ from Jv k R n)]<;>kernel_rfl)))
theorem HH (k:Nat) (G:Nat->S):Fb (dr k [8] G (U.at 8))=FG k (Fb (G 8)) (Gg (G 16)):=by kernel_rfl
def l2 (k:Nat):Nat->FM
 | 0=>λ _ _ _ _ _ _ _ _=>none
 |n+1=>FG k (l2 k n) (l4 k k)
noncomputable abbrev F5 (k:Nat) (R:Nat->S) (n:Nat):Nat->S:=up R 8 (zv k R 2 n)
theorem GL (k:Nat) (R:Nat->S):∀n,Fb (zv k R 2 n)=l2 k n
 | 0=>by kernel_rfl
 |n+1=>
  Eq.trans (congrArg Fb (CS [] (by kernel_rfl))) ((HH k _).trans (Eq.trans (b:=FG k (Fb ((F5 k R n) 8)) (Gg (zv k (F5 k R n) 4 k))) (by kernel_rfl) (by rw [Jv k (F5 k R n) k,(show Fb (F5 k R n 8)=_ from GL k R n)]<;>kernel_rfl)))
theorem UE (k:Nat) (G:Nat->S):NR (dr k [0] G (U.at 19))=Mo k (EV (G 0)) (Fb (G 8)):=by kernel_rfl
def r4 (k:Nat) (F9:E1):RX:=Mo k F9 (l2 k k)
theorem UD (k:Nat) (R:Nat->S):NR (k6 k R 19)=r4 k (EV (R 0)):=
 Eq.trans (congrArg NR (Cd [0] (by kernel_rfl))) ((UE k _).trans (Eq.trans (b:=Mo k (EV (R 0)) (Fb (zv k R 2 k))) (by kernel_rfl) (by rw [GL k R k]<;>kernel_rfl)))
theorem F3 (k:Nat) (G:Nat->S):EV (dr k [0] G (U.at 0))=E0 k (NR (G 19)):=by kernel_rfl
def l0 (k:Nat):Nat->E1
 | 0=>λ _ _ _ _ _ _=>none
 |n+1=>E0 k (r4 k (l0 k n))
noncomputable abbrev Fh (k:Nat) (R:Nat->S) (n:Nat):Nat->S:=up R 0 (zv k R 0 n)
theorem FA (k:Nat) (R:Nat->S):∀n,EV (zv k R 0 n)=l0 k n
 | 0=>by kernel_rfl
 |n+1=>
  Eq.trans (congrArg EV (CS [] (by kernel_rfl))) ((F3 k _).trans (Eq.trans (b:=E0 k (NR (k6 k (Fh k R n) 19))) (by kernel_rfl) (by rw [UD k (Fh k R n),(show EV (Fh k R n 0)=_ from FA k R n)]<;>kernel_rfl)))
theorem EW (k:Nat) (G:Nat->S) (x:cv ls) (xs:DL sig):dr k [] G [.c 1 0] (gU 84 256 3 ls x sig xs)=ES k (EV (G 0)) x.1 xs.1 xs.2.1 xs.2.2.1:=by kernel_rfl
end f161
def f161 (k:Nat) (a:(List FI)) (a0:Iu) (a1:Fy) (a2:Int):Option (((List FI)×Unit)×(Fy×Unit)):=f161.ES k (f161.l0 k k) a a0 a1 a2
namespace f161
theorem eq (k:Nat) (x:cv ls) (xs:DL sig):den T Y (E k) A k aC 0 (gU 84 256 3 ls x sig xs) (yF T 3 false ls rs ts)=f161 k x.1 xs.1 xs.2.1 xs.2.2.1:=
 Eq.trans (Cg (R:=(λ _ _=>none)) (tb:=U)) ((EW k _ x xs).trans (Eq.trans (b:=ES k (EV (zv k (λ _ _=>none) 0 k)) x.1 xs.1 xs.2.1 xs.2.2.1) (by kernel_rfl) (by rw [FA k (λ _ _=>none) k]<;>kernel_rfl)))
noncomputable def aN (k:Nat):kI:=⟨3,false,ls,sig,rs,λ x xs=>f161 k x.1 xs.1 xs.2.1 xs.2.2.1⟩
theorem ok (k:Nat):gV Tryz.prog 161 3 false ls sig rs (λ x xs=>f161 k x.1 xs.1 xs.2.1 xs.2.2.1):=
 (AM (k:=k) (A:=A) (T:=T) (Y:=Y) (E:=E k) (M:=256) (ts:=ts) FL ⟨f204.ok k,trivial⟩ ⟨f204.E8,trivial⟩ mixed (f:=161) (fn:=Tryz.f161) (c:=aC) (by kernel_rfl) (by kernel_rfl) (by kernel_rfl) (by decide) (by kernel_rfl) (by decide)).congr λ x xs=>(eq k x xs).symm
theorem E8:um Tryz.prog 161:=λ args w=>by kernel_rfl
end f161
namespace f114
noncomputable def aC:Code:=Tryz.f114.body.getD .skip
abbrev sig:List PT:=[(false,LF)]
abbrev rs:List RT:=[.new Fp]
abbrev ts:List RV:=[.tmp 2]
abbrev S:=St->Option (eC rs)
def Y:dZ:=[(3,(.int .i64)),(56,Fp)]
noncomputable def E (k:Nat):Env:=[(99,.c (f99.aN k)),(160,.b (f160.aN k)),(161,.b (f161.aN k))]
def A:oM:={ loops:=[(0,{ slots:=[(0,.val false E5),(3,.id),(4,.id)] }),(2,{ Bu:=[(5,53,(.int .i64))],slots:=[(0,.val false E5),(3,.id),(4,.id),(5,.id),(6,.bool),(46,.id),(47,.id)],keys:=[(53,[])] }),(4,{ Bu:=[(3,78,Fp)],slots:=[(0,.val false E5),(3,.id),(4,.id),(5,.id),(8,.id)],keys:=[(53,[]),(78,[])] }),(6,{ bJ:=[53,96],Bu:=[(3,78,Fp)],slots:=[(0,.val false E5),(3,.id),(5,.val false (.int .i64)),(9,.id)],keys:=[(78,[])] })],qF:=[(3,{ slots:=[(0,.val false E5),(3,.id),(4,.id),(27,.bool)] })],conds:=[(15,{ Bu:=[(5,53,(.int .i64))],slots:=[(0,.val false E5),(3,.id),(4,.id),(5,.id)],keys:=[(53,[])] })] }
def U:fF:=[(0,[.c 120 0,.r 0,.b 0,.c 31 0]),(15,[.c 481 0,.c 241 0,.r 0,.b 0,.c 31 0]),(8,[.c 4084 2,.r 2,.b 2,.c 511 0]),(61,[.c 1023 0]),(16,[.c 16372 4,.r 4,.b 4,.c 2047 0]),(24,[.c 65524 6,.r 6,.b 6,.c 8191 0])]
noncomputable abbrev k6 (k:Nat) (R:Nat->S) (q:Nat):S:=cx T Y (E k) A k (zw T rs ts) aC U R q
noncomputable abbrev ur (k:Nat) (rc:List Nat) (R:Nat->S):Nat->S:=ext T Y (E k) A k (zw T rs ts) aC U rc R
noncomputable abbrev zv (k:Nat) (R:Nat->S) (i n:Nat):S:=lx T Y (E k) A k (zw T rs ts) aC U R i n
noncomputable abbrev dr (k:Nat) (rc:List Nat) (G:Nat->S) (F:List PF):S:=λ σ=>ap T Y (E k) A k (zw T rs ts) (cD T Y (E k) A k (zw T rs ts) aC U rc G 9999 F) .nx σ
def F4 (x0:Fa) (k5:Int):St:=Dn 100 304 [(0,aV E5 x0),(3,.cp (.one (.nil))),(4,aI k5)] []
abbrev E1:=Fa->Int->Option ((List FI)×Unit)
abbrev EV (R:S):E1:=(λ x0 k5=>R (F4 x0 k5))
def RG (x0:Fa) (QC:Bool) (k5:Int):St:=Dn 100 304 [(0,aV E5 x0),(3,.cp (.one (.nil))),(4,aI k5),(27,aB QC)] []
abbrev Lz:=Fa->Bool->Int->Option ((List FI)×Unit)
abbrev Jx (R:S):Lz:=(λ x0 QC k5=>R (RG x0 QC k5))
def HK (HE:Fy) (x0:Fa) (k5 On:Int) (mm:Bool):St:=Dn 100 304 [(0,aV E5 x0),(3,.cp (.one (.nil))),(4,aI k5),(5,aO 53),(6,aB mm),(46,aI k5),(47,aI On)] [(53,.vec (.int .i64) HE)]
abbrev FM:=Fy->Fa->Int->Int->Bool->Option ((List FI)×Unit)
abbrev Fb (R:S):FM:=(λ HE x0 k5 On mm=>R (HK HE x0 k5 On mm))
def TI (HE:Fy) (x0:Fa) (k5:Int):St:=Dn 100 304 [(0,aV E5 x0),(3,.cp (.one (.nil))),(4,aI k5),(5,aO 53)] [(53,.vec (.int .i64) HE)]
abbrev PK:=Fy->Fa->Int->Option ((List FI)×Unit)
abbrev LX (R:S):PK:=(λ HE x0 k5=>R (TI HE x0 k5))
def Lp (HE:Fy) (JU:Ft) (x0:Fa) (k5 fz:Int):St:=Dn 100 304 [(0,aV E5 x0),(3,aO 78),(4,aI k5),(5,aO 53),(8,aI fz)] [(53,.vec (.int .i64) HE),(78,.vec Fp JU)]
abbrev G6:=Fy->Ft->Fa->Int->Int->Option ((List FI)×Unit)
abbrev Gg (R:S):G6:=(λ HE JU x0 k5 fz=>R (Lp HE JU x0 k5 fz))
def N5 (JU:Ft) (x0:Fa) (gi:Fy) (uf:Int):St:=Dn 100 304 [(0,aV E5 x0),(3,aO 78),(5,aV (.int .i64) gi),(9,aI uf)] [(78,.vec Fp JU)]
abbrev Ie:=Ft->Fa->Fy->Int->Option ((List FI)×Unit)
abbrev G1 (R:S):Ie:=(λ JU x0 gi uf=>R (N5 JU x0 gi uf))
def ES (k:Nat) (Fe:E1) (a0:Iu):Option ((List FI)×Unit):=(Fe a0 2)
def E0 (k:Nat) (Mi:Lz) (x0:Fa) (k5:Int):Option ((List FI)×Unit):=(if k5 <(x0.length:Int) then (if 0 <(x0.length:Int) then (if 1 <(x0.length:Int) then (if 0<=k5 then (if k5 <(x0.length:Int) then ((f99 k ((x0.getD (0:Int).toNat (0,0)).1,(x0.getD (0:Int).toNat (0,0)).2) ((x0.getD (1:Int).toNat (0,0)).1,(x0.getD (1:Int).toNat (0,0)).2) ((x0.getD (k5).toNat (0,0)).1,(x0.getD (k5).toNat (0,0)).2)).bind λ r1=>(Mi x0 (decide (r1.1=0)) k5)) else none) else none) else none) else none) else (Mi x0 false k5))
def JB (k:Nat) (Fe:E1) (Gd:FM) (x0:Fa) (QC:Bool) (k5:Int):Option ((List FI)×Unit):=(if QC=true then (Fe x0 (AJ (k5+1))) else (if (x0.length:Int)<=k5 then some ([],()) else (if 0 <(x0.length:Int) then (if 1 <(x0.length:Int) then (if 0<=k5 then (if k5 <(x0.length:Int) then ((f99 k ((x0.getD (0:Int).toNat (0,0)).1,(x0.getD (0:Int).toNat (0,0)).2) ((x0.getD (1:Int).toNat (0,0)).1,(x0.getD (1:Int).toNat (0,0)).2) ((x0.getD (k5).toNat (0,0)).1,(x0.getD (k5).toNat (0,0)).2)).bind λ r1=>(Gd ([]:List Int) x0 k5 0 (decide (0 <r1.1)))) else none) else none) else none) else none)))
def FG (k:Nat) (Gd:FM) (R9:PK) (HE:Fy) (x0:Fa) (k5 On:Int) (mm:Bool):Option ((List FI)×Unit):=(if On <k5 then (if (HE.length+1) * 8<=140737488355328 then (Gd (HE++[On]) x0 k5 (AJ (On+1)) (decide (mm=true))) else none) else (if ¬(mm=true) then ((f160 k HE).bind λ r1=>(R9 r1.1.1 x0 k5)) else (R9 HE x0 k5)))
def M1 (k:Nat) (Il:G6) (HE:Fy) (x0:Fa) (k5:Int):Option ((List FI)×Unit):=(Il HE ([]:List (Int×(Int×Int))) x0 k5 0)
def Hj (k:Nat) (Il:G6) (Jr:Ie) (HE:Fy) (JU:Ft) (x0:Fa) (k5 fz:Int):Option ((List FI)×Unit):=(if (AJ (fz+1)) <k5 then (if 0<=fz then (if fz <(HE.length:Int) then (if 0<=(AJ (fz+1)) then (if (AJ (fz+1)) <(HE.length:Int) then (if (JU.length+1) * 24<=140737488355328 then (Il HE (JU++[((HE.getD ((fz).toNat) 0),((HE.getD ((AJ (fz+1)).toNat) 0),k5))]) x0 k5 (AJ (fz+1))) else none) else none) else none) else none) else none) else (if (HE.length+1) * 8<=140737488355328 then (Jr JU x0 (HE++[k5]) (AJ (k5+1))) else none))
def HX (k:Nat) (Jr:Ie) (JU:Ft) (x0:Fa) (gi:Fy) (uf:Int):Option ((List FI)×Unit):=(if uf <(x0.length:Int) then ((f161 k JU x0 gi uf).bind λ r1=>(Jr r1.1.1 x0 r1.2.1 (AJ (uf+1)))) else some (JU,()))
theorem Nx (k:Nat) (G:Nat->S):G1 (dr k [24] G (U.at 24))=HX k (G1 (G 24)):=by kernel_rfl
def wv (k:Nat):Nat->Ie
 | 0=>λ _ _ _ _=>none
 |n+1=>HX k (wv k n)
noncomputable abbrev IM (k:Nat) (R:Nat->S) (n:Nat):Nat->S:=up R 24 (zv k R 6 n)
theorem KO (k:Nat) (R:Nat->S):∀n,G1 (zv k R 6 n)=wv k n
 | 0=>by kernel_rfl
 |n+1=>
  Eq.trans (congrArg G1 (CS [] (by kernel_rfl))) ((Nx k _).trans (Eq.trans (b:=HX k (G1 ((IM k R n) 24))) (by kernel_rfl) (by rw [(show G1 (IM k R n 24)=_ from KO k R n)]<;>kernel_rfl)))
theorem Ll (k:Nat) (G:Nat->S):Gg (dr k [16] G (U.at 16))=Hj k (Gg (G 16)) (G1 (G 24)):=by kernel_rfl
def l4 (k:Nat):Nat->G6
 | 0=>λ _ _ _ _ _=>none
 |n+1=>Hj k (l4 k n) (wv k k)
noncomputable abbrev Ip (k:Nat) (R:Nat->S) (n:Nat):Nat->S:=up R 16 (zv k R 4 n)
theorem Jv (k:Nat) (R:Nat->S):∀n,Gg (zv k R 4 n)=l4 k n
 | 0=>by kernel_rfl
 |n+1=>
  Eq.trans (congrArg Gg (CS [] (by kernel_rfl))) ((Ll k _).trans (Eq.trans (b:=Hj k (Gg ((Ip k R n) 16)) (G1 (zv k (Ip k R n) 6 k))) (by kernel_rfl) (by rw [KO k (Ip k R n) k,(show Gg (Ip k R n 16)=_ from Jv k R n)]<;>kernel_rfl)))
theorem Tp (k:Nat) (G:Nat->S):LX (dr k [] G (U.at 61))=M1 k (Gg (G 16)):=by kernel_rfl
def R7 (k:Nat):PK:=M1 k (l4 k k)
theorem To (k:Nat) (R:Nat->S):LX (k6 k R 61)=R7 k:=
 Eq.trans (congrArg LX (Cd [] (by kernel_rfl))) ((Tp k _).trans (Eq.trans (b:=M1 k (Gg (zv k R 4 k))) (by kernel_rfl) (by rw [Jv k R k]<;>kernel_rfl)))
theorem HH (k:Nat) (G:Nat->S):Fb (dr k [8] G (U.at 8))=FG k (Fb (G 8)) (LX (G 61)):=by kernel_rfl
def l2 (k:Nat):Nat->FM
 | 0=>λ _ _ _ _ _=>none
 |n+1=>FG k (l2 k n) (R7 k)
noncomputable abbrev F5 (k:Nat) (R:Nat->S) (n:Nat):Nat->S:=up R 8 (zv k R 2 n)
theorem GL (k:Nat) (R:Nat->S):∀n,Fb (zv k R 2 n)=l2 k n
 | 0=>by kernel_rfl
 |n+1=>
  Eq.trans (congrArg Fb (CS [] (by kernel_rfl))) ((HH k _).trans (Eq.trans (b:=FG k (Fb ((F5 k R n) 8)) (LX (k6 k (F5 k R n) 61))) (by kernel_rfl) (by rw [To k (F5 k R n),(show Fb (F5 k R n 8)=_ from GL k R n)]<;>kernel_rfl)))
theorem Rv (k:Nat) (G:Nat->S):Jx (dr k [0] G (U.at 15))=JB k (EV (G 0)) (Fb (G 8)):=by kernel_rfl
def r3 (k:Nat) (F9:E1):Lz:=JB k F9 (l2 k k)
theorem Ru (k:Nat) (R:Nat->S):Jx (k6 k R 15)=r3 k (EV (R 0)):=
 Eq.trans (congrArg Jx (Cd [0] (by kernel_rfl))) ((Rv k _).trans (Eq.trans (b:=JB k (EV (R 0)) (Fb (zv k R 2 k))) (by kernel_rfl) (by rw [GL k R k]<;>kernel_rfl)))
theorem F3 (k:Nat) (G:Nat->S):EV (dr k [0] G (U.at 0))=E0 k (Jx (G 15)):=by kernel_rfl
def l0 (k:Nat):Nat->E1
 | 0=>λ _ _=>none
 |n+1=>E0 k (r3 k (l0 k n))
noncomputable abbrev Fh (k:Nat) (R:Nat->S) (n:Nat):Nat->S:=up R 0 (zv k R 0 n)
theorem FA (k:Nat) (R:Nat->S):∀n,EV (zv k R 0 n)=l0 k n
 | 0=>by kernel_rfl
 |n+1=>
  Eq.trans (congrArg EV (CS [] (by kernel_rfl))) ((F3 k _).trans (Eq.trans (b:=E0 k (Jx (k6 k (Fh k R n) 15))) (by kernel_rfl) (by rw [Ru k (Fh k R n),(show EV (Fh k R n 0)=_ from FA k R n)]<;>kernel_rfl)))
theorem EW (k:Nat) (G:Nat->S) (xs:DL sig):dr k [] G [.c 1 0] (uR 100 304 sig xs)=ES k (EV (G 0)) xs.1:=by kernel_rfl
end f114
def f114 (k:Nat) (a0:Iu):Option ((List FI)×Unit):=f114.ES k (f114.l0 k k) a0
namespace f114
theorem eq (k:Nat) (xs:DL sig):den T Y (E k) A k aC 0 (uR 100 304 sig xs) (zw T rs ts)=f114 k xs.1:=
 Eq.trans (Cg (R:=(λ _ _=>none)) (tb:=U)) ((EW k _ xs).trans (Eq.trans (b:=ES k (EV (zv k (λ _ _=>none) 0 k)) xs.1) (by kernel_rfl) (by rw [FA k (λ _ _=>none) k]<;>kernel_rfl)))
noncomputable def aN (k:Nat):jH:=⟨sig,rs,λ xs=>f114 k xs.1⟩
theorem ok (k:Nat):cT Tryz.prog 114 sig rs (λ xs=>f114 k xs.1):=
 (AL (k:=k) (A:=A) (T:=T) (Y:=Y) (E:=E k) (M:=304) (ts:=ts) FL ⟨f99.ok k,f160.ok k,f161.ok k,trivial⟩ ⟨f99.E8,f160.E8,f161.E8,trivial⟩ mixed (f:=114) (fn:=Tryz.f114) (c:=aC) (by kernel_rfl) (by kernel_rfl) (by kernel_rfl) (by decide) (by kernel_rfl)).congr λ xs=>(eq k xs).symm
theorem E8:um Tryz.prog 114:=λ args w=>by kernel_rfl
end f114
namespace f162
noncomputable def aC:Code:=Tryz.f162.body.getD .skip
abbrev sig:List PT:=[(true,E5),(true,E5)]
abbrev rs:List RT:=[.d false (.int .i64)]
abbrev ts:List RV:=[.tmp 4]
abbrev S:=St->Option (eC rs)
def Y:dZ:=[(37,E5)]
noncomputable def E (k:Nat):Env:=[(14,.c (f14.aN k))]
def A:oM:={}
def U:fF:=[]
noncomputable abbrev dr (k:Nat) (rc:List Nat) (G:Nat->S) (F:List PF):S:=λ σ=>ap T Y (E k) A k (zw T rs ts) (cD T Y (E k) A k (zw T rs ts) aC U rc G 9999 F) .nx σ
def ES (k:Nat) (a0 a1:(Int×Int)):Option (Int×Unit):=((f14 k ([a0.1,a0.2]) ([a1.1,a1.2])).bind λ r1=>some (r1.1,()))
theorem EW (k:Nat) (G:Nat->S) (xs:DL sig):dr k [] G [.c 1 0] (uR 8 32 sig xs)=ES k xs.1 xs.2.1:=by kernel_rfl
end f162
def f162 (k:Nat) (a0 a1:(Int×Int)):Option (Int×Unit):=f162.ES k a0 a1
namespace f162
theorem eq (k:Nat) (xs:DL sig):den T Y (E k) A k aC 0 (uR 8 32 sig xs) (zw T rs ts)=f162 k xs.1 xs.2.1:=
 Eq.trans (Cg (R:=(λ _ _=>none)) (tb:=U)) ((EW k _ xs).trans (by kernel_rfl))
noncomputable def aN (k:Nat):jH:=⟨sig,rs,λ xs=>f162 k xs.1 xs.2.1⟩
theorem ok (k:Nat):cT Tryz.prog 162 sig rs (λ xs=>f162 k xs.1 xs.2.1):=
 (AL (k:=k) (A:=A) (T:=T) (Y:=Y) (E:=E k) (M:=32) (ts:=ts) FL ⟨f14.ok k,trivial⟩ ⟨f14.E8,trivial⟩ mixed (f:=162) (fn:=Tryz.f162) (c:=aC) (by kernel_rfl) (by kernel_rfl) (by kernel_rfl) (by decide) (by kernel_rfl)).congr λ xs=>(eq k xs).symm
theorem E8:um Tryz.prog 162:=λ args w=>by kernel_rfl
end f162
namespace f95
abbrev sig:List PT:=[(false,.fn 162)]
abbrev rs:List RT:=[]
abbrev ls:List LO:=[.row E5]
end f95
def f95 (k:Nat) (a:Fa) (a0:Unit):Option ((Fa×Unit)×Unit):=qe (e:=E5) (λ x y=>f162 k x y) a
namespace f95
noncomputable def aN (k:Nat):kI:=⟨0,true,ls,sig,rs,λ x xs=>f95 k x.1 xs.1⟩
theorem ok (k:Nat):gV Tryz.prog 95 0 true ls sig rs (λ x xs=>f95 k x.1 xs.1):=By (e:=E5) (f:=λ x y=>f162 k x y) Tryz.Su rfl (λ w=>by kernel_rfl) (λ w=>by kernel_rfl) (f162.ok k) f162.E8
theorem E8:um Tryz.prog 95:=λ args w=>by kernel_rfl
end f95
namespace f116
noncomputable def aC:Code:=Tryz.f116.body.getD .skip
abbrev sig:List PT:=[(false,(.int .i64)),(false,(.int .i64))]
abbrev rs:List RT:=[.d false .bool]
abbrev ts:List RV:=[.tmp 4]
abbrev S:=St->Option (eC rs)
def Y:dZ:=[]
noncomputable def E (k:Nat):Env:=[]
def A:oM:={}
def U:fF:=[]
noncomputable abbrev dr (k:Nat) (rc:List Nat) (G:Nat->S) (F:List PF):S:=λ σ=>ap T Y (E k) A k (zw T rs ts) (cD T Y (E k) A k (zw T rs ts) aC U rc G 9999 F) .nx σ
def ES (k:Nat) (a0 a1:Int):Option (Bool×Unit):=some (false,())
theorem EW (k:Nat) (G:Nat->S) (xs:DL sig):dr k [] G [.c 1 0] (uR 5 16 sig xs)=ES k xs.1 xs.2.1:=by kernel_rfl
end f116
def f116 (k:Nat) (a0 a1:Int):Option (Bool×Unit):=f116.ES k a0 a1
namespace f116
theorem eq (k:Nat) (xs:DL sig):den T Y (E k) A k aC 0 (uR 5 16 sig xs) (zw T rs ts)=f116 k xs.1 xs.2.1:=
 Eq.trans (Cg (R:=(λ _ _=>none)) (tb:=U)) ((EW k _ xs).trans (by kernel_rfl))
noncomputable def aN (k:Nat):jH:=⟨sig,rs,λ xs=>f116 k xs.1 xs.2.1⟩
theorem ok (k:Nat):cT Tryz.prog 116 sig rs (λ xs=>f116 k xs.1 xs.2.1):=
 (AL (k:=k) (A:=A) (T:=T) (Y:=Y) (E:=E k) (M:=16) (ts:=ts) FL trivial trivial mixed (f:=116) (fn:=Tryz.f116) (c:=aC) (by kernel_rfl) (by kernel_rfl) (by kernel_rfl) (by decide) (by kernel_rfl)).congr λ xs=>(eq k xs).symm
theorem E8:um Tryz.prog 116:=λ args w=>by kernel_rfl
end f116
namespace f163
noncomputable def aC:Code:=Tryz.f163.body.getD .skip
abbrev sig:List PT:=[(false,(.int .i64)),(false,(.int .i64)),(false,(.int .i64)),(false,(.int .i64))]
abbrev rs:List RT:=[]
abbrev ts:List RV:=[]
abbrev ls:List LO:=[.map E5 (.int .i64)]
abbrev S:=St->Option (cv ls×eC rs)
def Y:dZ:=[(56,Fp)]
noncomputable def E (k:Nat):Env:=[]
def A:oM:={ loops:=[(0,{ slots:=[(0,.id),(29,.id),(30,.id),(31,.id)],keys:=[(0,[]),(29,[])] }),(2,{ slots:=[(0,.id),(11,.id),(29,.id),(30,.id),(31,.id),(35,.id)],keys:=[(0,[]),(11,[]),(29,[])] })] }
def U:fF:=[(0,[.c 60 0,.r 0,.b 0]),(8,[.c 15564 2,.r 2,.b 2,.b 1,.c 487 0,.r 0,.b 0])]
noncomputable abbrev k6 (k:Nat) (R:Nat->S) (q:Nat):S:=cx T Y (E k) A k (yF T 0 true ls rs ts) aC U R q
noncomputable abbrev ur (k:Nat) (rc:List Nat) (R:Nat->S):Nat->S:=ext T Y (E k) A k (yF T 0 true ls rs ts) aC U rc R
noncomputable abbrev zv (k:Nat) (R:Nat->S) (i n:Nat):S:=lx T Y (E k) A k (yF T 0 true ls rs ts) aC U R i n
noncomputable abbrev dr (k:Nat) (rc:List Nat) (G:Nat->S) (F:List PF):S:=λ σ=>ap T Y (E k) A k (yF T 0 true ls rs ts) (cD T Y (E k) A k (yF T 0 true ls rs ts) aC U rc G 9999 F) .nx σ
def F4 (y0:FW) (y29:Ft) (I8 x31:Int):St:=Dn 55 177 [(0,.cp (.one (.mp 0))),(29,aO 29),(30,aI I8),(31,aI x31)] [(0,.map E5 (.int .i64) y0 none),(29,.vec Fp y29)]
abbrev E1:=FW->Ft->Int->Int->Option ((HT×Unit)×(Unit))
abbrev EV (R:S):E1:=(λ y0 y29 I8 x31=>R (F4 y0 y29 I8 x31))
def HK (y0:FW) (GQ GR GS:Int) (y29:Ft) (I8 x31 JH:Int):St:=Dn 55 177 [(0,.cp (.one (.mp 0))),(11,aP 11),(29,aO 29),(30,aI I8),(31,aI x31),(35,aI JH)] [(0,.map E5 (.int .i64) y0 none),(11,.box [cI GQ,cI GR,cI GS]),(29,.vec Fp y29)]
abbrev FM:=FW->Int->Int->Int->Ft->Int->Int->Int->Option ((HT×Unit)×(Unit))
abbrev Fb (R:S):FM:=(λ y0 GQ GR GS y29 I8 x31 JH=>R (HK y0 GQ GR GS y29 I8 x31 JH))
def ES (k:Nat) (Fe:E1) (a:HT) (a0 a1 a2 a3:Int):Option ((HT×Unit)×(Unit)):=(Fe (jU (kB (.pair (.int .i64) (.int .i64))) (jU (kB (.pair (.int .i64) (.int .i64))) a (a0,a1)) (a1,a0)) ([(a0,(a3,a2)),(a1,(a2,a3))]) (([(a0,(a3,a2)),(a1,(a2,a3))]).length:Int) 0)
def E0 (k:Nat) (Gd:FM) (y0:FW) (y29:Ft) (I8 x31:Int):Option ((HT×Unit)×(Unit)):=(if x31 <I8 then (if 0<=x31 then (if x31 <(y29.length:Int) then (Gd y0 ((y29.getD ((x31).toNat) (0,(0,0))).1) (((y29.getD ((x31).toNat) (0,(0,0))).2).1) (((y29.getD ((x31).toNat) (0,(0,0))).2).2) y29 I8 x31 0) else none) else none) else some ((y0,()),(())))
def FG (k:Nat) (Fe:E1) (Gd:FM) (y0:FW) (GQ GR GS:Int) (y29:Ft) (I8 x31 JH:Int):Option ((HT×Unit)×(Unit)):=(if JH <3 then (if 0<=JH then (if JH <(3:Int) then (if 0<=((AJ (JH+1)).tmod 3) then (if ((AJ (JH+1)).tmod 3) <(3:Int) then (if 0<=((AJ (JH+2)).tmod 3) then (if ((AJ (JH+2)).tmod 3) <(3:Int) then (Gd (jV (kB (.pair (.int .i64) (.int .i64))) y0 ((([GQ,GR,GS]:List Int).getD ((JH).toNat) 0),(([GQ,GR,GS]:List Int).getD ((((AJ (JH+1)).tmod 3)).toNat) 0)) (([GQ,GR,GS]:List Int).getD ((((AJ (JH+2)).tmod 3)).toNat) 0)) GQ GR GS y29 I8 x31 (AJ (JH+1))) else none) else none) else none) else none) else none) else none) else (Fe y0 y29 I8 (AJ (x31+1))))
theorem HH (k:Nat) (G:Nat->S):Fb (dr k [8,0] G (U.at 8))=FG k (EV (G 0)) (Fb (G 8)):=by kernel_rfl
def l2 (k:Nat) (F9:E1):Nat->FM
 | 0=>λ _ _ _ _ _ _ _ _=>none
 |n+1=>FG k F9 (l2 k F9 n)
noncomputable abbrev F5 (k:Nat) (R:Nat->S) (n:Nat):Nat->S:=up R 8 (zv k R 2 n)
theorem GL (k:Nat) (R:Nat->S):∀n,Fb (zv k R 2 n)=l2 k (EV (R 0)) n
 | 0=>by kernel_rfl
 |n+1=>
  Eq.trans (congrArg Fb (CS [0] (by kernel_rfl))) ((HH k _).trans (Eq.trans (b:=FG k (EV ((F5 k R n) 0)) (Fb ((F5 k R n) 8))) (by kernel_rfl) (by rw [(show Fb (F5 k R n 8)=_ from GL k R n)]<;>kernel_rfl)))
theorem F3 (k:Nat) (G:Nat->S):EV (dr k [0] G (U.at 0))=E0 k (Fb (G 8)):=by kernel_rfl
def l0 (k:Nat):Nat->E1
 | 0=>λ _ _ _ _=>none
 |n+1=>E0 k (l2 k (l0 k n) k)
noncomputable abbrev Fh (k:Nat) (R:Nat->S) (n:Nat):Nat->S:=up R 0 (zv k R 0 n)
theorem FA (k:Nat) (R:Nat->S):∀n,EV (zv k R 0 n)=l0 k n
 | 0=>by kernel_rfl
 |n+1=>
  Eq.trans (congrArg EV (CS [] (by kernel_rfl))) ((F3 k _).trans (Eq.trans (b:=E0 k (Fb (zv k (Fh k R n) 2 k))) (by kernel_rfl) (by rw [GL k (Fh k R n) k,(show EV (Fh k R n 0)=_ from FA k R n)]<;>kernel_rfl)))
theorem EW (k:Nat) (G:Nat->S) (x:cv ls) (xs:DL sig):dr k [] G [.c 1 0] (gU 55 177 0 ls x sig xs)=ES k (EV (G 0)) x.1 xs.1 xs.2.1 xs.2.2.1 xs.2.2.2.1:=by kernel_rfl
end f163
def f163 (k:Nat) (a:HT) (a0 a1 a2 a3:Int):Option ((HT×Unit)×(Unit)):=f163.ES k (f163.l0 k k) a a0 a1 a2 a3
namespace f163
theorem eq (k:Nat) (x:cv ls) (xs:DL sig):den T Y (E k) A k aC 0 (gU 55 177 0 ls x sig xs) (yF T 0 true ls rs ts)=f163 k x.1 xs.1 xs.2.1 xs.2.2.1 xs.2.2.2.1:=
 Eq.trans (Cg (R:=(λ _ _=>none)) (tb:=U)) ((EW k _ x xs).trans (Eq.trans (b:=ES k (EV (zv k (λ _ _=>none) 0 k)) x.1 xs.1 xs.2.1 xs.2.2.1 xs.2.2.2.1) (by kernel_rfl) (by rw [FA k (λ _ _=>none) k]<;>kernel_rfl)))
noncomputable def aN (k:Nat):kI:=⟨0,true,ls,sig,rs,λ x xs=>f163 k x.1 xs.1 xs.2.1 xs.2.2.1 xs.2.2.2.1⟩
theorem ok (k:Nat):gV Tryz.prog 163 0 true ls sig rs (λ x xs=>f163 k x.1 xs.1 xs.2.1 xs.2.2.1 xs.2.2.2.1):=
 (AM (k:=k) (A:=A) (T:=T) (Y:=Y) (E:=E k) (M:=177) (ts:=ts) FL trivial trivial mixed (f:=163) (fn:=Tryz.f163) (c:=aC) (by kernel_rfl) (by kernel_rfl) (by kernel_rfl) (by decide) (by kernel_rfl) (by decide)).congr λ x xs=>(eq k x xs).symm
theorem E8:um Tryz.prog 163:=λ args w=>by kernel_rfl
end f163
namespace f76
noncomputable def aC:Code:=Tryz.f76.body.getD .skip
abbrev sig:List PT:=[(true,Fp),(true,Fp)]
abbrev rs:List RT:=[.d false (.int .i64)]
abbrev ts:List RV:=[.tmp 4]
abbrev S:=St->Option (eC rs)
def Y:dZ:=[(56,Fp)]
noncomputable def E (k:Nat):Env:=[(14,.c (f14.aN k))]
def A:oM:={}
def U:fF:=[]
noncomputable abbrev dr (k:Nat) (rc:List Nat) (G:Nat->S) (F:List PF):S:=λ σ=>ap T Y (E k) A k (zw T rs ts) (cD T Y (E k) A k (zw T rs ts) aC U rc G 9999 F) .nx σ
def ES (k:Nat) (a0 a1:FI):Option (Int×Unit):=((f14 k ([a0.1,a0.2.1,a0.2.2]) ([a1.1,a1.2.1,a1.2.2])).bind λ r1=>some (r1.1,()))
theorem EW (k:Nat) (G:Nat->S) (xs:DL sig):dr k [] G [.c 1 0] (uR 8 32 sig xs)=ES k xs.1 xs.2.1:=by kernel_rfl
end f76
def f76 (k:Nat) (a0 a1:FI):Option (Int×Unit):=f76.ES k a0 a1
namespace f76
theorem eq (k:Nat) (xs:DL sig):den T Y (E k) A k aC 0 (uR 8 32 sig xs) (zw T rs ts)=f76 k xs.1 xs.2.1:=
 Eq.trans (Cg (R:=(λ _ _=>none)) (tb:=U)) ((EW k _ xs).trans (by kernel_rfl))
noncomputable def aN (k:Nat):jH:=⟨sig,rs,λ xs=>f76 k xs.1 xs.2.1⟩
theorem ok (k:Nat):cT Tryz.prog 76 sig rs (λ xs=>f76 k xs.1 xs.2.1):=
 (AL (k:=k) (A:=A) (T:=T) (Y:=Y) (E:=E k) (M:=32) (ts:=ts) FL ⟨f14.ok k,trivial⟩ ⟨f14.E8,trivial⟩ mixed (f:=76) (fn:=Tryz.f76) (c:=aC) (by kernel_rfl) (by kernel_rfl) (by kernel_rfl) (by decide) (by kernel_rfl)).congr λ xs=>(eq k xs).symm
theorem E8:um Tryz.prog 76:=λ args w=>by kernel_rfl
end f76
namespace f30
abbrev sig:List PT:=[(false,.fn 76)]
abbrev rs:List RT:=[]
abbrev ls:List LO:=[.row Fp]
end f30
def f30 (k:Nat) (a:(List FI)) (a0:Unit):Option (((List FI)×Unit)×Unit):=qe (e:=Fp) (λ x y=>f76 k x y) a
namespace f30
noncomputable def aN (k:Nat):kI:=⟨0,true,ls,sig,rs,λ x xs=>f30 k x.1 xs.1⟩
theorem ok (k:Nat):gV Tryz.prog 30 0 true ls sig rs (λ x xs=>f30 k x.1 xs.1):=By (e:=Fp) (f:=λ x y=>f76 k x y) Tryz.OQ rfl (λ w=>by kernel_rfl) (λ w=>by kernel_rfl) (f76.ok k) f76.E8
theorem E8:um Tryz.prog 30:=λ args w=>by kernel_rfl
end f30
namespace f35
noncomputable def aC:Code:=Tryz.f35.body.getD .skip
abbrev sig:List PT:=[(false,LG)]
abbrev rs:List RT:=[.new Fp]
abbrev ts:List RV:=[.tmp 2]
abbrev S:=St->Option (eC rs)
def Y:dZ:=[(56,Fp)]
noncomputable def E (k:Nat):Env:=[(30,.b (f30.aN k))]
def A:oM:={ loops:=[(0,{ Bu:=[(3,34,Fp)],slots:=[(3,.id),(6,.val false Fp),(7,.id),(8,.id)],keys:=[(34,[])] }),(2,{ Bu:=[(3,34,Fp)],slots:=[(3,.id),(5,.id),(6,.val false Fp),(7,.id),(8,.id)],keys:=[(5,[]),(34,[])] })],qF:=[(5,{ Bu:=[(3,34,Fp)],slots:=[(3,.id),(5,.id),(6,.val false Fp),(7,.id),(8,.id),(23,.bool)],keys:=[(5,[]),(34,[])] })] }
def U:fF:=[(0,[.c 116 0,.r 0,.b 0,.c 15 0]),(8,[.c 29896 2,.r 2,.b 2,.c 7475 1,.b 1,.c 935 0,.r 0,.b 0,.c 15 0]),(23,[.c 119585 2,.c 59793 2,.r 2,.b 2,.c 7475 1,.b 1,.c 935 0,.r 0,.b 0,.c 15 0])]
noncomputable abbrev k6 (k:Nat) (R:Nat->S) (q:Nat):S:=cx T Y (E k) A k (zw T rs ts) aC U R q
noncomputable abbrev ur (k:Nat) (rc:List Nat) (R:Nat->S):Nat->S:=ext T Y (E k) A k (zw T rs ts) aC U rc R
noncomputable abbrev zv (k:Nat) (R:Nat->S) (i n:Nat):S:=lx T Y (E k) A k (zw T rs ts) aC U R i n
noncomputable abbrev dr (k:Nat) (rc:List Nat) (G:Nat->S) (F:List PF):S:=λ σ=>ap T Y (E k) A k (zw T rs ts) (cD T Y (E k) A k (zw T rs ts) aC U rc G 9999 F) .nx σ
def F4 (y34 mm:Ft) (nk fz:Int):St:=Dn 39 128 [(3,aO 34),(6,aV Fp mm),(7,aI nk),(8,aI fz)] [(34,.vec Fp y34)]
abbrev E1:=Ft->Ft->Int->Int->Option ((List FI)×Unit)
abbrev EV (R:S):E1:=(λ y34 mm nk fz=>R (F4 y34 mm nk fz))
def HK (y34:Ft) (E9 FN Hp:Int) (mm:Ft) (nk fz:Int):St:=Dn 39 128 [(3,aO 34),(5,aP 5),(6,aV Fp mm),(7,aI nk),(8,aI fz)] [(5,.box [cI E9,cI FN,cI Hp]),(34,.vec Fp y34)]
abbrev FM:=Ft->Int->Int->Int->Ft->Int->Int->Option ((List FI)×Unit)
abbrev Fb (R:S):FM:=(λ y34 E9 FN Hp mm nk fz=>R (HK y34 E9 FN Hp mm nk fz))
def RH (y34:Ft) (E9 FN Hp:Int) (E7:Bool) (mm:Ft) (nk fz:Int):St:=Dn 39 128 [(3,aO 34),(5,aP 5),(6,aV Fp mm),(7,aI nk),(8,aI fz),(23,aB E7)] [(5,.box [cI E9,cI FN,cI Hp]),(34,.vec Fp y34)]
abbrev LA:=Ft->Int->Int->Int->Bool->Ft->Int->Int->Option ((List FI)×Unit)
abbrev Jy (R:S):LA:=(λ y34 E9 FN Hp E7 mm nk fz=>R (RH y34 E9 FN Hp E7 mm nk fz))
def ES (k:Nat) (Fe:E1) (a0:(List FI)):Option ((List FI)×Unit):=(Fe ([]:List (Int×(Int×Int))) a0 (a0.length:Int) 0)
def E0 (k:Nat) (Gd:FM) (y34 mm:Ft) (nk fz:Int):Option ((List FI)×Unit):=(if fz <nk then (if 0<=fz then (if fz <(mm.length:Int) then (Gd y34 ((mm.getD (fz).toNat (0,(0,0))).1) (((mm.getD (fz).toNat (0,(0,0))).2).1) (((mm.getD (fz).toNat (0,(0,0))).2).2) mm nk fz) else none) else none) else ((f30 k y34 ()).bind λ r1=>some (r1.1.1,())))
def FG (k:Nat) (Nr:LA) (y34:Ft) (E9 FN Hp:Int) (mm:Ft) (nk fz:Int):Option ((List FI)×Unit):=(if FN <E9 then (Nr y34 E9 FN Hp true mm nk fz) else (Nr y34 E9 FN Hp (decide (Hp <E9)) mm nk fz))
def JC (k:Nat) (Fe:E1) (Gd:FM) (y34:Ft) (E9 FN Hp:Int) (E7:Bool) (mm:Ft) (nk fz:Int):Option ((List FI)×Unit):=(if E7=true then (Gd y34 FN Hp E9 mm nk fz) else (if (y34.length+1) * 24<=140737488355328 then (Fe (y34++[(E9,(FN,Hp))]) mm nk (AJ (fz+1))) else none))
theorem Rz (k:Nat) (G:Nat->S):Jy (dr k [8,0] G (U.at 23))=JC k (EV (G 0)) (Fb (G 8)):=by kernel_rfl
def r5 (k:Nat) (I5:FM) (F9:E1):LA:=JC k F9 I5
theorem Ry (k:Nat) (R:Nat->S):Jy (k6 k R 23)=r5 k (Fb (R 8)) (EV (R 0)):=
 Eq.trans (congrArg Jy (Cd [8,0] (by kernel_rfl))) ((Rz k _).trans (by kernel_rfl))
theorem HH (k:Nat) (G:Nat->S):Fb (dr k [8,0] G (U.at 8))=FG k (Jy (G 23)):=by kernel_rfl
def l2 (k:Nat) (F9:E1):Nat->FM
 | 0=>λ _ _ _ _ _ _ _=>none
 |n+1=>FG k (r5 k (l2 k F9 n) F9)
noncomputable abbrev F5 (k:Nat) (R:Nat->S) (n:Nat):Nat->S:=up R 8 (zv k R 2 n)
theorem GL (k:Nat) (R:Nat->S):∀n,Fb (zv k R 2 n)=l2 k (EV (R 0)) n
 | 0=>by kernel_rfl
 |n+1=>
  Eq.trans (congrArg Fb (CS [0] (by kernel_rfl))) ((HH k _).trans (Eq.trans (b:=FG k (Jy (k6 k (F5 k R n) 23))) (by kernel_rfl) (by rw [Ry k (F5 k R n),(show Fb (F5 k R n 8)=_ from GL k R n)]<;>kernel_rfl)))
theorem F3 (k:Nat) (G:Nat->S):EV (dr k [0] G (U.at 0))=E0 k (Fb (G 8)):=by kernel_rfl
def l0 (k:Nat):Nat->E1
 | 0=>λ _ _ _ _=>none
 |n+1=>E0 k (l2 k (l0 k n) k)
noncomputable abbrev Fh (k:Nat) (R:Nat->S) (n:Nat):Nat->S:=up R 0 (zv k R 0 n)
theorem FA (k:Nat) (R:Nat->S):∀n,EV (zv k R 0 n)=l0 k n
 | 0=>by kernel_rfl
 |n+1=>
  Eq.trans (congrArg EV (CS [] (by kernel_rfl))) ((F3 k _).trans (Eq.trans (b:=E0 k (Fb (zv k (Fh k R n) 2 k))) (by kernel_rfl) (by rw [GL k (Fh k R n) k,(show EV (Fh k R n 0)=_ from FA k R n)]<;>kernel_rfl)))
theorem EW (k:Nat) (G:Nat->S) (xs:DL sig):dr k [] G [.c 1 0] (uR 39 128 sig xs)=ES k (EV (G 0)) xs.1:=by kernel_rfl
end f35
def f35 (k:Nat) (a0:(List FI)):Option ((List FI)×Unit):=f35.ES k (f35.l0 k k) a0
namespace f35
theorem eq (k:Nat) (xs:DL sig):den T Y (E k) A k aC 0 (uR 39 128 sig xs) (zw T rs ts)=f35 k xs.1:=
 Eq.trans (Cg (R:=(λ _ _=>none)) (tb:=U)) ((EW k _ xs).trans (Eq.trans (b:=ES k (EV (zv k (λ _ _=>none) 0 k)) xs.1) (by kernel_rfl) (by rw [FA k (λ _ _=>none) k]<;>kernel_rfl)))
noncomputable def aN (k:Nat):jH:=⟨sig,rs,λ xs=>f35 k xs.1⟩
theorem ok (k:Nat):cT Tryz.prog 35 sig rs (λ xs=>f35 k xs.1):=
 (AL (k:=k) (A:=A) (T:=T) (Y:=Y) (E:=E k) (M:=128) (ts:=ts) FL ⟨f30.ok k,trivial⟩ ⟨f30.E8,trivial⟩ mixed (f:=35) (fn:=Tryz.f35) (c:=aC) (by kernel_rfl) (by kernel_rfl) (by kernel_rfl) (by decide) (by kernel_rfl)).congr λ xs=>(eq k xs).symm
theorem E8:um Tryz.prog 35:=λ args w=>by kernel_rfl
end f35
namespace f164
noncomputable def aC:Code:=Tryz.f164.body.getD .skip
abbrev sig:List PT:=[]
abbrev rs:List RT:=[.new Fp]
abbrev ts:List RV:=[.tmp 2]
abbrev ls:List LO:=[.map E5 (.int .i64)]
abbrev S:=St->Option (cv ls×eC rs)
def Y:dZ:=[(56,Fp)]
noncomputable def E (k:Nat):Env:=[(35,.c (f35.aN k))]
def A:oM:={ loops:=[(0,{ Bu:=[(3,32,Fp)],slots:=[(0,.id),(3,.id),(7,.id)],keys:=[(0,[]),(7,[]),(32,[])] })],qF:=[(5,{ Bu:=[(3,32,Fp)],slots:=[(0,.id),(3,.id),(4,.id),(5,.id),(7,.id),(23,.bool)],keys:=[(0,[]),(4,[]),(7,[]),(32,[])] })],conds:=[(6,{ Bu:=[(3,32,Fp)],slots:=[(0,.id),(3,.id),(7,.id)],keys:=[(0,[]),(7,[]),(32,[])] })] }
def U:fF:=[(0,[.c 116 0,.r 0,.b 0,.c 15 0]),(23,[.c 3739 1,.b 1,.r 0,.b 0,.c 15 0]),(25,[.b 1,.r 0,.b 0,.c 15 0])]
noncomputable abbrev k6 (k:Nat) (R:Nat->S) (q:Nat):S:=cx T Y (E k) A k (yF T 0 true ls rs ts) aC U R q
noncomputable abbrev ur (k:Nat) (rc:List Nat) (R:Nat->S):Nat->S:=ext T Y (E k) A k (yF T 0 true ls rs ts) aC U rc R
noncomputable abbrev zv (k:Nat) (R:Nat->S) (i n:Nat):S:=lx T Y (E k) A k (yF T 0 true ls rs ts) aC U R i n
noncomputable abbrev dr (k:Nat) (rc:List Nat) (G:Nat->S) (F:List PF):S:=λ σ=>ap T Y (E k) A k (yF T 0 true ls rs ts) (cD T Y (E k) A k (yF T 0 true ls rs ts) aC U rc G 9999 F) .nx σ
def F4 (y0:FW) (G2:(Option ((Int×Int)×Int))) (Gt:FW) (y32:Ft):St:=Dn 35 113 [(0,.cp (.one (.mp 0))),(3,aO 32),(7,aP 7)] [(0,.map E5 (.int .i64) y0 (some (7,Gt,G2))),(7,.tok 0),(32,.vec Fp y32)]
abbrev E1:=FW->(Option ((Int×Int)×Int))->FW->Ft->Option ((HT×Unit)×((List FI)×Unit))
abbrev EV (R:S):E1:=(λ y0 G2 Gt y32=>R (F4 y0 G2 Gt y32))
def RH (y0:FW) (G2:((Int×Int)×Int)) (Gt:FW) (y32:Ft) (GO Oq:Int) (E7:Bool) (gi:Int):St:=Dn 35 113 [(0,.cp (.one (.mp 0))),(3,aO 32),(4,aP 4),(5,aI gi),(7,aP 7),(23,aB E7)] [(0,.map E5 (.int .i64) y0 (some (7,Gt,(some G2)))),(4,.box [cI GO,cI Oq]),(7,.tok 0),(32,.vec Fp y32)]
abbrev LA:=FW->((Int×Int)×Int)->FW->Ft->Int->Int->Bool->Int->Option ((HT×Unit)×((List FI)×Unit))
abbrev Jy (R:S):LA:=(λ y0 G2 Gt y32 GO Oq E7 gi=>R (RH y0 G2 Gt y32 GO Oq E7 gi))
def UL (y0:FW) (G2:((Int×Int)×Int)) (Gt:FW) (y32:Ft):St:=Dn 35 113 [(0,.cp (.one (.mp 0))),(3,aO 32),(7,aP 7)] [(0,.map E5 (.int .i64) y0 (some (7,Gt,(some G2)))),(7,.tok 0),(32,.vec Fp y32)]
abbrev RS:=FW->((Int×Int)×Int)->FW->Ft->Option ((HT×Unit)×((List FI)×Unit))
abbrev NO (R:S):RS:=(λ y0 G2 Gt y32=>R (UL y0 G2 Gt y32))
def ES (k:Nat) (Fe:E1) (a:HT):Option ((HT×Unit)×((List FI)×Unit)):=(Fe a none a ([]:List (Int×(Int×Int))))
def E0 (k:Nat) (Nr:LA) (y0:FW) (G2:(Option ((Int×Int)×Int))) (Gt:FW) (y32:Ft):Option ((HT×Unit)×((List FI)×Unit)):=(p7 Gt ((f35 k y32).bind λ r2=>some ((y0,()),(r2.1,()))) (λ GZ Ji=>(if GZ.1.1 <GZ.1.2 then (Nr y0 GZ Ji y32 GZ.1.1 GZ.1.2 (decide (GZ.1.1 <GZ.2)) GZ.2) else (Nr y0 GZ Ji y32 GZ.1.1 GZ.1.2 false GZ.2))))
def JC (k:Nat) (SX:RS) (y0:FW) (G2:((Int×Int)×Int)) (Gt:FW) (y32:Ft) (GO Oq:Int) (E7:Bool) (gi:Int):Option ((HT×Unit)×((List FI)×Unit)):=(if E7=true then (if (y32.length+1) * 24<=140737488355328 then (SX y0 G2 Gt (y32++[(GO,(Oq,gi))])) else none) else (SX y0 G2 Gt y32))
def Pc (k:Nat) (Fe:E1) (y0:FW) (G2:((Int×Int)×Int)) (Gt:FW) (y32:Ft):Option ((HT×Unit)×((List FI)×Unit)):=(Fe y0 (some G2) Gt y32)
theorem Uk (k:Nat) (G:Nat->S):NO (dr k [0] G (U.at 25))=Pc k (EV (G 0)):=by kernel_rfl
def DF (k:Nat) (F9:E1):RS:=Pc k F9
theorem Uj (k:Nat) (R:Nat->S):NO (k6 k R 25)=DF k (EV (R 0)):=
 Eq.trans (congrArg NO (Cd [0] (by kernel_rfl))) ((Uk k _).trans (by kernel_rfl))
theorem Rz (k:Nat) (G:Nat->S):Jy (dr k [0] G (U.at 23))=JC k (NO (G 25)):=by kernel_rfl
def r5 (k:Nat) (F9:E1):LA:=JC k (DF k F9)
theorem Ry (k:Nat) (R:Nat->S):Jy (k6 k R 23)=r5 k (EV (R 0)):=
 Eq.trans (congrArg Jy (Cd [0] (by kernel_rfl))) ((Rz k _).trans (Eq.trans (b:=JC k (NO (k6 k R 25))) (by kernel_rfl) (by rw [Uj k R]<;>kernel_rfl)))
theorem F3 (k:Nat) (G:Nat->S):EV (dr k [0] G (U.at 0))=E0 k (Jy (G 23)):=by kernel_rfl
def l0 (k:Nat):Nat->E1
 | 0=>λ _ _ _ _=>none
 |n+1=>E0 k (r5 k (l0 k n))
noncomputable abbrev Fh (k:Nat) (R:Nat->S) (n:Nat):Nat->S:=up R 0 (zv k R 0 n)
theorem FA (k:Nat) (R:Nat->S):∀n,EV (zv k R 0 n)=l0 k n
 | 0=>by kernel_rfl
 |n+1=>
  Eq.trans (congrArg EV (CS [] (by kernel_rfl))) ((F3 k _).trans (Eq.trans (b:=E0 k (Jy (k6 k (Fh k R n) 23))) (by kernel_rfl) (by rw [Ry k (Fh k R n),(show EV (Fh k R n 0)=_ from FA k R n)]<;>kernel_rfl)))
theorem EW (k:Nat) (G:Nat->S) (x:cv ls) (xs:DL sig):dr k [] G [.c 1 0] (gU 35 113 0 ls x sig xs)=ES k (EV (G 0)) x.1:=by kernel_rfl
end f164
def f164 (k:Nat) (a:HT):Option ((HT×Unit)×((List FI)×Unit)):=f164.ES k (f164.l0 k k) a
namespace f164
theorem eq (k:Nat) (x:cv ls) (xs:DL sig):den T Y (E k) A k aC 0 (gU 35 113 0 ls x sig xs) (yF T 0 true ls rs ts)=f164 k x.1:=
 Eq.trans (Cg (R:=(λ _ _=>none)) (tb:=U)) ((EW k _ x xs).trans (Eq.trans (b:=ES k (EV (zv k (λ _ _=>none) 0 k)) x.1) (by kernel_rfl) (by rw [FA k (λ _ _=>none) k]<;>kernel_rfl)))
noncomputable def aN (k:Nat):kI:=⟨0,true,ls,sig,rs,λ x xs=>f164 k x.1⟩
theorem ok (k:Nat):gV Tryz.prog 164 0 true ls sig rs (λ x xs=>f164 k x.1):=
 (AM (k:=k) (A:=A) (T:=T) (Y:=Y) (E:=E k) (M:=113) (ts:=ts) FL ⟨f35.ok k,trivial⟩ ⟨f35.E8,trivial⟩ mixed (f:=164) (fn:=Tryz.f164) (c:=aC) (by kernel_rfl) (by kernel_rfl) (by kernel_rfl) (by decide) (by kernel_rfl) (by decide)).congr λ x xs=>(eq k x xs).symm
theorem E8:um Tryz.prog 164:=λ args w=>by kernel_rfl
end f164
namespace f115
noncomputable def aC:Code:=Tryz.f115.body.getD .skip
abbrev sig:List PT:=[(false,LF),(false,LG),(false,(.fn 116))]
abbrev rs:List RT:=[.new Fp]
abbrev ts:List RV:=[.tmp 6]
abbrev S:=St->Option (eC rs)
def Y:dZ:=[(37,E5),(1000044,E5)]
noncomputable def E (k:Nat):Env:=[(69,.c (f69.aN k)),(72,.c (f72.aN k)),(95,.b (f95.aN k)),(116,.c (f116.aN k)),(163,.b (f163.aN k)),(164,.b (f164.aN k))]
def A:oM:={ loops:=[(0,{ Bu:=[(8,28,E5)],slots:=[(0,.val false E5),(2,.id),(7,.id),(8,.id),(20,.id)],keys:=[(18,[]),(20,[]),(28,[])] }),(2,{ slots:=[(0,.val false E5),(2,.id),(7,.id),(8,.id)],keys:=[(18,[]),(28,[])] })],qF:=[(14,{ slots:=[(0,.val false E5),(2,.id),(7,.id),(8,.id),(11,.id),(12,.id),(13,.id),(15,.id),(85,.bool)],keys:=[(18,[]),(28,[])] })],qk:=[(3,{ slots:=[(0,.val false E5),(2,.id),(7,.id),(8,.id)],keys:=[(18,[]),(28,[])] })] }
def U:fF:=[(0,[.c 244 0,.r 0,.b 0,.c 31 0]),(8,[.c 504 2,.r 2,.b 2,.c 127 0]),(59,[.c 258429 3,.c 129215 3,.b 3,.r 2,.b 2,.c 127 0]),(14,[.r 2,.b 2,.c 127 0])]
noncomputable abbrev k6 (k:Nat) (R:Nat->S) (q:Nat):S:=cx T Y (E k) A k (zw T rs ts) aC U R q
noncomputable abbrev ur (k:Nat) (rc:List Nat) (R:Nat->S):Nat->S:=ext T Y (E k) A k (zw T rs ts) aC U rc R
noncomputable abbrev zv (k:Nat) (R:Nat->S) (i n:Nat):S:=lx T Y (E k) A k (zw T rs ts) aC U R i n
noncomputable abbrev dr (k:Nat) (rc:List Nat) (G:Nat->S) (F:List PF):S:=λ σ=>ap T Y (E k) A k (zw T rs ts) (cD T Y (E k) A k (zw T rs ts) aC U rc G 9999 F) .nx σ
def F4 (GD:FW) (Lb:(Option ((Int×Int)×Int))) (JI:FW) (y28 x0:Fa):St:=Dn 109 336 [(0,aV E5 x0),(2,.cp (.one (.fn 116 []))),(7,.cp (.one (.mp 18))),(8,aO 28),(20,aP 20)] [(18,.map E5 (.int .i64) GD (some (20,JI,Lb))),(20,.tok 18),(28,.vec E5 y28)]
abbrev E1:=FW->(Option ((Int×Int)×Int))->FW->Fa->Fa->Option ((List FI)×Unit)
abbrev EV (R:S):E1:=(λ GD Lb JI y28 x0=>R (F4 GD Lb JI y28 x0))
def HK (GD:FW) (y28 x0:Fa):St:=Dn 109 336 [(0,aV E5 x0),(2,.cp (.one (.fn 116 []))),(7,.cp (.one (.mp 18))),(8,aO 28)] [(18,.map E5 (.int .i64) GD none),(28,.vec E5 y28)]
abbrev FM:=FW->Fa->Fa->Option ((List FI)×Unit)
abbrev Fb (R:S):FM:=(λ GD y28 x0=>R (HK GD y28 x0))
def PA (GD:FW) (y28 x0:Fa) (FH Fq He Ih:Int) (QI:Bool):St:=Dn 109 336 [(0,aV E5 x0),(2,.cp (.one (.fn 116 []))),(7,.cp (.one (.mp 18))),(8,aO 28),(11,aI FH),(12,aI Fq),(13,aI He),(15,aI Ih),(85,aB QI)] [(18,.map E5 (.int .i64) GD none),(28,.vec E5 y28)]
abbrev Ky:=FW->Fa->Fa->Int->Int->Int->Int->Bool->Option ((List FI)×Unit)
abbrev Iy (R:S):Ky:=(λ GD y28 x0 FH Fq He Ih QI=>R (PA GD y28 x0 FH Fq He Ih QI))
def UH (GD:FW) (y28 x0:Fa):St:=Dn 109 336 [(0,aV E5 x0),(2,.cp (.one (.fn 116 []))),(7,.cp (.one (.mp 18))),(8,aO 28)] [(18,.map E5 (.int .i64) GD none),(28,.vec E5 y28)]
abbrev RO:=FW->Fa->Fa->Option ((List FI)×Unit)
abbrev NK (R:S):RO:=(λ GD y28 x0=>R (UH GD y28 x0))
def ES (k:Nat) (Fe:E1) (a0:Iu) (a1:(List FI)) (a2:Unit):Option ((List FI)×Unit):=((f69 k a1).bind λ r1=>(Fe r1.1.1 none r1.1.1 ([]:List (Int×Int)) a0))
def E0 (k:Nat) (Fe:E1) (Gd:FM) (GD:FW) (Lb:(Option ((Int×Int)×Int))) (JI:FW) (y28 x0:Fa):Option ((List FI)×Unit):=(p7 JI ((f95 k y28 ()).bind λ r2=>(Gd GD r2.1.1 x0)) (λ GZ Ji=>(if (y28.length+1) * 16<=140737488355328 then (Fe GD (some GZ) Ji (y28++[(GZ.1.1,GZ.1.2)]) x0) else none)))
def FG (k:Nat) (IP:Ky) (GD:FW) (y28 x0:Fa):Option ((List FI)×Unit):=(if 0 <(y28.length:Int) then (if 0<=(AJ ((y28.length:Int) - 1)) then (if (AJ ((y28.length:Int) - 1)) <(y28.length:Int) then (if 0<=(AJ ((y28.length:Int) - 1)) then (if (AJ ((y28.length:Int) - 1))<=(y28.length:Int) then (if ¬((dA (kB (.pair (.int .i64) (.int .i64))) GD ((y28.getD ((AJ ((y28.length:Int) - 1)).toNat) (0,0)).1,(y28.getD ((AJ ((y28.length:Int) - 1)).toNat) (0,0)).2)).isSome=true) then (IP GD (y28.take (AJ ((y28.length:Int) - 1)).toNat) x0 ((y28.getD ((AJ ((y28.length:Int) - 1)).toNat) (0,0)).1) ((y28.getD ((AJ ((y28.length:Int) - 1)).toNat) (0,0)).2) ((dA (kB (.pair (.int .i64) (.int .i64))) GD ((y28.getD ((AJ ((y28.length:Int) - 1)).toNat) (0,0)).1,(y28.getD ((AJ ((y28.length:Int) - 1)).toNat) (0,0)).2)).getD 0) ((dA (kB (.pair (.int .i64) (.int .i64))) GD ((y28.getD ((AJ ((y28.length:Int) - 1)).toNat) (0,0)).2,(y28.getD ((AJ ((y28.length:Int) - 1)).toNat) (0,0)).1)).getD 0) true) else (if ¬((dA (kB (.pair (.int .i64) (.int .i64))) GD ((y28.getD ((AJ ((y28.length:Int) - 1)).toNat) (0,0)).2,(y28.getD ((AJ ((y28.length:Int) - 1)).toNat) (0,0)).1)).isSome=true) then (IP GD (y28.take (AJ ((y28.length:Int) - 1)).toNat) x0 ((y28.getD ((AJ ((y28.length:Int) - 1)).toNat) (0,0)).1) ((y28.getD ((AJ ((y28.length:Int) - 1)).toNat) (0,0)).2) ((dA (kB (.pair (.int .i64) (.int .i64))) GD ((y28.getD ((AJ ((y28.length:Int) - 1)).toNat) (0,0)).1,(y28.getD ((AJ ((y28.length:Int) - 1)).toNat) (0,0)).2)).getD 0) ((dA (kB (.pair (.int .i64) (.int .i64))) GD ((y28.getD ((AJ ((y28.length:Int) - 1)).toNat) (0,0)).2,(y28.getD ((AJ ((y28.length:Int) - 1)).toNat) (0,0)).1)).getD 0) true) else ((f116 k ((y28.getD ((AJ ((y28.length:Int) - 1)).toNat) (0,0)).1) ((y28.getD ((AJ ((y28.length:Int) - 1)).toNat) (0,0)).2)).bind λ r1=>(if r1.1=true then (IP GD (y28.take (AJ ((y28.length:Int) - 1)).toNat) x0 ((y28.getD ((AJ ((y28.length:Int) - 1)).toNat) (0,0)).1) ((y28.getD ((AJ ((y28.length:Int) - 1)).toNat) (0,0)).2) ((dA (kB (.pair (.int .i64) (.int .i64))) GD ((y28.getD ((AJ ((y28.length:Int) - 1)).toNat) (0,0)).1,(y28.getD ((AJ ((y28.length:Int) - 1)).toNat) (0,0)).2)).getD 0) ((dA (kB (.pair (.int .i64) (.int .i64))) GD ((y28.getD ((AJ ((y28.length:Int) - 1)).toNat) (0,0)).2,(y28.getD ((AJ ((y28.length:Int) - 1)).toNat) (0,0)).1)).getD 0) true) else ((f72 k x0 ((y28.getD ((AJ ((y28.length:Int) - 1)).toNat) (0,0)).1) ((y28.getD ((AJ ((y28.length:Int) - 1)).toNat) (0,0)).2) ((dA (kB (.pair (.int .i64) (.int .i64))) GD ((y28.getD ((AJ ((y28.length:Int) - 1)).toNat) (0,0)).1,(y28.getD ((AJ ((y28.length:Int) - 1)).toNat) (0,0)).2)).getD 0) ((dA (kB (.pair (.int .i64) (.int .i64))) GD ((y28.getD ((AJ ((y28.length:Int) - 1)).toNat) (0,0)).2,(y28.getD ((AJ ((y28.length:Int) - 1)).toNat) (0,0)).1)).getD 0)).bind λ r2=>(IP GD (y28.take (AJ ((y28.length:Int) - 1)).toNat) x0 ((y28.getD ((AJ ((y28.length:Int) - 1)).toNat) (0,0)).1) ((y28.getD ((AJ ((y28.length:Int) - 1)).toNat) (0,0)).2) ((dA (kB (.pair (.int .i64) (.int .i64))) GD ((y28.getD ((AJ ((y28.length:Int) - 1)).toNat) (0,0)).1,(y28.getD ((AJ ((y28.length:Int) - 1)).toNat) (0,0)).2)).getD 0) ((dA (kB (.pair (.int .i64) (.int .i64))) GD ((y28.getD ((AJ ((y28.length:Int) - 1)).toNat) (0,0)).2,(y28.getD ((AJ ((y28.length:Int) - 1)).toNat) (0,0)).1)).getD 0) (decide (¬(r2.1=true))))))))) else none) else none) else none) else none) else ((f164 k GD).bind λ r3=>some (r3.2.1,())))
def IQ (k:Nat) (SR:RO) (GD:FW) (y28 x0:Fa) (FH Fq He Ih:Int) (QI:Bool):Option ((List FI)×Unit):=(if QI=true then (SR GD y28 x0) else ((f163 k GD FH Fq He Ih).bind λ r1=>(if (y28.length+([(Fq,He),(He,FH),(FH,Ih),(Ih,Fq)]).length) * 16<=140737488355328 then (SR r1.1.1 (y28++[(Fq,He),(He,FH),(FH,Ih),(Ih,Fq)]) x0) else none)))
def O8 (k:Nat) (Gd:FM) (GD:FW) (y28 x0:Fa):Option ((List FI)×Unit):=(Gd GD y28 x0)
theorem Uc (k:Nat) (G:Nat->S):NK (dr k [8] G (U.at 14))=O8 k (Fb (G 8)):=by kernel_rfl
def b3 (k:Nat) (I5:FM):RO:=O8 k I5
theorem Ub (k:Nat) (R:Nat->S):NK (k6 k R 14)=b3 k (Fb (R 8)):=
 Eq.trans (congrArg NK (Cd [8] (by kernel_rfl))) ((Uc k _).trans (by kernel_rfl))
theorem Pu (k:Nat) (G:Nat->S):Iy (dr k [8] G (U.at 59))=IQ k (NK (G 14)):=by kernel_rfl
def KD (k:Nat) (I5:FM):Ky:=IQ k (b3 k I5)
theorem Pt (k:Nat) (R:Nat->S):Iy (k6 k R 59)=KD k (Fb (R 8)):=
 Eq.trans (congrArg Iy (Cd [8] (by kernel_rfl))) ((Pu k _).trans (Eq.trans (b:=IQ k (NK (k6 k R 14))) (by kernel_rfl) (by rw [Ub k R]<;>kernel_rfl)))
theorem HH (k:Nat) (G:Nat->S):Fb (dr k [8] G (U.at 8))=FG k (Iy (G 59)):=by kernel_rfl
def l2 (k:Nat):Nat->FM
 | 0=>λ _ _ _=>none
 |n+1=>FG k (KD k (l2 k n))
noncomputable abbrev F5 (k:Nat) (R:Nat->S) (n:Nat):Nat->S:=up R 8 (zv k R 2 n)
theorem GL (k:Nat) (R:Nat->S):∀n,Fb (zv k R 2 n)=l2 k n
 | 0=>by kernel_rfl
 |n+1=>
  Eq.trans (congrArg Fb (CS [] (by kernel_rfl))) ((HH k _).trans (Eq.trans (b:=FG k (Iy (k6 k (F5 k R n) 59))) (by kernel_rfl) (by rw [Pt k (F5 k R n),(show Fb (F5 k R n 8)=_ from GL k R n)]<;>kernel_rfl)))
theorem F3 (k:Nat) (G:Nat->S):EV (dr k [0] G (U.at 0))=E0 k (EV (G 0)) (Fb (G 8)):=by kernel_rfl
def l0 (k:Nat):Nat->E1
 | 0=>λ _ _ _ _ _=>none
 |n+1=>E0 k (l0 k n) (l2 k k)
noncomputable abbrev Fh (k:Nat) (R:Nat->S) (n:Nat):Nat->S:=up R 0 (zv k R 0 n)
theorem FA (k:Nat) (R:Nat->S):∀n,EV (zv k R 0 n)=l0 k n
 | 0=>by kernel_rfl
 |n+1=>
  Eq.trans (congrArg EV (CS [] (by kernel_rfl))) ((F3 k _).trans (Eq.trans (b:=E0 k (EV ((Fh k R n) 0)) (Fb (zv k (Fh k R n) 2 k))) (by kernel_rfl) (by rw [GL k (Fh k R n) k,(show EV (Fh k R n 0)=_ from FA k R n)]<;>kernel_rfl)))
theorem EW (k:Nat) (G:Nat->S) (xs:DL sig):dr k [] G [.c 1 0] (uR 109 336 sig xs)=ES k (EV (G 0)) xs.1 xs.2.1 xs.2.2.1:=by kernel_rfl
end f115
def f115 (k:Nat) (a0:Iu) (a1:(List FI)) (a2:Unit):Option ((List FI)×Unit):=f115.ES k (f115.l0 k k) a0 a1 a2
namespace f115
theorem eq (k:Nat) (xs:DL sig):den T Y (E k) A k aC 0 (uR 109 336 sig xs) (zw T rs ts)=f115 k xs.1 xs.2.1 xs.2.2.1:=
 Eq.trans (Cg (R:=(λ _ _=>none)) (tb:=U)) ((EW k _ xs).trans (Eq.trans (b:=ES k (EV (zv k (λ _ _=>none) 0 k)) xs.1 xs.2.1 xs.2.2.1) (by kernel_rfl) (by rw [FA k (λ _ _=>none) k]<;>kernel_rfl)))
noncomputable def aN (k:Nat):jH:=⟨sig,rs,λ xs=>f115 k xs.1 xs.2.1 xs.2.2.1⟩
theorem ok (k:Nat):cT Tryz.prog 115 sig rs (λ xs=>f115 k xs.1 xs.2.1 xs.2.2.1):=
 (AL (k:=k) (A:=A) (T:=T) (Y:=Y) (E:=E k) (M:=336) (ts:=ts) FL ⟨f69.ok k,f72.ok k,f95.ok k,f116.ok k,f163.ok k,f164.ok k,trivial⟩ ⟨f69.E8,f72.E8,f95.E8,f116.E8,f163.E8,f164.E8,trivial⟩ mixed (f:=115) (fn:=Tryz.f115) (c:=aC) (by kernel_rfl) (by kernel_rfl) (by kernel_rfl) (by decide) (by kernel_rfl)).congr λ xs=>(eq k xs).symm
theorem E8:um Tryz.prog 115:=λ args w=>by kernel_rfl
end f115
namespace f67
noncomputable def aC:Code:=Tryz.f67.body.getD .skip
abbrev sig:List PT:=[(false,LF)]
abbrev rs:List RT:=[.d true PV,.d false (.int .i64)]
abbrev ts:List RV:=[.cell 2 25,.tmp 3]
abbrev S:=St->Option (eC rs)
def Y:dZ:=[]
noncomputable def E (k:Nat):Env:=[(101,.c (f101.aN k)),(113,.c (f113.aN k)),(114,.c (f114.aN k)),(115,.c (f115.aN k))]
def A:oM:={ loops:=[(0,{ slots:=[(0,.val false E5),(2,.id),(12,.val false E5),(13,.id),(14,.id)],keys:=[(2,[])] })] }
def U:fF:=[(0,[.c 116 0,.r 0,.b 0,.c 15 0])]
noncomputable abbrev k6 (k:Nat) (R:Nat->S) (q:Nat):S:=cx T Y (E k) A k (zw T rs ts) aC U R q
noncomputable abbrev ur (k:Nat) (rc:List Nat) (R:Nat->S):Nat->S:=ext T Y (E k) A k (zw T rs ts) aC U rc R
noncomputable abbrev zv (k:Nat) (R:Nat->S) (i n:Nat):S:=lx T Y (E k) A k (zw T rs ts) aC U R i n
noncomputable abbrev dr (k:Nat) (rc:List Nat) (G:Nat->S) (F:List PF):S:=λ σ=>ap T Y (E k) A k (zw T rs ts) (cD T Y (E k) A k (zw T rs ts) aC U rc G 9999 F) .nx σ
def F4 (x0:Fa) (He GH:Int):St:=Dn 40 128 [(0,aV E5 x0),(2,aP 2),(12,aV E5 x0),(13,aI He),(14,aI GH)] [(2,.box [.nil,.nil])]
abbrev E1:=Fa->Int->Int->Option (KB×Int×Unit)
abbrev EV (R:S):E1:=(λ x0 He GH=>R (F4 x0 He GH))
def ES (k:Nat) (Fe:E1) (a0:Iu):Option (KB×Int×Unit):=(if 200 <(a0.length:Int) then some (([],[]),2,()) else (Fe a0 (a0.length:Int) 0))
def E0 (k:Nat) (Fe:E1) (x0:Fa) (He GH:Int):Option (KB×Int×Unit):=(if GH <He then (if 0<=GH then (if GH <(x0.length:Int) then ((f101 k ((x0.getD (GH).toNat (0,0)).1,(x0.getD (GH).toNat (0,0)).2)).bind λ r1=>(if ¬(r1.1=true) then some (([],[]),1,()) else (Fe x0 He (AJ (GH+1))))) else none) else none) else ((f113 k x0).bind λ r2=>(if (r2.1.length:Int) <3 then some (([],[]),14,()) else ((f114 k r2.1).bind λ r3=>(if (r3.1.length:Int)=0 then some (([],[]),14,()) else ((f115 k r2.1 r3.1 ()).bind λ r4=>some ((r2.1,r4.1),0,())))))))
theorem F3 (k:Nat) (G:Nat->S):EV (dr k [0] G (U.at 0))=E0 k (EV (G 0)):=by kernel_rfl
def l0 (k:Nat):Nat->E1
 | 0=>λ _ _ _=>none
 |n+1=>E0 k (l0 k n)
noncomputable abbrev Fh (k:Nat) (R:Nat->S) (n:Nat):Nat->S:=up R 0 (zv k R 0 n)
theorem FA (k:Nat) (R:Nat->S):∀n,EV (zv k R 0 n)=l0 k n
 | 0=>by kernel_rfl
 |n+1=>
  Eq.trans (congrArg EV (CS [] (by kernel_rfl))) ((F3 k _).trans (Eq.trans (b:=E0 k (EV ((Fh k R n) 0))) (by kernel_rfl) (by rw [(show EV (Fh k R n 0)=_ from FA k R n)]<;>kernel_rfl)))
theorem EW (k:Nat) (G:Nat->S) (xs:DL sig):dr k [] G [.c 1 0] (uR 40 128 sig xs)=ES k (EV (G 0)) xs.1:=by kernel_rfl
end f67
def f67 (k:Nat) (a0:Iu):Option (KB×Int×Unit):=f67.ES k (f67.l0 k k) a0
namespace f67
theorem eq (k:Nat) (xs:DL sig):den T Y (E k) A k aC 0 (uR 40 128 sig xs) (zw T rs ts)=f67 k xs.1:=
 Eq.trans (Cg (R:=(λ _ _=>none)) (tb:=U)) ((EW k _ xs).trans (Eq.trans (b:=ES k (EV (zv k (λ _ _=>none) 0 k)) xs.1) (by kernel_rfl) (by rw [FA k (λ _ _=>none) k]<;>kernel_rfl)))
noncomputable def aN (k:Nat):jH:=⟨sig,rs,λ xs=>f67 k xs.1⟩
theorem ok (k:Nat):cT Tryz.prog 67 sig rs (λ xs=>f67 k xs.1):=
 (AL (k:=k) (A:=A) (T:=T) (Y:=Y) (E:=E k) (M:=128) (ts:=ts) FL ⟨f101.ok k,f113.ok k,f114.ok k,f115.ok k,trivial⟩ ⟨f101.E8,f113.E8,f114.E8,f115.E8,trivial⟩ mixed (f:=67) (fn:=Tryz.f67) (c:=aC) (by kernel_rfl) (by kernel_rfl) (by kernel_rfl) (by decide) (by kernel_rfl)).congr λ xs=>(eq k xs).symm
theorem E8:um Tryz.prog 67:=λ args w=>by kernel_rfl
end f67
namespace f25
noncomputable def aC:Code:=Tryz.f25.body.getD .skip
abbrev sig:List PT:=[]
abbrev rs:List RT:=[.d false .bool]
abbrev ts:List RV:=[.tmp 0]
abbrev S:=St->Option (eC rs)
def Y:dZ:=[(55,E5),(56,Fp)]
noncomputable def E (k:Nat):Env:=[(27,.c (f27.aN k)),(34,.c (f34.aN k)),(62,.c (f62.aN k)),(67,.c (f67.aN k))]
def A:oM:={ qF:=[(2,{ slots:=[(0,.bool)] })] }
def U:fF:=[(11,[.c 15 0])]
noncomputable abbrev k6 (k:Nat) (R:Nat->S) (q:Nat):S:=cx T Y (E k) A k (zw T rs ts) aC U R q
noncomputable abbrev ur (k:Nat) (rc:List Nat) (R:Nat->S):Nat->S:=ext T Y (E k) A k (zw T rs ts) aC U rc R
noncomputable abbrev dr (k:Nat) (rc:List Nat) (G:Nat->S) (F:List PF):S:=λ σ=>ap T Y (E k) A k (zw T rs ts) (cD T Y (E k) A k (zw T rs ts) aC U rc G 9999 F) .nx σ
def UN (x0:Bool):St:=Dn 25 80 [(0,aB x0)] []
abbrev RW:=Bool->Option (Bool×Unit)
abbrev NQ (R:S):RW:=(λ x0=>R (UN x0))
def ES (k:Nat) (Rb:RW)  :Option (Bool×Unit):=((f67 k ([(2,0),(0,0),(0,2)])).bind λ r1=>(if r1.2.1=0 then ((f34 k r1.1.2 ([(0,(2,1))])).bind λ r2=>(if r2.1=true then ((f62 k ).bind λ r3=>((f27 k (r3.1.1,r3.1.2)).bind λ r4=>(Rb (decide (r4.1=0))))) else (Rb false))) else (Rb false)))
def Td (k:Nat) (x0:Bool):Option (Bool×Unit):=some (decide (x0=true),())
theorem UC (k:Nat) (G:Nat->S):NQ (dr k [] G (U.at 11))=Td k:=by kernel_rfl
def r2 (k:Nat):RW:=Td k
theorem UB (k:Nat) (R:Nat->S):NQ (k6 k R 11)=r2 k:=
 Eq.trans (congrArg NQ (Cd [] (by kernel_rfl))) ((UC k _).trans (by kernel_rfl))
theorem EW (k:Nat) (G:Nat->S) (xs:DL sig):dr k [] G [.c 1 0] (uR 25 80 sig xs)=ES k (NQ (G 11))  :=by kernel_rfl
end f25
def f25 (k:Nat)  :Option (Bool×Unit):=f25.ES k (f25.r2 k)
namespace f25
theorem eq (k:Nat) (xs:DL sig):den T Y (E k) A k aC 0 (uR 25 80 sig xs) (zw T rs ts)=f25 k  :=
 Eq.trans (Cg (R:=(λ _ _=>none)) (tb:=U)) ((EW k _ xs).trans (Eq.trans (b:=ES k (NQ (k6 k (λ _ _=>none) 11)) ) (by kernel_rfl) (by rw [UB k (λ _ _=>none)]<;>kernel_rfl)))
noncomputable def aN (k:Nat):jH:=⟨sig,rs,λ xs=>f25 k ⟩
theorem ok (k:Nat):cT Tryz.prog 25 sig rs (λ xs=>f25 k ):=
 (AL (k:=k) (A:=A) (T:=T) (Y:=Y) (E:=E k) (M:=80) (ts:=ts) FL ⟨f27.ok k,f34.ok k,f62.ok k,f67.ok k,trivial⟩ ⟨f27.E8,f34.E8,f62.E8,f67.E8,trivial⟩ mixed (f:=25) (fn:=Tryz.f25) (c:=aC) (by kernel_rfl) (by kernel_rfl) (by kernel_rfl) (by decide) (by kernel_rfl)).congr λ xs=>(eq k xs).symm
theorem E8:um Tryz.prog 25:=λ args w=>by kernel_rfl
end f25
namespace f28
noncomputable def aC:Code:=Tryz.f28.body.getD .skip
abbrev sig:List PT:=[(false,OE),(false,(.int .i64))]
abbrev rs:List RT:=[.d false (.int .i64)]
abbrev ts:List RV:=[.tmp 4]
abbrev S:=St->Option (eC rs)
def Y:dZ:=[]
noncomputable def E (k:Nat):Env:=[]
def A:oM:={ loops:=[(0,{ slots:=[(0,.val false (.int .i64)),(1,.id),(7,.id),(8,.id)] })] }
def U:fF:=[(0,[.c 52 0,.r 0,.b 0,.c 7 0])]
noncomputable abbrev k6 (k:Nat) (R:Nat->S) (q:Nat):S:=cx T Y (E k) A k (zw T rs ts) aC U R q
noncomputable abbrev ur (k:Nat) (rc:List Nat) (R:Nat->S):Nat->S:=ext T Y (E k) A k (zw T rs ts) aC U rc R
noncomputable abbrev zv (k:Nat) (R:Nat->S) (i n:Nat):S:=lx T Y (E k) A k (zw T rs ts) aC U R i n
noncomputable abbrev dr (k:Nat) (rc:List Nat) (G:Nat->S) (F:List PF):S:=λ σ=>ap T Y (E k) A k (zw T rs ts) (cD T Y (E k) A k (zw T rs ts) aC U rc G 9999 F) .nx σ
def F4 (x0:Fy) (x1 nk fz:Int):St:=Dn 19 64 [(0,aV (.int .i64) x0),(1,aI x1),(7,aI nk),(8,aI fz)] []
abbrev E1:=Fy->Int->Int->Int->Option (Int×Unit)
abbrev EV (R:S):E1:=(λ x0 x1 nk fz=>R (F4 x0 x1 nk fz))
def ES (k:Nat) (Fe:E1) (a0:Fy) (a1:Int):Option (Int×Unit):=(Fe a0 a1 (a0.length:Int) 0)
def E0 (k:Nat) (Fe:E1) (x0:Fy) (x1 nk fz:Int):Option (Int×Unit):=(if fz <nk then (if 0<=fz then (if fz <(x0.length:Int) then (if x1=(x0.getD (fz).toNat 0) then some (fz,()) else (Fe x0 x1 nk (AJ (fz+1)))) else none) else none) else some ((-1),()))
theorem F3 (k:Nat) (G:Nat->S):EV (dr k [0] G (U.at 0))=E0 k (EV (G 0)):=by kernel_rfl
def l0 (k:Nat):Nat->E1
 | 0=>λ _ _ _ _=>none
 |n+1=>E0 k (l0 k n)
noncomputable abbrev Fh (k:Nat) (R:Nat->S) (n:Nat):Nat->S:=up R 0 (zv k R 0 n)
theorem FA (k:Nat) (R:Nat->S):∀n,EV (zv k R 0 n)=l0 k n
 | 0=>by kernel_rfl
 |n+1=>
  Eq.trans (congrArg EV (CS [] (by kernel_rfl))) ((F3 k _).trans (Eq.trans (b:=E0 k (EV ((Fh k R n) 0))) (by kernel_rfl) (by rw [(show EV (Fh k R n 0)=_ from FA k R n)]<;>kernel_rfl)))
theorem EW (k:Nat) (G:Nat->S) (xs:DL sig):dr k [] G [.c 1 0] (uR 19 64 sig xs)=ES k (EV (G 0)) xs.1 xs.2.1:=by kernel_rfl
end f28
def f28 (k:Nat) (a0:Fy) (a1:Int):Option (Int×Unit):=f28.ES k (f28.l0 k k) a0 a1
namespace f28
theorem eq (k:Nat) (xs:DL sig):den T Y (E k) A k aC 0 (uR 19 64 sig xs) (zw T rs ts)=f28 k xs.1 xs.2.1:=
 Eq.trans (Cg (R:=(λ _ _=>none)) (tb:=U)) ((EW k _ xs).trans (Eq.trans (b:=ES k (EV (zv k (λ _ _=>none) 0 k)) xs.1 xs.2.1) (by kernel_rfl) (by rw [FA k (λ _ _=>none) k]<;>kernel_rfl)))
noncomputable def aN (k:Nat):jH:=⟨sig,rs,λ xs=>f28 k xs.1 xs.2.1⟩
theorem ok (k:Nat):cT Tryz.prog 28 sig rs (λ xs=>f28 k xs.1 xs.2.1):=
 (AL (k:=k) (A:=A) (T:=T) (Y:=Y) (E:=E k) (M:=64) (ts:=ts) FL trivial trivial mixed (f:=28) (fn:=Tryz.f28) (c:=aC) (by kernel_rfl) (by kernel_rfl) (by kernel_rfl) (by decide) (by kernel_rfl)).congr λ xs=>(eq k xs).symm
theorem E8:um Tryz.prog 28:=λ args w=>by kernel_rfl
end f28
namespace f29
noncomputable def aC:Code:=Tryz.f29.body.getD .skip
abbrev sig:List PT:=[(false,OE)]
abbrev rs:List RT:=[.d false (.int .i64)]
abbrev ts:List RV:=[.tmp 2]
abbrev S:=St->Option (eC rs)
def Y:dZ:=[]
noncomputable def E (k:Nat):Env:=[]
def A:oM:={ conds:=[(2,{ slots:=[(0,.val false (.int .i64))] })],loops:=[(0,{ slots:=[(0,.val false (.int .i64)),(3,.id),(4,.id)] })] }
def U:fF:=[(9,[.c 7 0]),(0,[.c 244 0,.r 0,.b 0,.c 31 0])]
noncomputable abbrev k6 (k:Nat) (R:Nat->S) (q:Nat):S:=cx T Y (E k) A k (zw T rs ts) aC U R q
noncomputable abbrev ur (k:Nat) (rc:List Nat) (R:Nat->S):Nat->S:=ext T Y (E k) A k (zw T rs ts) aC U rc R
noncomputable abbrev zv (k:Nat) (R:Nat->S) (i n:Nat):S:=lx T Y (E k) A k (zw T rs ts) aC U R i n
noncomputable abbrev dr (k:Nat) (rc:List Nat) (G:Nat->S) (F:List PF):S:=λ σ=>ap T Y (E k) A k (zw T rs ts) (cD T Y (E k) A k (zw T rs ts) aC U rc G 9999 F) .nx σ
def RF (x0:Fy):St:=Dn 25 80 [(0,aV (.int .i64) x0)] []
abbrev Lx:=Fy->Option (Int×Unit)
abbrev Jw (R:S):Lx:=(λ x0=>R (RF x0))
def F4 (x0:Fy) (e9 k5:Int):St:=Dn 25 80 [(0,aV (.int .i64) x0),(3,aI e9),(4,aI k5)] []
abbrev E1:=Fy->Int->Int->Option (Int×Unit)
abbrev EV (R:S):E1:=(λ x0 e9 k5=>R (F4 x0 e9 k5))
def ES (k:Nat) (Ra:Lx) (a0:Fy):Option (Int×Unit):=(if (a0.length:Int) <1 then none else (Ra a0))
def KG (k:Nat) (Fe:E1) (x0:Fy):Option (Int×Unit):=(if 0 <(x0.length:Int) then (Fe x0 (x0.getD (0:Int).toNat 0) 1) else none)
def E0 (k:Nat) (Fe:E1) (x0:Fy) (e9 k5:Int):Option (Int×Unit):=(if k5 <(x0.length:Int) then (if 0<=k5 then (if k5 <(x0.length:Int) then (Fe x0 (uJ false e9 (x0.getD (k5).toNat 0)) (AJ (k5+1))) else none) else none) else some (e9,()))
theorem F3 (k:Nat) (G:Nat->S):EV (dr k [0] G (U.at 0))=E0 k (EV (G 0)):=by kernel_rfl
def l0 (k:Nat):Nat->E1
 | 0=>λ _ _ _=>none
 |n+1=>E0 k (l0 k n)
noncomputable abbrev Fh (k:Nat) (R:Nat->S) (n:Nat):Nat->S:=up R 0 (zv k R 0 n)
theorem FA (k:Nat) (R:Nat->S):∀n,EV (zv k R 0 n)=l0 k n
 | 0=>by kernel_rfl
 |n+1=>
  Eq.trans (congrArg EV (CS [] (by kernel_rfl))) ((F3 k _).trans (Eq.trans (b:=E0 k (EV ((Fh k R n) 0))) (by kernel_rfl) (by rw [(show EV (Fh k R n 0)=_ from FA k R n)]<;>kernel_rfl)))
theorem QM (k:Nat) (G:Nat->S):Jw (dr k [] G (U.at 9))=KG k (EV (G 0)):=by kernel_rfl
def c2 (k:Nat):Lx:=KG k (l0 k k)
theorem QL (k:Nat) (R:Nat->S):Jw (k6 k R 9)=c2 k:=
 Eq.trans (congrArg Jw (Cd [] (by kernel_rfl))) ((QM k _).trans (Eq.trans (b:=KG k (EV (zv k R 0 k))) (by kernel_rfl) (by rw [FA k R k]<;>kernel_rfl)))
theorem EW (k:Nat) (G:Nat->S) (xs:DL sig):dr k [] G [.c 1 0] (uR 25 80 sig xs)=ES k (Jw (G 9)) xs.1:=by kernel_rfl
end f29
def f29 (k:Nat) (a0:Fy):Option (Int×Unit):=f29.ES k (f29.c2 k) a0
namespace f29
theorem eq (k:Nat) (xs:DL sig):den T Y (E k) A k aC 0 (uR 25 80 sig xs) (zw T rs ts)=f29 k xs.1:=
 Eq.trans (Cg (R:=(λ _ _=>none)) (tb:=U)) ((EW k _ xs).trans (Eq.trans (b:=ES k (Jw (k6 k (λ _ _=>none) 9)) xs.1) (by kernel_rfl) (by rw [QL k (λ _ _=>none)]<;>kernel_rfl)))
noncomputable def aN (k:Nat):jH:=⟨sig,rs,λ xs=>f29 k xs.1⟩
theorem ok (k:Nat):cT Tryz.prog 29 sig rs (λ xs=>f29 k xs.1):=
 (AL (k:=k) (A:=A) (T:=T) (Y:=Y) (E:=E k) (M:=80) (ts:=ts) FL trivial trivial mixed (f:=29) (fn:=Tryz.f29) (c:=aC) (by kernel_rfl) (by kernel_rfl) (by kernel_rfl) (by decide) (by kernel_rfl)).congr λ xs=>(eq k xs).symm
theorem E8:um Tryz.prog 29:=λ args w=>by kernel_rfl
end f29
namespace f33
noncomputable def aC:Code:=Tryz.f33.body.getD .skip
abbrev sig:List PT:=[(true,Fp)]
abbrev rs:List RT:=[.d false .bool]
abbrev ts:List RV:=[.tmp 2]
abbrev S:=St->Option (eC rs)
def Y:dZ:=[]
noncomputable def E (k:Nat):Env:=[]
def A:oM:={ qF:=[(1,{ slots:=[(2,.bool)] })] }
def U:fF:=[(7,[.c 7 0])]
noncomputable abbrev k6 (k:Nat) (R:Nat->S) (q:Nat):S:=cx T Y (E k) A k (zw T rs ts) aC U R q
noncomputable abbrev ur (k:Nat) (rc:List Nat) (R:Nat->S):Nat->S:=ext T Y (E k) A k (zw T rs ts) aC U rc R
noncomputable abbrev dr (k:Nat) (rc:List Nat) (G:Nat->S) (F:List PF):S:=λ σ=>ap T Y (E k) A k (zw T rs ts) (cD T Y (E k) A k (zw T rs ts) aC U rc G 9999 F) .nx σ
def N6 (x2:Bool):St:=Dn 22 80 [(2,aB x2)] []
abbrev JG:=Bool->Option (Bool×Unit)
abbrev HY (R:S):JG:=(λ x2=>R (N6 x2))
def ES (k:Nat) (Js:JG) (a0:FI):Option (Bool×Unit):=(if a0.1=a0.2.1 then (Js true) else (if a0.2.1=a0.2.2 then (Js true) else (Js (decide (a0.1=a0.2.2)))))
def I4 (k:Nat) (x2:Bool):Option (Bool×Unit):=some (decide (x2=true),())
theorem NZ (k:Nat) (G:Nat->S):HY (dr k [] G (U.at 7))=I4 k:=by kernel_rfl
def r1 (k:Nat):JG:=I4 k
theorem NY (k:Nat) (R:Nat->S):HY (k6 k R 7)=r1 k:=
 Eq.trans (congrArg HY (Cd [] (by kernel_rfl))) ((NZ k _).trans (by kernel_rfl))
theorem EW (k:Nat) (G:Nat->S) (xs:DL sig):dr k [] G [.c 1 0] (uR 22 80 sig xs)=ES k (HY (G 7)) xs.1:=by kernel_rfl
end f33
def f33 (k:Nat) (a0:FI):Option (Bool×Unit):=f33.ES k (f33.r1 k) a0
namespace f33
theorem eq (k:Nat) (xs:DL sig):den T Y (E k) A k aC 0 (uR 22 80 sig xs) (zw T rs ts)=f33 k xs.1:=
 Eq.trans (Cg (R:=(λ _ _=>none)) (tb:=U)) ((EW k _ xs).trans (Eq.trans (b:=ES k (HY (k6 k (λ _ _=>none) 7)) xs.1) (by kernel_rfl) (by rw [NY k (λ _ _=>none)]<;>kernel_rfl)))
noncomputable def aN (k:Nat):jH:=⟨sig,rs,λ xs=>f33 k xs.1⟩
theorem ok (k:Nat):cT Tryz.prog 33 sig rs (λ xs=>f33 k xs.1):=
 (AL (k:=k) (A:=A) (T:=T) (Y:=Y) (E:=E k) (M:=80) (ts:=ts) FL trivial trivial mixed (f:=33) (fn:=Tryz.f33) (c:=aC) (by kernel_rfl) (by kernel_rfl) (by kernel_rfl) (by decide) (by kernel_rfl)).congr λ xs=>(eq k xs).symm
theorem E8:um Tryz.prog 33:=λ args w=>by kernel_rfl
end f33
namespace f75
noncomputable def aC:Code:=Tryz.f75.body.getD .skip
abbrev sig:List PT:=[(false,LG),(false,(.fn 33))]
abbrev rs:List RT:=[.d false (.int .i64)]
abbrev ts:List RV:=[.tmp 4]
abbrev S:=St->Option (eC rs)
def Y:dZ:=[]
noncomputable def E (k:Nat):Env:=[(33,.c (f33.aN k))]
def A:oM:={ loops:=[(0,{ slots:=[(0,.val false Fp),(1,.id),(7,.id),(8,.id)] })] }
def U:fF:=[(0,[.c 52 0,.r 0,.b 0,.c 7 0])]
noncomputable abbrev k6 (k:Nat) (R:Nat->S) (q:Nat):S:=cx T Y (E k) A k (zw T rs ts) aC U R q
noncomputable abbrev ur (k:Nat) (rc:List Nat) (R:Nat->S):Nat->S:=ext T Y (E k) A k (zw T rs ts) aC U rc R
noncomputable abbrev zv (k:Nat) (R:Nat->S) (i n:Nat):S:=lx T Y (E k) A k (zw T rs ts) aC U R i n
noncomputable abbrev dr (k:Nat) (rc:List Nat) (G:Nat->S) (F:List PF):S:=λ σ=>ap T Y (E k) A k (zw T rs ts) (cD T Y (E k) A k (zw T rs ts) aC U rc G 9999 F) .nx σ
def F4 (x0:Ft) (nk fz:Int):St:=Dn 19 64 [(0,aV Fp x0),(1,.cp (.one (.fn 33 []))),(7,aI nk),(8,aI fz)] []
abbrev E1:=Ft->Int->Int->Option (Int×Unit)
abbrev EV (R:S):E1:=(λ x0 nk fz=>R (F4 x0 nk fz))
def ES (k:Nat) (Fe:E1) (a0:(List FI)) (a1:Unit):Option (Int×Unit):=(Fe a0 (a0.length:Int) 0)
def E0 (k:Nat) (Fe:E1) (x0:Ft) (nk fz:Int):Option (Int×Unit):=(if fz <nk then (if 0<=fz then (if fz <(x0.length:Int) then ((f33 k ((x0.getD (fz).toNat (0,(0,0))).1,(((x0.getD (fz).toNat (0,(0,0))).2).1,((x0.getD (fz).toNat (0,(0,0))).2).2))).bind λ r1=>(if r1.1=true then some (fz,()) else (Fe x0 nk (AJ (fz+1))))) else none) else none) else some ((-1),()))
theorem F3 (k:Nat) (G:Nat->S):EV (dr k [0] G (U.at 0))=E0 k (EV (G 0)):=by kernel_rfl
def l0 (k:Nat):Nat->E1
 | 0=>λ _ _ _=>none
 |n+1=>E0 k (l0 k n)
noncomputable abbrev Fh (k:Nat) (R:Nat->S) (n:Nat):Nat->S:=up R 0 (zv k R 0 n)
theorem FA (k:Nat) (R:Nat->S):∀n,EV (zv k R 0 n)=l0 k n
 | 0=>by kernel_rfl
 |n+1=>
  Eq.trans (congrArg EV (CS [] (by kernel_rfl))) ((F3 k _).trans (Eq.trans (b:=E0 k (EV ((Fh k R n) 0))) (by kernel_rfl) (by rw [(show EV (Fh k R n 0)=_ from FA k R n)]<;>kernel_rfl)))
theorem EW (k:Nat) (G:Nat->S) (xs:DL sig):dr k [] G [.c 1 0] (uR 19 64 sig xs)=ES k (EV (G 0)) xs.1 xs.2.1:=by kernel_rfl
end f75
def f75 (k:Nat) (a0:(List FI)) (a1:Unit):Option (Int×Unit):=f75.ES k (f75.l0 k k) a0 a1
namespace f75
theorem eq (k:Nat) (xs:DL sig):den T Y (E k) A k aC 0 (uR 19 64 sig xs) (zw T rs ts)=f75 k xs.1 xs.2.1:=
 Eq.trans (Cg (R:=(λ _ _=>none)) (tb:=U)) ((EW k _ xs).trans (Eq.trans (b:=ES k (EV (zv k (λ _ _=>none) 0 k)) xs.1 xs.2.1) (by kernel_rfl) (by rw [FA k (λ _ _=>none) k]<;>kernel_rfl)))
noncomputable def aN (k:Nat):jH:=⟨sig,rs,λ xs=>f75 k xs.1 xs.2.1⟩
theorem ok (k:Nat):cT Tryz.prog 75 sig rs (λ xs=>f75 k xs.1 xs.2.1):=
 (AL (k:=k) (A:=A) (T:=T) (Y:=Y) (E:=E k) (M:=64) (ts:=ts) FL ⟨f33.ok k,trivial⟩ ⟨f33.E8,trivial⟩ mixed (f:=75) (fn:=Tryz.f75) (c:=aC) (by kernel_rfl) (by kernel_rfl) (by kernel_rfl) (by decide) (by kernel_rfl)).congr λ xs=>(eq k xs).symm
theorem E8:um Tryz.prog 75:=λ args w=>by kernel_rfl
end f75
namespace f32
noncomputable def aC:Code:=Tryz.f32.body.getD .skip
abbrev sig:List PT:=[(false,LG),(false,(.fn 33))]
abbrev rs:List RT:=[.d false .bool]
abbrev ts:List RV:=[.tmp 4]
abbrev S:=St->Option (eC rs)
def Y:dZ:=[]
noncomputable def E (k:Nat):Env:=[(75,.c (f75.aN k))]
def A:oM:={}
def U:fF:=[]
noncomputable abbrev dr (k:Nat) (rc:List Nat) (G:Nat->S) (F:List PF):S:=λ σ=>ap T Y (E k) A k (zw T rs ts) (cD T Y (E k) A k (zw T rs ts) aC U rc G 9999 F) .nx σ
def ES (k:Nat) (a0:(List FI)) (a1:Unit):Option (Bool×Unit):=((f75 k a0 ()).bind λ r1=>some (decide (0<=r1.1),()))
theorem EW (k:Nat) (G:Nat->S) (xs:DL sig):dr k [] G [.c 1 0] (uR 9 32 sig xs)=ES k xs.1 xs.2.1:=by kernel_rfl
end f32
def f32 (k:Nat) (a0:(List FI)) (a1:Unit):Option (Bool×Unit):=f32.ES k a0 a1
namespace f32
theorem eq (k:Nat) (xs:DL sig):den T Y (E k) A k aC 0 (uR 9 32 sig xs) (zw T rs ts)=f32 k xs.1 xs.2.1:=
 Eq.trans (Cg (R:=(λ _ _=>none)) (tb:=U)) ((EW k _ xs).trans (by kernel_rfl))
noncomputable def aN (k:Nat):jH:=⟨sig,rs,λ xs=>f32 k xs.1 xs.2.1⟩
theorem ok (k:Nat):cT Tryz.prog 32 sig rs (λ xs=>f32 k xs.1 xs.2.1):=
 (AL (k:=k) (A:=A) (T:=T) (Y:=Y) (E:=E k) (M:=32) (ts:=ts) FL ⟨f75.ok k,trivial⟩ ⟨f75.E8,trivial⟩ mixed (f:=32) (fn:=Tryz.f32) (c:=aC) (by kernel_rfl) (by kernel_rfl) (by kernel_rfl) (by decide) (by kernel_rfl)).congr λ xs=>(eq k xs).symm
theorem E8:um Tryz.prog 32:=λ args w=>by kernel_rfl
end f32
namespace f36
noncomputable def aC:Code:=Tryz.f36.body.getD .skip
abbrev sig:List PT:=[(true,E5)]
abbrev rs:List RT:=[.d false .bool]
abbrev ts:List RV:=[.tmp 2]
abbrev S:=St->Option (eC rs)
def Y:dZ:=[]
noncomputable def E (k:Nat):Env:=[]
def A:oM:={ qF:=[(1,{ slots:=[(2,.bool)] })] }
def U:fF:=[(7,[.c 7 0])]
noncomputable abbrev k6 (k:Nat) (R:Nat->S) (q:Nat):S:=cx T Y (E k) A k (zw T rs ts) aC U R q
noncomputable abbrev ur (k:Nat) (rc:List Nat) (R:Nat->S):Nat->S:=ext T Y (E k) A k (zw T rs ts) aC U rc R
noncomputable abbrev dr (k:Nat) (rc:List Nat) (G:Nat->S) (F:List PF):S:=λ σ=>ap T Y (E k) A k (zw T rs ts) (cD T Y (E k) A k (zw T rs ts) aC U rc G 9999 F) .nx σ
def N6 (x2:Bool):St:=Dn 21 64 [(2,aB x2)] []
abbrev JG:=Bool->Option (Bool×Unit)
abbrev HY (R:S):JG:=(λ x2=>R (N6 x2))
def ES (k:Nat) (Js:JG) (a0:(Int×Int)):Option (Bool×Unit):=(if (-1048576)<=a0.1 then (if a0.1<=1048576 then (if (-1048576)<=a0.2 then (Js (decide (a0.2<=1048576))) else (Js false)) else (Js false)) else (Js false))
def I4 (k:Nat) (x2:Bool):Option (Bool×Unit):=some (decide (x2=true),())
theorem NZ (k:Nat) (G:Nat->S):HY (dr k [] G (U.at 7))=I4 k:=by kernel_rfl
def r1 (k:Nat):JG:=I4 k
theorem NY (k:Nat) (R:Nat->S):HY (k6 k R 7)=r1 k:=
 Eq.trans (congrArg HY (Cd [] (by kernel_rfl))) ((NZ k _).trans (by kernel_rfl))
theorem EW (k:Nat) (G:Nat->S) (xs:DL sig):dr k [] G [.c 1 0] (uR 21 64 sig xs)=ES k (HY (G 7)) xs.1:=by kernel_rfl
end f36
def f36 (k:Nat) (a0:(Int×Int)):Option (Bool×Unit):=f36.ES k (f36.r1 k) a0
namespace f36
theorem eq (k:Nat) (xs:DL sig):den T Y (E k) A k aC 0 (uR 21 64 sig xs) (zw T rs ts)=f36 k xs.1:=
 Eq.trans (Cg (R:=(λ _ _=>none)) (tb:=U)) ((EW k _ xs).trans (Eq.trans (b:=ES k (HY (k6 k (λ _ _=>none) 7)) xs.1) (by kernel_rfl) (by rw [NY k (λ _ _=>none)]<;>kernel_rfl)))
noncomputable def aN (k:Nat):jH:=⟨sig,rs,λ xs=>f36 k xs.1⟩
theorem ok (k:Nat):cT Tryz.prog 36 sig rs (λ xs=>f36 k xs.1):=
 (AL (k:=k) (A:=A) (T:=T) (Y:=Y) (E:=E k) (M:=64) (ts:=ts) FL trivial trivial mixed (f:=36) (fn:=Tryz.f36) (c:=aC) (by kernel_rfl) (by kernel_rfl) (by kernel_rfl) (by decide) (by kernel_rfl)).congr λ xs=>(eq k xs).symm
theorem E8:um Tryz.prog 36:=λ args w=>by kernel_rfl
end f36
namespace f37
noncomputable def aC:Code:=Tryz.f37.body.getD .skip
abbrev sig:List PT:=[(true,E5),(true,E5),(true,E5)]
abbrev rs:List RT:=[.d false (.int .i64)]
abbrev ts:List RV:=[.tmp 6]
abbrev S:=St->Option (eC rs)
def Y:dZ:=[]
noncomputable def E (k:Nat):Env:=[]
def A:oM:={}
def U:fF:=[]
noncomputable abbrev dr (k:Nat) (rc:List Nat) (G:Nat->S) (F:List PF):S:=λ σ=>ap T Y (E k) A k (zw T rs ts) (cD T Y (E k) A k (zw T rs ts) aC U rc G 9999 F) .nx σ
def ES (k:Nat) (a0 a1 a2:(Int×Int)):Option (Int×Unit):=(if 0 <(AJ ((AJ ((AJ (a1.1 - a0.1)) * (AJ (a2.2 - a0.2)))) - (AJ ((AJ (a2.1 - a0.1)) * (AJ (a1.2 - a0.2)))))) then some (1,()) else (if (AJ ((AJ ((AJ (a1.1 - a0.1)) * (AJ (a2.2 - a0.2)))) - (AJ ((AJ (a2.1 - a0.1)) * (AJ (a1.2 - a0.2)))))) <0 then some ((-1),()) else some (0,())))
theorem EW (k:Nat) (G:Nat->S) (xs:DL sig):dr k [] G [.c 1 0] (uR 37 112 sig xs)=ES k xs.1 xs.2.1 xs.2.2.1:=by kernel_rfl
end f37
def f37 (k:Nat) (a0 a1 a2:(Int×Int)):Option (Int×Unit):=f37.ES k a0 a1 a2
namespace f37
theorem eq (k:Nat) (xs:DL sig):den T Y (E k) A k aC 0 (uR 37 112 sig xs) (zw T rs ts)=f37 k xs.1 xs.2.1 xs.2.2.1:=
 Eq.trans (Cg (R:=(λ _ _=>none)) (tb:=U)) ((EW k _ xs).trans (by kernel_rfl))
noncomputable def aN (k:Nat):jH:=⟨sig,rs,λ xs=>f37 k xs.1 xs.2.1 xs.2.2.1⟩
theorem ok (k:Nat):cT Tryz.prog 37 sig rs (λ xs=>f37 k xs.1 xs.2.1 xs.2.2.1):=
 (AL (k:=k) (A:=A) (T:=T) (Y:=Y) (E:=E k) (M:=112) (ts:=ts) FL trivial trivial mixed (f:=37) (fn:=Tryz.f37) (c:=aC) (by kernel_rfl) (by kernel_rfl) (by kernel_rfl) (by decide) (by kernel_rfl)).congr λ xs=>(eq k xs).symm
theorem E8:um Tryz.prog 37:=λ args w=>by kernel_rfl
end f37
namespace f132
abbrev sig:List PT:=u3
abbrev rs:List RT:=u2
end f132
def f132 (k:Nat) (a0 a1 a2:Int):Option (Int×Int×Unit):=xJ a0 a1 a2
namespace f132
noncomputable def aN (k:Nat):jH:=⟨sig,rs,λ xs=>f132 k xs.1 xs.2.1 xs.2.2.1⟩
theorem ok (k:Nat):oN Tryz.prog 132 sig rs (λ xs=>f132 k xs.1 xs.2.1 xs.2.2.1):=B8 (f:=132) (fn:=Tryz.f132) (by kernel_rfl) (by kernel_rfl) (by kernel_rfl) (by kernel_rfl) (by kernel_rfl)
theorem E8:True:=trivial
end f132
namespace f81
noncomputable def aC:Code:=Tryz.f81.body.getD .skip
abbrev sig:List PT:=[(false,(.int .i64)),(false,(.int .i64))]
abbrev rs:List RT:=[.d true M9]
abbrev ts:List RV:=[.cell 4 127]
abbrev S:=St->Option (eC rs)
def Y:dZ:=[]
noncomputable def E (k:Nat):Env:=[(130,.c (f130.aN k)),(132,.x (f132.aN k))]
def A:oM:={ conds:=[(4,{ slots:=[(4,.id),(6,.id),(7,.id)],keys:=[(4,[])] })] }
def U:fF:=[(17,[.c 31 0])]
noncomputable abbrev k6 (k:Nat) (R:Nat->S) (q:Nat):S:=cx T Y (E k) A k (zw T rs ts) aC U R q
noncomputable abbrev ur (k:Nat) (rc:List Nat) (R:Nat->S):Nat->S:=ext T Y (E k) A k (zw T rs ts) aC U rc R
noncomputable abbrev dr (k:Nat) (rc:List Nat) (G:Nat->S) (F:List PF):S:=λ σ=>ap T Y (E k) A k (zw T rs ts) (cD T Y (E k) A k (zw T rs ts) aC U rc G 9999 F) .nx σ
def UJ (mm nk:Int):St:=Dn 43 144 [(4,aP 4),(6,.cp (.one (.int .u64 mm))),(7,.cp (.one (.int .u64 nk)))] [(4,.box [.int .u64 0,.int .u64 0])]
abbrev RQ:=Int->Int->Option ((Int×Int)×Unit)
abbrev NM (R:S):RQ:=(λ mm nk=>R (UJ mm nk))
def ES (k:Nat) (SU:RQ) (a0 a1:Int):Option ((Int×Int)×Unit):=((f130 k (IntKind.u64.wrap ((uJ true a0 (AJ (0 - a0))))) (IntKind.u64.wrap ((uJ true a1 (AJ (0 - a1)))))).bind λ r1=>(if ¬(decide (a0 <0)=decide (a1 <0)) then ((f132 k 0 r1.2.1 0).bind λ r2=>((f132 k 0 r1.1 r2.2.1).bind λ r3=>(SU r3.1 r2.1))) else (SU r1.1 r1.2.1)))
def QN (k:Nat) (mm nk:Int):Option ((Int×Int)×Unit):=some ((mm,nk),())
theorem Ug (k:Nat) (G:Nat->S):NM (dr k [] G (U.at 17))=QN k:=by kernel_rfl
def c4 (k:Nat):RQ:=QN k
theorem Uf (k:Nat) (R:Nat->S):NM (k6 k R 17)=c4 k:=
 Eq.trans (congrArg NM (Cd [] (by kernel_rfl))) ((Ug k _).trans (by kernel_rfl))
theorem EW (k:Nat) (G:Nat->S) (xs:DL sig):dr k [] G [.c 1 0] (uR 43 144 sig xs)=ES k (NM (G 17)) xs.1 xs.2.1:=by kernel_rfl
end f81
def f81 (k:Nat) (a0 a1:Int):Option ((Int×Int)×Unit):=f81.ES k (f81.c4 k) a0 a1
namespace f81
theorem eq (k:Nat) (xs:DL sig):den T Y (E k) A k aC 0 (uR 43 144 sig xs) (zw T rs ts)=f81 k xs.1 xs.2.1:=
 Eq.trans (Cg (R:=(λ _ _=>none)) (tb:=U)) ((EW k _ xs).trans (Eq.trans (b:=ES k (NM (k6 k (λ _ _=>none) 17)) xs.1 xs.2.1) (by kernel_rfl) (by rw [Uf k (λ _ _=>none)]<;>kernel_rfl)))
noncomputable def aN (k:Nat):jH:=⟨sig,rs,λ xs=>f81 k xs.1 xs.2.1⟩
theorem ok (k:Nat):cT Tryz.prog 81 sig rs (λ xs=>f81 k xs.1 xs.2.1):=
 (AL (k:=k) (A:=A) (T:=T) (Y:=Y) (E:=E k) (M:=144) (ts:=ts) FL ⟨f130.ok k,f132.ok k,trivial⟩ ⟨f130.E8,f132.E8,trivial⟩ mixed (f:=81) (fn:=Tryz.f81) (c:=aC) (by kernel_rfl) (by kernel_rfl) (by kernel_rfl) (by decide) (by kernel_rfl)).congr λ xs=>(eq k xs).symm
theorem E8:um Tryz.prog 81:=λ args w=>by kernel_rfl
end f81
namespace f82
noncomputable def aC:Code:=Tryz.f82.body.getD .skip
abbrev sig:List PT:=[(true,M9),(true,M9)]
abbrev rs:List RT:=[.d true M9]
abbrev ts:List RV:=[.cell 4 127]
abbrev S:=St->Option (eC rs)
def Y:dZ:=[]
noncomputable def E (k:Nat):Env:=[(129,.x (f129.aN k))]
def A:oM:={}
def U:fF:=[]
noncomputable abbrev dr (k:Nat) (rc:List Nat) (G:Nat->S) (F:List PF):S:=λ σ=>ap T Y (E k) A k (zw T rs ts) (cD T Y (E k) A k (zw T rs ts) aC U rc G 9999 F) .nx σ
def ES (k:Nat) (a0 a1:(Int×Int)):Option ((Int×Int)×Unit):=((f129 k a0.2 a1.2 0).bind λ r1=>((f129 k a0.1 a1.1 r1.2.1).bind λ r2=>some ((r2.1,r1.1),())))
theorem EW (k:Nat) (G:Nat->S) (xs:DL sig):dr k [] G [.c 1 0] (uR 29 96 sig xs)=ES k xs.1 xs.2.1:=by kernel_rfl
end f82
def f82 (k:Nat) (a0 a1:(Int×Int)):Option ((Int×Int)×Unit):=f82.ES k a0 a1
namespace f82
theorem eq (k:Nat) (xs:DL sig):den T Y (E k) A k aC 0 (uR 29 96 sig xs) (zw T rs ts)=f82 k xs.1 xs.2.1:=
 Eq.trans (Cg (R:=(λ _ _=>none)) (tb:=U)) ((EW k _ xs).trans (by kernel_rfl))
noncomputable def aN (k:Nat):jH:=⟨sig,rs,λ xs=>f82 k xs.1 xs.2.1⟩
theorem ok (k:Nat):cT Tryz.prog 82 sig rs (λ xs=>f82 k xs.1 xs.2.1):=
 (AL (k:=k) (A:=A) (T:=T) (Y:=Y) (E:=E k) (M:=96) (ts:=ts) FL ⟨f129.ok k,trivial⟩ ⟨f129.E8,trivial⟩ mixed (f:=82) (fn:=Tryz.f82) (c:=aC) (by kernel_rfl) (by kernel_rfl) (by kernel_rfl) (by decide) (by kernel_rfl)).congr λ xs=>(eq k xs).symm
theorem E8:um Tryz.prog 82:=λ args w=>by kernel_rfl
end f82
namespace f83
noncomputable def aC:Code:=Tryz.f83.body.getD .skip
abbrev sig:List PT:=[(true,M9)]
abbrev rs:List RT:=[.d false (.int .i64)]
abbrev ts:List RV:=[.tmp 2]
abbrev S:=St->Option (eC rs)
def Y:dZ:=[]
noncomputable def E (k:Nat):Env:=[]
def A:oM:={}
def U:fF:=[]
noncomputable abbrev dr (k:Nat) (rc:List Nat) (G:Nat->S) (F:List PF):S:=λ σ=>ap T Y (E k) A k (zw T rs ts) (cD T Y (E k) A k (zw T rs ts) aC U rc G 9999 F) .nx σ
def ES (k:Nat) (a0:(Int×Int)):Option (Int×Unit):=(if (a0.1.fdiv (2 ^ min (63:Int).toNat (IntKind.bits .u64)))=1 then some ((-1),()) else (if (qj .or .u64 a0.1 a0.2)=0 then some (0,()) else some (1,())))
theorem EW (k:Nat) (G:Nat->S) (xs:DL sig):dr k [] G [.c 1 0] (uR 15 48 sig xs)=ES k xs.1:=by kernel_rfl
end f83
def f83 (k:Nat) (a0:(Int×Int)):Option (Int×Unit):=f83.ES k a0
namespace f83
theorem eq (k:Nat) (xs:DL sig):den T Y (E k) A k aC 0 (uR 15 48 sig xs) (zw T rs ts)=f83 k xs.1:=
 Eq.trans (Cg (R:=(λ _ _=>none)) (tb:=U)) ((EW k _ xs).trans (by kernel_rfl))
noncomputable def aN (k:Nat):jH:=⟨sig,rs,λ xs=>f83 k xs.1⟩
theorem ok (k:Nat):cT Tryz.prog 83 sig rs (λ xs=>f83 k xs.1):=
 (AL (k:=k) (A:=A) (T:=T) (Y:=Y) (E:=E k) (M:=48) (ts:=ts) FL trivial trivial mixed (f:=83) (fn:=Tryz.f83) (c:=aC) (by kernel_rfl) (by kernel_rfl) (by kernel_rfl) (by decide) (by kernel_rfl)).congr λ xs=>(eq k xs).symm
theorem E8:um Tryz.prog 83:=λ args w=>by kernel_rfl
end f83
namespace f39
noncomputable def aC:Code:=Tryz.f39.body.getD .skip
abbrev sig:List PT:=[(true,E5),(true,E5),(true,E5),(true,E5)]
abbrev rs:List RT:=[.d false (.int .i64)]
abbrev ts:List RV:=[.tmp 8]
abbrev S:=St->Option (eC rs)
def Y:dZ:=[]
noncomputable def E (k:Nat):Env:=[(81,.c (f81.aN k)),(82,.c (f82.aN k)),(83,.c (f83.aN k))]
def A:oM:={}
def U:fF:=[]
noncomputable abbrev dr (k:Nat) (rc:List Nat) (G:Nat->S) (F:List PF):S:=λ σ=>ap T Y (E k) A k (zw T rs ts) (cD T Y (E k) A k (zw T rs ts) aC U rc G 9999 F) .nx σ
def ES (k:Nat) (a0 a1 a2 a3:(Int×Int)):Option (Int×Unit):=((f81 k (AJ ((AJ ((AJ (a1.1 - a0.1)) * (AJ (a1.1 - a0.1))))+(AJ ((AJ (a1.2 - a0.2)) * (AJ (a1.2 - a0.2)))))) (AJ ((AJ ((AJ (a2.1 - a0.1)) * (AJ (a3.2 - a0.2)))) - (AJ ((AJ (a3.1 - a0.1)) * (AJ (a2.2 - a0.2))))))).bind λ r1=>((f81 k (AJ ((AJ ((AJ (a2.1 - a0.1)) * (AJ (a2.1 - a0.1))))+(AJ ((AJ (a2.2 - a0.2)) * (AJ (a2.2 - a0.2)))))) (AJ ((AJ ((AJ (a3.1 - a0.1)) * (AJ (a1.2 - a0.2)))) - (AJ ((AJ (a1.1 - a0.1)) * (AJ (a3.2 - a0.2))))))).bind λ r2=>((f82 k (r1.1.1,r1.1.2) (r2.1.1,r2.1.2)).bind λ r3=>((f81 k (AJ ((AJ ((AJ (a3.1 - a0.1)) * (AJ (a3.1 - a0.1))))+(AJ ((AJ (a3.2 - a0.2)) * (AJ (a3.2 - a0.2)))))) (AJ ((AJ ((AJ (a1.1 - a0.1)) * (AJ (a2.2 - a0.2)))) - (AJ ((AJ (a2.1 - a0.1)) * (AJ (a1.2 - a0.2))))))).bind λ r4=>((f82 k (r3.1.1,r3.1.2) (r4.1.1,r4.1.2)).bind λ r5=>((f83 k (r5.1.1,r5.1.2)).bind λ r6=>some (AJ (0 - r6.1),())))))))
theorem EW (k:Nat) (G:Nat->S) (xs:DL sig):dr k [] G [.c 1 0] (uR 102 320 sig xs)=ES k xs.1 xs.2.1 xs.2.2.1 xs.2.2.2.1:=by kernel_rfl
end f39
def f39 (k:Nat) (a0 a1 a2 a3:(Int×Int)):Option (Int×Unit):=f39.ES k a0 a1 a2 a3
namespace f39
theorem eq (k:Nat) (xs:DL sig):den T Y (E k) A k aC 0 (uR 102 320 sig xs) (zw T rs ts)=f39 k xs.1 xs.2.1 xs.2.2.1 xs.2.2.2.1:=
 Eq.trans (Cg (R:=(λ _ _=>none)) (tb:=U)) ((EW k _ xs).trans (by kernel_rfl))
noncomputable def aN (k:Nat):jH:=⟨sig,rs,λ xs=>f39 k xs.1 xs.2.1 xs.2.2.1 xs.2.2.2.1⟩
theorem ok (k:Nat):cT Tryz.prog 39 sig rs (λ xs=>f39 k xs.1 xs.2.1 xs.2.2.1 xs.2.2.2.1):=
 (AL (k:=k) (A:=A) (T:=T) (Y:=Y) (E:=E k) (M:=320) (ts:=ts) FL ⟨f81.ok k,f82.ok k,f83.ok k,trivial⟩ ⟨f81.E8,f82.E8,f83.E8,trivial⟩ mixed (f:=39) (fn:=Tryz.f39) (c:=aC) (by kernel_rfl) (by kernel_rfl) (by kernel_rfl) (by decide) (by kernel_rfl)).congr λ xs=>(eq k xs).symm
theorem E8:um Tryz.prog 39:=λ args w=>by kernel_rfl
end f39
namespace f31
noncomputable def aC:Code:=Tryz.f31.body.getD .skip
abbrev sig:List PT:=[(true,Fp),(true,Fp)]
abbrev rs:List RT:=[.d false (.int .i64)]
abbrev ts:List RV:=[.tmp 4]
abbrev S:=St->Option (eC rs)
def Y:dZ:=[(56,Fp)]
noncomputable def E (k:Nat):Env:=[(14,.c (f14.aN k))]
def A:oM:={}
def U:fF:=[]
noncomputable abbrev dr (k:Nat) (rc:List Nat) (G:Nat->S) (F:List PF):S:=λ σ=>ap T Y (E k) A k (zw T rs ts) (cD T Y (E k) A k (zw T rs ts) aC U rc G 9999 F) .nx σ
def ES (k:Nat) (a0 a1:FI):Option (Int×Unit):=((f14 k ([a0.1,a0.2.1,a0.2.2]) ([a1.1,a1.2.1,a1.2.2])).bind λ r1=>some (r1.1,()))
theorem EW (k:Nat) (G:Nat->S) (xs:DL sig):dr k [] G [.c 1 0] (uR 8 32 sig xs)=ES k xs.1 xs.2.1:=by kernel_rfl
end f31
def f31 (k:Nat) (a0 a1:FI):Option (Int×Unit):=f31.ES k a0 a1
namespace f31
theorem eq (k:Nat) (xs:DL sig):den T Y (E k) A k aC 0 (uR 8 32 sig xs) (zw T rs ts)=f31 k xs.1 xs.2.1:=
 Eq.trans (Cg (R:=(λ _ _=>none)) (tb:=U)) ((EW k _ xs).trans (by kernel_rfl))
noncomputable def aN (k:Nat):jH:=⟨sig,rs,λ xs=>f31 k xs.1 xs.2.1⟩
theorem ok (k:Nat):cT Tryz.prog 31 sig rs (λ xs=>f31 k xs.1 xs.2.1):=
 (AL (k:=k) (A:=A) (T:=T) (Y:=Y) (E:=E k) (M:=32) (ts:=ts) FL ⟨f14.ok k,trivial⟩ ⟨f14.E8,trivial⟩ mixed (f:=31) (fn:=Tryz.f31) (c:=aC) (by kernel_rfl) (by kernel_rfl) (by kernel_rfl) (by decide) (by kernel_rfl)).congr λ xs=>(eq k xs).symm
theorem E8:um Tryz.prog 31:=λ args w=>by kernel_rfl
end f31
namespace f30v1
abbrev sig:List PT:=[(false,.fn 31)]
abbrev rs:List RT:=[]
abbrev ls:List LO:=[.row Fp]
end f30v1
def f30v1 (k:Nat) (a:(List FI)) (a0:Unit):Option (((List FI)×Unit)×Unit):=qe (e:=Fp) (λ x y=>f31 k x y) a
namespace f30v1
noncomputable def aN (k:Nat):kI:=⟨0,true,ls,sig,rs,λ x xs=>f30v1 k x.1 xs.1⟩
theorem ok (k:Nat):gV Tryz.prog 30 0 true ls sig rs (λ x xs=>f30v1 k x.1 xs.1):=By (e:=Fp) (f:=λ x y=>f31 k x y) Tryz.OQ rfl (λ w=>by kernel_rfl) (λ w=>by kernel_rfl) (f31.ok k) f31.E8
theorem E8:um Tryz.prog 30:=λ args w=>by kernel_rfl
end f30v1
namespace f5
noncomputable def aC:Code:=Tryz.f5.body.getD .skip
abbrev sig:List PT:=[(true,E5),(true,E5),(true,E5),(true,E5),(false,LG)]
abbrev rs:List RT:=[.d false .bool]
abbrev ts:List RV:=[.tmp 10]
abbrev S:=St->Option (eC rs)
def Y:dZ:=[(56,Fp)]
noncomputable def E (k:Nat):Env:=[(25,.c (f25.aN k)),(28,.c (f28.aN k)),(29,.c (f29.aN k)),(32,.c (f32.aN k)),(34,.c (f34.aN k)),(35,.c (f35.aN k)),(36,.c (f36.aN k)),(37,.c (f37.aN k)),(38,.c (f38.aN k)),(39,.c (f39.aN k)),(30,.b (f30v1.aN k))]
def A:oM:={ loops:=[(0,{ Bu:=[(11,44,Fp)],slots:=[(4,.val false Fp),(5,.id),(6,.id),(7,.id),(8,.id),(11,.id),(18,.val false Fp),(19,.id),(20,.id)],keys:=[(5,[]),(6,[]),(7,[]),(8,[]),(44,[])] })],qF:=[(6,{ Bu:=[(11,44,Fp)],A8:=[(13,Fp)],slots:=[(4,.val false Fp),(5,.id),(6,.id),(7,.id),(8,.id),(11,.id),(13,.id),(18,.val false Fp),(19,.id),(20,.id)],keys:=[(5,[]),(6,[]),(7,[]),(8,[]),(13,[]),(44,[])] }),(12,{ slots:=[(5,.id),(6,.id),(7,.id),(8,.id),(58,.bool)],keys:=[(5,[]),(6,[]),(7,[]),(8,[])] }),(14,{ slots:=[(5,.id),(6,.id),(7,.id),(8,.id),(83,.bool)],keys:=[(5,[]),(6,[]),(7,[]),(8,[])] })] }
def U:fF:=[(0,[.c 244 0,.r 0,.b 0,.c 31 0]),(27,[.c 7833 1,.b 1,.c 1959 0,.r 0,.b 0,.c 31 0]),(51,[.c 509 0,.c 255 0]),(59,[.c 1021 0,.c 511 0])]
noncomputable abbrev k6 (k:Nat) (R:Nat->S) (q:Nat):S:=cx T Y (E k) A k (zw T rs ts) aC U R q
noncomputable abbrev ur (k:Nat) (rc:List Nat) (R:Nat->S):Nat->S:=ext T Y (E k) A k (zw T rs ts) aC U rc R
noncomputable abbrev zv (k:Nat) (R:Nat->S) (i n:Nat):S:=lx T Y (E k) A k (zw T rs ts) aC U R i n
noncomputable abbrev dr (k:Nat) (rc:List Nat) (G:Nat->S) (F:List PF):S:=λ σ=>ap T Y (E k) A k (zw T rs ts) (cD T Y (E k) A k (zw T rs ts) aC U rc G 9999 F) .nx σ
def F4 (J7:Ft) (E9 FN FC Gv Fk Fl Gy Gz:Int) (Gn:Ft) (IA IW:Int):St:=Dn 95 288 [(4,aV Fp Gn),(5,aP 5),(6,aP 6),(7,aP 7),(8,aP 8),(11,aO 44),(18,aV Fp Gn),(19,aI IA),(20,aI IW)] [(5,.box [cI E9,cI FN]),(6,.box [cI FC,cI Gv]),(7,.box [cI Fk,cI Fl]),(8,.box [cI Gy,cI Gz]),(44,.vec Fp J7)]
abbrev E1:=Ft->Int->Int->Int->Int->Int->Int->Int->Int->Ft->Int->Int->Option (Bool×Unit)
abbrev EV (R:S):E1:=(λ J7 E9 FN FC Gv Fk Fl Gy Gz Gn IA IW=>R (F4 J7 E9 FN FC Gv Fk Fl Gy Gz Gn IA IW))
def UP (Hz:(Int×(Int×Int))) (J7:Ft) (E9 FN FC Gv Fk Fl Gy Gz:Int) (Gn:Ft) (IA IW:Int):St:=Dn 95 288 [(4,aV Fp Gn),(5,aP 5),(6,aP 6),(7,aP 7),(8,aP 8),(11,aO 44),(13,aP 13),(18,aV Fp Gn),(19,aI IA),(20,aI IW)] [(5,.box [cI E9,cI FN]),(6,.box [cI FC,cI Gv]),(7,.box [cI Fk,cI Fl]),(8,.box [cI Gy,cI Gz]),(13,.cG Fp Hz),(44,.vec Fp J7)]
abbrev RY:=(Int×(Int×Int))->Ft->Int->Int->Int->Int->Int->Int->Int->Int->Ft->Int->Int->Option (Bool×Unit)
abbrev NS (R:S):RY:=(λ Hz J7 E9 FN FC Gv Fk Fl Gy Gz Gn IA IW=>R (UP Hz J7 E9 FN FC Gv Fk Fl Gy Gz Gn IA IW))
def TK (E9 FN FC Gv Fk Fl Gy Gz:Int) (QF:Bool):St:=Dn 95 288 [(5,aP 5),(6,aP 6),(7,aP 7),(8,aP 8),(58,aB QF)] [(5,.box [cI E9,cI FN]),(6,.box [cI FC,cI Gv]),(7,.box [cI Fk,cI Fl]),(8,.box [cI Gy,cI Gz])]
abbrev PM:=Int->Int->Int->Int->Int->Int->Int->Int->Bool->Option (Bool×Unit)
abbrev LZ (R:S):PM:=(λ E9 FN FC Gv Fk Fl Gy Gz QF=>R (TK E9 FN FC Gv Fk Fl Gy Gz QF))
def PA (E9 FN FC Gv Fk Fl Gy Gz:Int) (QH:Bool):St:=Dn 95 288 [(5,aP 5),(6,aP 6),(7,aP 7),(8,aP 8),(83,aB QH)] [(5,.box [cI E9,cI FN]),(6,.box [cI FC,cI Gv]),(7,.box [cI Fk,cI Fl]),(8,.box [cI Gy,cI Gz])]
abbrev Ky:=Int->Int->Int->Int->Int->Int->Int->Int->Bool->Option (Bool×Unit)
abbrev Iy (R:S):Ky:=(λ E9 FN FC Gv Fk Fl Gy Gz QH=>R (PA E9 FN FC Gv Fk Fl Gy Gz QH))
def ES (k:Nat) (Fe:E1) (a0 a1 a2 a3:(Int×Int)) (a4:(List FI)):Option (Bool×Unit):=((f25 k ).bind λ r1=>(if ¬(r1.1=true) then some (false,()) else (Fe ([]:List (Int×(Int×Int))) a0.1 a0.2 a1.1 a1.2 a2.1 a2.2 a3.1 a3.2 a4 (a4.length:Int) 0)))
def E0 (k:Nat) (Uq:RY) (Sb:PM) (J7:Ft) (E9 FN FC Gv Fk Fl Gy Gz:Int) (Gn:Ft) (IA IW:Int):Option (Bool×Unit):=(if IW <IA then (if 0<=IW then (if IW <(Gn.length:Int) then (Uq ((Gn.getD (IW).toNat (0,(0,0))).1,(((Gn.getD (IW).toNat (0,(0,0))).2).1,((Gn.getD (IW).toNat (0,(0,0))).2).2)) J7 E9 FN FC Gv Fk Fl Gy Gz Gn IA IW) else none) else none) else ((f30v1 k J7 ()).bind λ r1=>((f32 k Gn ()).bind λ r2=>(if ¬(r2.1=true) then ((f35 k Gn).bind λ r3=>((f34 k r3.1 r1.1.1).bind λ r4=>(Sb E9 FN FC Gv Fk Fl Gy Gz (decide (¬(r4.1=true)))))) else (Sb E9 FN FC Gv Fk Fl Gy Gz false)))))
def RA (k:Nat) (Fe:E1) (Hz:(Int×(Int×Int))) (J7:Ft) (E9 FN FC Gv Fk Fl Gy Gz:Int) (Gn:Ft) (IA IW:Int):Option (Bool×Unit):=((f29 k ([Hz.1,Hz.2.1,Hz.2.2])).bind λ r1=>((f28 k ([Hz.1,Hz.2.1,Hz.2.2]) r1.1).bind λ r2=>(if 0<=r2.1 then (if r2.1 <(3:Int) then (if 0<=((AJ (r2.1+1)).tmod 3) then (if ((AJ (r2.1+1)).tmod 3) <(3:Int) then (if 0<=((AJ (r2.1+2)).tmod 3) then (if ((AJ (r2.1+2)).tmod 3) <(3:Int) then (if (J7.length+([((([Hz.1,Hz.2.1,Hz.2.2]:List Int).getD ((r2.1).toNat) 0),((([Hz.1,Hz.2.1,Hz.2.2]:List Int).getD ((((AJ (r2.1+1)).tmod 3)).toNat) 0),(([Hz.1,Hz.2.1,Hz.2.2]:List Int).getD ((((AJ (r2.1+2)).tmod 3)).toNat) 0)))]).length) * 24<=140737488355328 then (Fe (J7++[((([Hz.1,Hz.2.1,Hz.2.2]:List Int).getD ((r2.1).toNat) 0),((([Hz.1,Hz.2.1,Hz.2.2]:List Int).getD ((((AJ (r2.1+1)).tmod 3)).toNat) 0),(([Hz.1,Hz.2.1,Hz.2.2]:List Int).getD ((((AJ (r2.1+2)).tmod 3)).toNat) 0)))]) E9 FN FC Gv Fk Fl Gy Gz Gn IA (AJ (IW+1))) else none) else none) else none) else none) else none) else none) else none)))
def M6 (k:Nat) (IP:Ky) (E9 FN FC Gv Fk Fl Gy Gz:Int) (QF:Bool):Option (Bool×Unit):=(if QF=true then some (false,()) else ((f36 k (E9,FN)).bind λ r1=>(if ¬(r1.1=true) then (IP E9 FN FC Gv Fk Fl Gy Gz true) else ((f36 k (FC,Gv)).bind λ r2=>(if ¬(r2.1=true) then (IP E9 FN FC Gv Fk Fl Gy Gz true) else ((f36 k (Fk,Fl)).bind λ r3=>(if ¬(r3.1=true) then (IP E9 FN FC Gv Fk Fl Gy Gz true) else ((f36 k (Gy,Gz)).bind λ r4=>(if ¬(r4.1=true) then (IP E9 FN FC Gv Fk Fl Gy Gz true) else ((f37 k (E9,FN) (FC,Gv) (Fk,Fl)).bind λ r5=>(IP E9 FN FC Gv Fk Fl Gy Gz (decide (¬(r5.1=1))))))))))))))
def IQ (k:Nat) (E9 FN FC Gv Fk Fl Gy Gz:Int) (QH:Bool):Option (Bool×Unit):=(if QH=true then some (true,()) else ((f38 k (E9,FN) (FC,Gv) (Fk,Fl) (Gy,Gz)).bind λ r1=>((f39 k (E9,FN) (FC,Gv) (Fk,Fl) (Gy,Gz)).bind λ r2=>some (decide (r1.1=r2.1),()))))
theorem UG (k:Nat) (G:Nat->S):NS (dr k [0] G (U.at 27))=RA k (EV (G 0)):=by kernel_rfl
def r6 (k:Nat) (F9:E1):RY:=RA k F9
theorem UF (k:Nat) (R:Nat->S):NS (k6 k R 27)=r6 k (EV (R 0)):=
 Eq.trans (congrArg NS (Cd [0] (by kernel_rfl))) ((UG k _).trans (by kernel_rfl))
theorem Pu (k:Nat) (G:Nat->S):Iy (dr k [] G (U.at 59))=IQ k:=by kernel_rfl
def KD (k:Nat):Ky:=IQ k
theorem Pt (k:Nat) (R:Nat->S):Iy (k6 k R 59)=KD k:=
 Eq.trans (congrArg Iy (Cd [] (by kernel_rfl))) ((Pu k _).trans (by kernel_rfl))
theorem TC (k:Nat) (G:Nat->S):LZ (dr k [] G (U.at 51))=M6 k (Iy (G 59)):=by kernel_rfl
def Sh (k:Nat):PM:=M6 k (KD k)
theorem TB (k:Nat) (R:Nat->S):LZ (k6 k R 51)=Sh k:=
 Eq.trans (congrArg LZ (Cd [] (by kernel_rfl))) ((TC k _).trans (Eq.trans (b:=M6 k (Iy (k6 k R 59))) (by kernel_rfl) (by rw [Pt k R]<;>kernel_rfl)))
theorem F3 (k:Nat) (G:Nat->S):EV (dr k [0] G (U.at 0))=E0 k (NS (G 27)) (LZ (G 51)):=by kernel_rfl
def l0 (k:Nat):Nat->E1
 | 0=>λ _ _ _ _ _ _ _ _ _ _ _ _=>none
 |n+1=>E0 k (r6 k (l0 k n)) (Sh k)
noncomputable abbrev Fh (k:Nat) (R:Nat->S) (n:Nat):Nat->S:=up R 0 (zv k R 0 n)
theorem FA (k:Nat) (R:Nat->S):∀n,EV (zv k R 0 n)=l0 k n
 | 0=>by kernel_rfl
 |n+1=>
  Eq.trans (congrArg EV (CS [] (by kernel_rfl))) ((F3 k _).trans (Eq.trans (b:=E0 k (NS (k6 k (Fh k R n) 27)) (LZ (k6 k (Fh k R n) 51))) (by kernel_rfl) (by rw [UF k (Fh k R n),TB k (Fh k R n),(show EV (Fh k R n 0)=_ from FA k R n)]<;>kernel_rfl)))
theorem EW (k:Nat) (G:Nat->S) (xs:DL sig):dr k [] G [.c 1 0] (uR 95 288 sig xs)=ES k (EV (G 0)) xs.1 xs.2.1 xs.2.2.1 xs.2.2.2.1 xs.2.2.2.2.1:=by kernel_rfl
end f5
def f5 (k:Nat) (a0 a1 a2 a3:(Int×Int)) (a4:(List FI)):Option (Bool×Unit):=f5.ES k (f5.l0 k k) a0 a1 a2 a3 a4
namespace f5
theorem eq (k:Nat) (xs:DL sig):den T Y (E k) A k aC 0 (uR 95 288 sig xs) (zw T rs ts)=f5 k xs.1 xs.2.1 xs.2.2.1 xs.2.2.2.1 xs.2.2.2.2.1:=
 Eq.trans (Cg (R:=(λ _ _=>none)) (tb:=U)) ((EW k _ xs).trans (Eq.trans (b:=ES k (EV (zv k (λ _ _=>none) 0 k)) xs.1 xs.2.1 xs.2.2.1 xs.2.2.2.1 xs.2.2.2.2.1) (by kernel_rfl) (by rw [FA k (λ _ _=>none) k]<;>kernel_rfl)))
noncomputable def aN (k:Nat):jH:=⟨sig,rs,λ xs=>f5 k xs.1 xs.2.1 xs.2.2.1 xs.2.2.2.1 xs.2.2.2.2.1⟩
theorem ok (k:Nat):cT Tryz.prog 5 sig rs (λ xs=>f5 k xs.1 xs.2.1 xs.2.2.1 xs.2.2.2.1 xs.2.2.2.2.1):=
 (AL (k:=k) (A:=A) (T:=T) (Y:=Y) (E:=E k) (M:=288) (ts:=ts) FL ⟨f25.ok k,f28.ok k,f29.ok k,f32.ok k,f34.ok k,f35.ok k,f36.ok k,f37.ok k,f38.ok k,f39.ok k,f30v1.ok k,trivial⟩ ⟨f25.E8,f28.E8,f29.E8,f32.E8,f34.E8,f35.E8,f36.E8,f37.E8,f38.E8,f39.E8,f30v1.E8,trivial⟩ mixed (f:=5) (fn:=Tryz.f5) (c:=aC) (by kernel_rfl) (by kernel_rfl) (by kernel_rfl) (by decide) (by kernel_rfl)).congr λ xs=>(eq k xs).symm
theorem E8:um Tryz.prog 5:=λ args w=>by kernel_rfl
end f5
def LC:Prop:=∀xs:DL f5.sig,Bz f5.sig xs->∃k,f5 k xs.1 xs.2.1 xs.2.2.1 xs.2.2.2.1 xs.2.2.2.2.1=some (true,())
end
end Go.Proofs.YtollcjadobpfdaaGreat.Rw
