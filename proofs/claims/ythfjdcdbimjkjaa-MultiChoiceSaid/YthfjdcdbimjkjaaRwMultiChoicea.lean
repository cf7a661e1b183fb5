/- What the functions that the law MultiChoice reaches come to, part 1. No condition. -/
import Derived.Test.YthfjdcdbimjkjaaRxEv
import Derived.Test.YthfjdcdbimjkjaaProg
import Derived.Test.YthfjdcdbimjkjaaRxGr
import Derived.Test.YthfjdcdbimjkjaaRxSf
import Derived.Test.YthfjdcdbimjkjaaRxSl
set_option linter.unusedVariables false
set_option linter.unusedSimpArgs false
set_option linter.unusedSectionVars false
namespace Go.Proofs.Ythfjdcdbimjkjaa.Rw
open Go.Rx Go.Proofs
set_option maxRecDepth 100000
noncomputable section
def T:bh:=[(3,⟨.int .i64,1,8,some (false,[cI 0]),false⟩),
 (5,⟨.int .u8,1,1,some (false,[.int .u8 0]),false⟩),
 (9,⟨.str,1,16,some (false,[.str ByteArray.empty]),false⟩),
 (22,⟨.slice 3,1,24,some (false,[.nil]),false⟩),
 (23,⟨.slice 108,1,24,some (false,[.nil]),false⟩),
 (24,⟨.slice 34,1,24,some (false,[.nil]),false⟩),
 (25,⟨.slice 141,1,24,some (false,[.nil]),false⟩),
 (27,⟨.struct [(0,23),(1,24),(2,25)],3,72,some (true,[.nil,.nil,.nil]),true⟩),
 (34,⟨.struct [(0,3),(1,3),(2,3),(3,3)],4,32,some (true,[cI 0,cI 0,cI 0,cI 0]),true⟩),
 (42,⟨.int .i64,1,8,some (false,[cI 0]),false⟩),
 (61,⟨.slice 22,1,24,some (false,[.nil]),false⟩),
 (73,⟨.slice 81,1,24,some (false,[.nil]),false⟩),
 (76,⟨.slice 73,1,24,some (false,[.nil]),false⟩),
 (81,⟨.struct [(0,22),(1,3),(2,3)],3,40,some (true,[.nil,cI 0,cI 0]),true⟩),
 (88,⟨.array 2 3,2,16,some (true,[cI 0,cI 0]),true⟩),
 (89,⟨.slice 88,1,24,some (false,[.nil]),false⟩),
 (96,⟨.struct [(0,22)],1,24,some (true,[.nil]),true⟩),
 (108,⟨.struct [(0,3),(1,3)],2,16,some (true,[cI 0,cI 0]),true⟩),
 (141,⟨.struct [(0,3),(1,3)],2,16,some (true,[cI 0,cI 0]),true⟩),
 (153,⟨.slice 224,1,24,some (false,[.nil]),false⟩),
 (155,⟨.struct [(0,27),(3,22),(4,76),(5,153)],6,144,some (true,[.nil,.nil,.nil,.nil,.nil,.nil]),true⟩),
 (210,⟨.int .u64,1,8,some (false,[.int .u64 0]),false⟩),
 (224,⟨.struct [(0,3),(1,81)],4,48,some (true,[cI 0,.nil,cI 0,cI 0]),true⟩),
 (248,⟨.int .u64,1,8,some (false,[.int .u64 0]),false⟩),
 (253,⟨.int .i64,1,8,some (false,[cI 0]),false⟩)]
theorem Dn:bA Try.prog T:=⟨by kernel_rfl,by kernel_rfl,by kernel_rfl,by kernel_rfl,by kernel_rfl,by kernel_rfl,by kernel_rfl,by kernel_rfl,by kernel_rfl,by kernel_rfl,by kernel_rfl,by kernel_rfl,by kernel_rfl,by kernel_rfl,by kernel_rfl,by kernel_rfl,by kernel_rfl,by kernel_rfl,by kernel_rfl,by kernel_rfl,by kernel_rfl,by kernel_rfl,by kernel_rfl,by kernel_rfl,by kernel_rfl,trivial⟩
theorem mixed:Try.prog.follows .mixedOrders=true:=by kernel_rfl
abbrev Mm:ByteArray:=⟨[0,1,2,2,3,3,3,3,4,4,4,4,4,4,4,4,5,5,5,5,5,5,5,5,5,5,5,5,5,5,5,5,6,6,6,6,6,6,6,6,6,6,6,6,6,6,6,6,6,6,6,6,6,6,6,6,6,6,6,6,6,6,6,6,7,7,7,7,7,7,7,7,7,7,7,7,7,7,7,7,7,7,7,7,7,7,7,7,7,7,7,7,7,7,7,7,7,7,7,7,7,7,7,7,7,7,7,7,7,7,7,7,7,7,7,7,7,7,7,7,7,7,7,7,7,7,7,7,8,8,8,8,8,8,8,8,8,8,8,8,8,8,8,8,8,8,8,8,8,8,8,8,8,8,8,8,8,8,8,8,8,8,8,8,8,8,8,8,8,8,8,8,8,8,8,8,8,8,8,8,8,8,8,8,8,8,8,8,8,8,8,8,8,8,8,8,8,8,8,8,8,8,8,8,8,8,8,8,8,8,8,8,8,8,8,8,8,8,8,8,8,8,8,8,8,8,8,8,8,8,8,8,8,8,8,8,8,8,8,8,8,8,8,8,8,8,8,8,8,8,8,8,8,8,8,8].toArray⟩
abbrev Ee:Ty:=(.sl false (.int .i64))
abbrev uv:Ty:=(.pair (.int .i64) (.int .i64))
abbrev Fy:Ty:=(.sl false uv)
abbrev D9:Type:=(List (Int×Int))
abbrev Nb:Ty:=(.pair (.int .i64) uv)
abbrev Dd:Ty:=(.pair (.int .i64) Nb)
abbrev Nc:Ty:=(.sl false Dd)
abbrev Nd:Ty:=(.pair Nc Fy)
abbrev FF:Ty:=(.pair Fy Nd)
abbrev Ms:Type:=(Int×(Int×Int))
abbrev Mt:Type:=(List (Int×Ms))
abbrev Df:Type:=(D9×(Mt×D9))
abbrev DW:Ty:=(.pair Ee uv)
abbrev DQ:Type:=((List Int)×(Int×Int))
abbrev Fx:Ty:=(.pair (.int .i64) DW)
abbrev HV:Type:=(List (List DQ))
abbrev EU:Type:=(List (Int×DQ))
abbrev IY:Ty:=(.sl false DW)
abbrev JY:Ty:=(.cL 183 (.ptr DW))
abbrev Mw:Ty:=(.sl false IY)
abbrev K4:Ty:=(.sl false Fx)
abbrev Mx:Ty:=(.pair Mw K4)
abbrev My:Ty:=(.pair Ee Mx)
abbrev Mz:Ty:=(.pair FF My)
abbrev Mu:Type:=(HV×EU)
abbrev Mv:Type:=((List Int)×Mu)
abbrev KZ:Type:=(Df×Mv)
abbrev MA:Ty:=(.sl false Ee)
abbrev K0:Type:=(List (List Int))
abbrev MB:Ty:=(.pair .bool IY)
abbrev JZ:Ty:=(.cL 107 (.ptr uv))
abbrev Fb:=List (Int×((List Int)×(Int×Int)))
abbrev Fc:=List (List ((List Int)×(Int×Int)))
abbrev wv:=List (Int×(Int×(Int×Int)))
abbrev ED:=List ((List Int)×(Int×Int))
abbrev IS:=List (Int×DQ)
abbrev sv:=List (Int×Int)
abbrev Fp:=List (List DQ)
abbrev GI:=List (List Int)
abbrev ur:=List Int
namespace f15
noncomputable def aC:Code:=Try.f15.body.getD .skip
abbrev sig:List PT:=[(false,(.int .i64)),(false,(.int .i64))]
abbrev rs:List RT:=[.d false (.int .i64)]
abbrev ts:List RV:=[.tmp 4]
abbrev S:=St->Option (eP rs)
def Y:dY:=[]
noncomputable def E (k:Nat):Env:=[]
def A:oK:={ conds:=[(3,{ slots:=[(0,.id)] })] }
def U:fD:=[(13,[.c 15 0])]
noncomputable abbrev fz (k:Nat) (R:Nat->S) (q:Nat):S:=cx T Y (E k) A k (zf T rs ts) aC U R q
noncomputable abbrev k5 (k:Nat) (rc:List Nat) (R:Nat->S):Nat->S:=ext T Y (E k) A k (zf T rs ts) aC U rc R
noncomputable abbrev dc (k:Nat) (rc:List Nat) (G:Nat->S) (F:List PF):S:=λ σ=>ap T Y (E k) A k (zf T rs ts) (cD T Y (E k) A k (zf T rs ts) aC U rc G 9999 F) .nx σ
def M5 (x0:Int):St:=C9 14 48 [(0,aI x0)] []
abbrev Ko:=Int->Option (Int×Unit)
abbrev Ir (R:S):Ko:=(λ x0=>R (M5 x0))
def sk (k:Nat) (Lb:Ko) (a0 a1:Int):Option (Int×Unit):=(if ¬a1=0 then (if (a0.tmod a1) <0 then (Lb (Ar ((a0.tmod a1)+a1))) else (Lb (a0.tmod a1))) else none)
def J3 (k:Nat) (x0:Int):Option (Int×Unit):=some (x0,())
theorem MK (k:Nat) (G:Nat->S):Ir (dc k [] G (U.at 13))=J3 k:=by kernel_rfl
def c3 (k:Nat):Ko:=J3 k
theorem MJ (k:Nat) (R:Nat->S):Ir (fz k R 13)=c3 k:=
 Eq.trans (congrArg Ir (BW [] (by kernel_rfl))) ((MK k _).trans (by kernel_rfl))
theorem uo (k:Nat) (G:Nat->S) (xs:DL sig):dc k [] G [.c 1 0] (uJ 14 48 sig xs)=sk k (Ir (G 13)) xs.1 xs.2.1:=by kernel_rfl
end f15
def f15 (k:Nat) (a0 a1:Int):Option (Int×Unit):=f15.sk k (f15.c3 k) a0 a1
namespace f15
theorem eq (k:Nat) (xs:DL sig):den T Y (E k) A k aC 0 (uJ 14 48 sig xs) (zf T rs ts)=f15 k xs.1 xs.2.1:=
 Eq.trans (BZ (R:=(λ _ _=>none)) (tb:=U)) ((uo k _ xs).trans (Eq.trans (b:=sk k (Ir (fz k (λ _ _=>none) 13)) xs.1 xs.2.1) (by kernel_rfl) (by rw [MJ k (λ _ _=>none)]<;>kernel_rfl)))
noncomputable def aR (k:Nat):oL:=⟨sig,rs,λ xs=>f15 k xs.1 xs.2.1⟩
theorem ok (k:Nat):cz Try.prog 15 sig rs (λ xs=>f15 k xs.1 xs.2.1):=
 (Au (k:=k) (A:=A) (T:=T) (Y:=Y) (E:=E k) (M:=48) (ts:=ts) Dn trivial trivial mixed (f:=15) (fn:=Try.f15) (c:=aC) (by kernel_rfl) (by kernel_rfl) (by kernel_rfl) (by decide) (by kernel_rfl)).congr λ xs=>(eq k xs).symm
theorem vr:vT Try.prog 15:=λ args w=>by kernel_rfl
end f15
namespace f51
noncomputable def aC:Code:=Try.f51.body.getD .skip
abbrev sig:List PT:=[(false,(.int .i64))]
abbrev rs:List RT:=[.d false (.int .i64)]
abbrev ts:List RV:=[.tmp 4]
abbrev ls:List LO:=[.box [.d Ee]]
abbrev S:=St->Option (cu ls×eP rs)
def Y:dY:=[]
noncomputable def E (k:Nat):Env:=[(15,.c (f15.aR k))]
def A:oK:={ qA:=[(1,{ slots:=[(0,.id),(1,.id),(15,.bool)],keys:=[(0,[.val false (.int .i64)])] })] }
def U:fD:=[(7,[.c 13 0,.c 7 0])]
noncomputable abbrev fz (k:Nat) (R:Nat->S) (q:Nat):S:=cx T Y (E k) A k (yp T true ls rs ts) aC U R q
noncomputable abbrev k5 (k:Nat) (rc:List Nat) (R:Nat->S):Nat->S:=ext T Y (E k) A k (yp T true ls rs ts) aC U rc R
noncomputable abbrev dc (k:Nat) (rc:List Nat) (G:Nat->S) (F:List PF):S:=λ σ=>ap T Y (E k) A k (yp T true ls rs ts) (cD T Y (E k) A k (yp T true ls rs ts) aC U rc G 9999 F) .nx σ
def Fh (Dr:ur) (x1:Int) (FJ:Bool):St:=C9 33 113 [(0,aP 0),(1,aI x1),(15,aB FJ)] [(0,.box [cV (.int .i64) Dr])]
abbrev D4:=ur->Int->Bool->Option (((ur×Unit)×Unit)×(Int×Unit))
abbrev DA (R:S):D4:=(λ Dr x1 FJ=>R (Fh Dr x1 FJ))
def sk (k:Nat) (Ef:D4) (a:ur) (a0:Int):Option (((ur×Unit)×Unit)×(Int×Unit)):=(if (a.length:Int)=0 then (Ef a a0 true) else (Ef a a0 (decide (a0 <1))))
def DZ (k:Nat) (Dr:ur) (x1:Int) (FJ:Bool):Option (((ur×Unit)×Unit)×(Int×Unit)):=(if FJ=true then some (((Dr,()),()),(0,())) else (if 0 <(Dr.length:Int) then (if (1:Int)<=(Dr.length:Int) then ((f15 k (Dr.getD (0:Int).toNat 0) x1).bind λ r1=>some ((((Dr.drop (1:Int).toNat),()),()),(r1.1,()))) else none) else none))
theorem Fg (k:Nat) (G:Nat->S):DA (dc k [] G (U.at 7))=DZ k:=by kernel_rfl
def r1 (k:Nat):D4:=DZ k
theorem Ff (k:Nat) (R:Nat->S):DA (fz k R 7)=r1 k:=
 Eq.trans (congrArg DA (BW [] (by kernel_rfl))) ((Fg k _).trans (by kernel_rfl))
theorem uo (k:Nat) (G:Nat->S) (x:cu ls) (xs:DL sig):dc k [] G [.c 1 0] (gR 33 113 0 ls x sig xs)=sk k (DA (G 7)) x.1.1 xs.1:=by kernel_rfl
end f51
def f51 (k:Nat) (a:ur) (a0:Int):Option (((ur×Unit)×Unit)×(Int×Unit)):=f51.sk k (f51.r1 k) a a0
namespace f51
theorem eq (k:Nat) (x:cu ls) (xs:DL sig):den T Y (E k) A k aC 0 (gR 33 113 0 ls x sig xs) (yp T true ls rs ts)=f51 k x.1.1 xs.1:=
 Eq.trans (BZ (R:=(λ _ _=>none)) (tb:=U)) ((uo k _ x xs).trans (Eq.trans (b:=sk k (DA (fz k (λ _ _=>none) 7)) x.1.1 xs.1) (by kernel_rfl) (by rw [Ff k (λ _ _=>none)]<;>kernel_rfl)))
noncomputable def aR (k:Nat):kG:=⟨0,true,ls,sig,rs,λ x xs=>f51 k x.1.1 xs.1⟩
theorem ok (k:Nat):gT Try.prog 51 0 true ls sig rs (λ x xs=>f51 k x.1.1 xs.1):=
 (Av (k:=k) (A:=A) (T:=T) (Y:=Y) (E:=E k) (M:=113) (ts:=ts) Dn ⟨f15.ok k,trivial⟩ ⟨f15.vr,trivial⟩ mixed (f:=51) (fn:=Try.f51) (c:=aC) (by kernel_rfl) (by kernel_rfl) (by kernel_rfl) (by decide) (by kernel_rfl) (by decide)).congr λ x xs=>(eq k x xs).symm
theorem vr:vT Try.prog 51:=λ args w=>by kernel_rfl
end f51
namespace f153
noncomputable def aC:Code:=Try.f153.body.getD .skip
abbrev sig:List PT:=[(false,Fy),(true,uv)]
abbrev rs:List RT:=[.d false (.int .i64)]
abbrev ts:List RV:=[.tmp 4]
abbrev S:=St->Option (eP rs)
def Y:dY:=[]
noncomputable def E (k:Nat):Env:=[]
def A:oK:={ loops:=[(0,{ slots:=[(0,.val false uv),(3,.id),(7,.id),(8,.id)],keys:=[(3,[])] })] }
def U:fD:=[(0,[.c 52 0,.r 0,.b 0,.c 7 0])]
noncomputable abbrev fz (k:Nat) (R:Nat->S) (q:Nat):S:=cx T Y (E k) A k (zf T rs ts) aC U R q
noncomputable abbrev k5 (k:Nat) (rc:List Nat) (R:Nat->S):Nat->S:=ext T Y (E k) A k (zf T rs ts) aC U rc R
noncomputable abbrev zv (k:Nat) (R:Nat->S) (i n:Nat):S:=lx T Y (E k) A k (zf T rs ts) aC U R i n
noncomputable abbrev dc (k:Nat) (rc:List Nat) (G:Nat->S) (F:List PF):S:=λ σ=>ap T Y (E k) A k (zf T rs ts) (cD T Y (E k) A k (zf T rs ts) aC U rc G 9999 F) .nx σ
def DB (DE Ds:Int) (x0:sv) (gi ey:Int):St:=C9 19 64 [(0,aV uv x0),(3,aP 3),(7,aI gi),(8,aI ey)] [(3,.box [cI DE,cI Ds])]
abbrev vi:=Int->Int->sv->Int->Int->Option (Int×Unit)
abbrev uf (R:S):vi:=(λ DE Ds x0 gi ey=>R (DB DE Ds x0 gi ey))
def sk (k:Nat) (xx:vi) (a0:D9) (a1:(Int×Int)):Option (Int×Unit):=(xx a1.1 a1.2 a0 (a0.length:Int) 0)
def u0 (k:Nat) (xx:vi) (DE Ds:Int) (x0:sv) (gi ey:Int):Option (Int×Unit):=(if ey <gi then (if 0<=ey then (if ey <(x0.length:Int) then (if (DE=((x0.getD (ey).toNat (0,0)).1))/\(Ds=((x0.getD (ey).toNat (0,0)).2)) then some (ey,()) else (xx DE Ds x0 gi (Ar (ey+1)))) else none) else none) else some ((-1),()))
theorem Dz (k:Nat) (G:Nat->S):uf (dc k [0] G (U.at 0))=u0 k (uf (G 0)):=by kernel_rfl
def l0 (k:Nat):Nat->vi
 | 0=>λ _ _ _ _ _=>none
 |n+1=>u0 k (l0 k n)
noncomputable abbrev wo (k:Nat) (R:Nat->S) (n:Nat):Nat->S:=up R 0 (zv k R 0 n)
theorem De (k:Nat) (R:Nat->S):∀n,uf (zv k R 0 n)=l0 k n
 | 0=>by kernel_rfl
 |n+1=>
  Eq.trans (congrArg uf (CE [] (by kernel_rfl))) ((Dz k _).trans (Eq.trans (b:=u0 k (uf ((wo k R n) 0))) (by kernel_rfl) (by rw [(show uf (wo k R n 0)=_ from De k R n)]<;>kernel_rfl)))
theorem uo (k:Nat) (G:Nat->S) (xs:DL sig):dc k [] G [.c 1 0] (uJ 19 64 sig xs)=sk k (uf (G 0)) xs.1 xs.2.1:=by kernel_rfl
end f153
def f153 (k:Nat) (a0:D9) (a1:(Int×Int)):Option (Int×Unit):=f153.sk k (f153.l0 k k) a0 a1
namespace f153
theorem eq (k:Nat) (xs:DL sig):den T Y (E k) A k aC 0 (uJ 19 64 sig xs) (zf T rs ts)=f153 k xs.1 xs.2.1:=
 Eq.trans (BZ (R:=(λ _ _=>none)) (tb:=U)) ((uo k _ xs).trans (Eq.trans (b:=sk k (uf (zv k (λ _ _=>none) 0 k)) xs.1 xs.2.1) (by kernel_rfl) (by rw [De k (λ _ _=>none) k]<;>kernel_rfl)))
noncomputable def aR (k:Nat):oL:=⟨sig,rs,λ xs=>f153 k xs.1 xs.2.1⟩
theorem ok (k:Nat):cz Try.prog 153 sig rs (λ xs=>f153 k xs.1 xs.2.1):=
 (Au (k:=k) (A:=A) (T:=T) (Y:=Y) (E:=E k) (M:=64) (ts:=ts) Dn trivial trivial mixed (f:=153) (fn:=Try.f153) (c:=aC) (by kernel_rfl) (by kernel_rfl) (by kernel_rfl) (by decide) (by kernel_rfl)).congr λ xs=>(eq k xs).symm
theorem vr:vT Try.prog 153:=λ args w=>by kernel_rfl
end f153
namespace f105
noncomputable def aC:Code:=Try.f105.body.getD .skip
abbrev sig:List PT:=[(false,Fy),(true,uv)]
abbrev rs:List RT:=[.d false .bool]
abbrev ts:List RV:=[.tmp 4]
abbrev S:=St->Option (eP rs)
def Y:dY:=[]
noncomputable def E (k:Nat):Env:=[(153,.c (f153.aR k))]
def A:oK:={}
def U:fD:=[]
noncomputable abbrev dc (k:Nat) (rc:List Nat) (G:Nat->S) (F:List PF):S:=λ σ=>ap T Y (E k) A k (zf T rs ts) (cD T Y (E k) A k (zf T rs ts) aC U rc G 9999 F) .nx σ
def sk (k:Nat) (a0:D9) (a1:(Int×Int)):Option (Bool×Unit):=((f153 k a0 (a1.1,a1.2)).bind λ r1=>some (decide (0<=r1.1),()))
theorem uo (k:Nat) (G:Nat->S) (xs:DL sig):dc k [] G [.c 1 0] (uJ 9 32 sig xs)=sk k xs.1 xs.2.1:=by kernel_rfl
end f105
def f105 (k:Nat) (a0:D9) (a1:(Int×Int)):Option (Bool×Unit):=f105.sk k a0 a1
namespace f105
theorem eq (k:Nat) (xs:DL sig):den T Y (E k) A k aC 0 (uJ 9 32 sig xs) (zf T rs ts)=f105 k xs.1 xs.2.1:=
 Eq.trans (BZ (R:=(λ _ _=>none)) (tb:=U)) ((uo k _ xs).trans (by kernel_rfl))
noncomputable def aR (k:Nat):oL:=⟨sig,rs,λ xs=>f105 k xs.1 xs.2.1⟩
theorem ok (k:Nat):cz Try.prog 105 sig rs (λ xs=>f105 k xs.1 xs.2.1):=
 (Au (k:=k) (A:=A) (T:=T) (Y:=Y) (E:=E k) (M:=32) (ts:=ts) Dn ⟨f153.ok k,trivial⟩ ⟨f153.vr,trivial⟩ mixed (f:=105) (fn:=Try.f105) (c:=aC) (by kernel_rfl) (by kernel_rfl) (by kernel_rfl) (by decide) (by kernel_rfl)).congr λ xs=>(eq k xs).symm
theorem vr:vT Try.prog 105:=λ args w=>by kernel_rfl
end f105
namespace f127
noncomputable def aC:Code:=Try.f127.body.getD .skip
abbrev sig:List PT:=[(false,Fy),(true,uv)]
abbrev rs:List RT:=[.d false (.int .i64)]
abbrev ts:List RV:=[.tmp 4]
abbrev S:=St->Option (eP rs)
def Y:dY:=[]
noncomputable def E (k:Nat):Env:=[]
def A:oK:={ loops:=[(0,{ slots:=[(0,.val false uv),(3,.id),(7,.id),(8,.id)],keys:=[(3,[])] })] }
def U:fD:=[(0,[.c 52 0,.r 0,.b 0,.c 7 0])]
noncomputable abbrev fz (k:Nat) (R:Nat->S) (q:Nat):S:=cx T Y (E k) A k (zf T rs ts) aC U R q
noncomputable abbrev k5 (k:Nat) (rc:List Nat) (R:Nat->S):Nat->S:=ext T Y (E k) A k (zf T rs ts) aC U rc R
noncomputable abbrev zv (k:Nat) (R:Nat->S) (i n:Nat):S:=lx T Y (E k) A k (zf T rs ts) aC U R i n
noncomputable abbrev dc (k:Nat) (rc:List Nat) (G:Nat->S) (F:List PF):S:=λ σ=>ap T Y (E k) A k (zf T rs ts) (cD T Y (E k) A k (zf T rs ts) aC U rc G 9999 F) .nx σ
def DB (DE Ds:Int) (x0:sv) (gi ey:Int):St:=C9 19 64 [(0,aV uv x0),(3,aP 3),(7,aI gi),(8,aI ey)] [(3,.box [cI DE,cI Ds])]
abbrev vi:=Int->Int->sv->Int->Int->Option (Int×Unit)
abbrev uf (R:S):vi:=(λ DE Ds x0 gi ey=>R (DB DE Ds x0 gi ey))
def sk (k:Nat) (xx:vi) (a0:D9) (a1:(Int×Int)):Option (Int×Unit):=(xx a1.1 a1.2 a0 (a0.length:Int) 0)
def u0 (k:Nat) (xx:vi) (DE Ds:Int) (x0:sv) (gi ey:Int):Option (Int×Unit):=(if ey <gi then (if 0<=ey then (if ey <(x0.length:Int) then (if (DE=((x0.getD (ey).toNat (0,0)).1))/\(Ds=((x0.getD (ey).toNat (0,0)).2)) then some (ey,()) else (xx DE Ds x0 gi (Ar (ey+1)))) else none) else none) else some ((-1),()))
theorem Dz (k:Nat) (G:Nat->S):uf (dc k [0] G (U.at 0))=u0 k (uf (G 0)):=by kernel_rfl
def l0 (k:Nat):Nat->vi
 | 0=>λ _ _ _ _ _=>none
 |n+1=>u0 k (l0 k n)
noncomputable abbrev wo (k:Nat) (R:Nat->S) (n:Nat):Nat->S:=up R 0 (zv k R 0 n)
theorem De (k:Nat) (R:Nat->S):∀n,uf (zv k R 0 n)=l0 k n
 | 0=>by kernel_rfl
 |n+1=>
  Eq.trans (congrArg uf (CE [] (by kernel_rfl))) ((Dz k _).trans (Eq.trans (b:=u0 k (uf ((wo k R n) 0))) (by kernel_rfl) (by rw [(show uf (wo k R n 0)=_ from De k R n)]<;>kernel_rfl)))
theorem uo (k:Nat) (G:Nat->S) (xs:DL sig):dc k [] G [.c 1 0] (uJ 19 64 sig xs)=sk k (uf (G 0)) xs.1 xs.2.1:=by kernel_rfl
end f127
def f127 (k:Nat) (a0:D9) (a1:(Int×Int)):Option (Int×Unit):=f127.sk k (f127.l0 k k) a0 a1
namespace f127
theorem eq (k:Nat) (xs:DL sig):den T Y (E k) A k aC 0 (uJ 19 64 sig xs) (zf T rs ts)=f127 k xs.1 xs.2.1:=
 Eq.trans (BZ (R:=(λ _ _=>none)) (tb:=U)) ((uo k _ xs).trans (Eq.trans (b:=sk k (uf (zv k (λ _ _=>none) 0 k)) xs.1 xs.2.1) (by kernel_rfl) (by rw [De k (λ _ _=>none) k]<;>kernel_rfl)))
noncomputable def aR (k:Nat):oL:=⟨sig,rs,λ xs=>f127 k xs.1 xs.2.1⟩
theorem ok (k:Nat):cz Try.prog 127 sig rs (λ xs=>f127 k xs.1 xs.2.1):=
 (Au (k:=k) (A:=A) (T:=T) (Y:=Y) (E:=E k) (M:=64) (ts:=ts) Dn trivial trivial mixed (f:=127) (fn:=Try.f127) (c:=aC) (by kernel_rfl) (by kernel_rfl) (by kernel_rfl) (by decide) (by kernel_rfl)).congr λ xs=>(eq k xs).symm
theorem vr:vT Try.prog 127:=λ args w=>by kernel_rfl
end f127
namespace f126
noncomputable def aC:Code:=Try.f126.body.getD .skip
abbrev sig:List PT:=[(false,Fy),(true,uv)]
abbrev rs:List RT:=[.d false .bool]
abbrev ts:List RV:=[.tmp 4]
abbrev S:=St->Option (eP rs)
def Y:dY:=[]
noncomputable def E (k:Nat):Env:=[(127,.c (f127.aR k))]
def A:oK:={}
def U:fD:=[]
noncomputable abbrev dc (k:Nat) (rc:List Nat) (G:Nat->S) (F:List PF):S:=λ σ=>ap T Y (E k) A k (zf T rs ts) (cD T Y (E k) A k (zf T rs ts) aC U rc G 9999 F) .nx σ
def sk (k:Nat) (a0:D9) (a1:(Int×Int)):Option (Bool×Unit):=((f127 k a0 (a1.1,a1.2)).bind λ r1=>some (decide (0<=r1.1),()))
theorem uo (k:Nat) (G:Nat->S) (xs:DL sig):dc k [] G [.c 1 0] (uJ 9 32 sig xs)=sk k xs.1 xs.2.1:=by kernel_rfl
end f126
def f126 (k:Nat) (a0:D9) (a1:(Int×Int)):Option (Bool×Unit):=f126.sk k a0 a1
namespace f126
theorem eq (k:Nat) (xs:DL sig):den T Y (E k) A k aC 0 (uJ 9 32 sig xs) (zf T rs ts)=f126 k xs.1 xs.2.1:=
 Eq.trans (BZ (R:=(λ _ _=>none)) (tb:=U)) ((uo k _ xs).trans (by kernel_rfl))
noncomputable def aR (k:Nat):oL:=⟨sig,rs,λ xs=>f126 k xs.1 xs.2.1⟩
theorem ok (k:Nat):cz Try.prog 126 sig rs (λ xs=>f126 k xs.1 xs.2.1):=
 (Au (k:=k) (A:=A) (T:=T) (Y:=Y) (E:=E k) (M:=32) (ts:=ts) Dn ⟨f127.ok k,trivial⟩ ⟨f127.vr,trivial⟩ mixed (f:=126) (fn:=Try.f126) (c:=aC) (by kernel_rfl) (by kernel_rfl) (by kernel_rfl) (by decide) (by kernel_rfl)).congr λ xs=>(eq k xs).symm
theorem vr:vT Try.prog 126:=λ args w=>by kernel_rfl
end f126
namespace f131
noncomputable def aC:Code:=Try.f131.body.getD .skip
abbrev sig:List PT:=[]
abbrev rs:List RT:=[.d true uv]
abbrev ts:List RV:=[.cell 2 108]
abbrev ls:List LO:=[.box [.d Ee]]
abbrev S:=St->Option (cu ls×eP rs)
def Y:dY:=[]
noncomputable def E (k:Nat):Env:=[(51,.b (f51.aR k))]
def A:oK:={}
def U:fD:=[]
noncomputable abbrev dc (k:Nat) (rc:List Nat) (G:Nat->S) (F:List PF):S:=λ σ=>ap T Y (E k) A k (yp T true ls rs ts) (cD T Y (E k) A k (yp T true ls rs ts) aC U rc G 9999 F) .nx σ
def sk (k:Nat) (a:ur):Option (((ur×Unit)×Unit)×((Int×Int)×Unit)):=((f51 k a 81).bind λ r1=>((f51 k r1.1.1.1 81).bind λ r2=>some (((r2.1.1.1,()),()),((Ar (r1.2.1 - 40),Ar (r2.2.1 - 40)),()))))
theorem uo (k:Nat) (G:Nat->S) (x:cu ls) (xs:DL sig):dc k [] G [.c 1 0] (gR 10 33 0 ls x sig xs)=sk k x.1.1:=by kernel_rfl
end f131
def f131 (k:Nat) (a:ur):Option (((ur×Unit)×Unit)×((Int×Int)×Unit)):=f131.sk k a
namespace f131
theorem eq (k:Nat) (x:cu ls) (xs:DL sig):den T Y (E k) A k aC 0 (gR 10 33 0 ls x sig xs) (yp T true ls rs ts)=f131 k x.1.1:=
 Eq.trans (BZ (R:=(λ _ _=>none)) (tb:=U)) ((uo k _ x xs).trans (by kernel_rfl))
noncomputable def aR (k:Nat):kG:=⟨0,true,ls,sig,rs,λ x xs=>f131 k x.1.1⟩
theorem ok (k:Nat):gT Try.prog 131 0 true ls sig rs (λ x xs=>f131 k x.1.1):=
 (Av (k:=k) (A:=A) (T:=T) (Y:=Y) (E:=E k) (M:=33) (ts:=ts) Dn ⟨f51.ok k,trivial⟩ ⟨f51.vr,trivial⟩ mixed (f:=131) (fn:=Try.f131) (c:=aC) (by kernel_rfl) (by kernel_rfl) (by kernel_rfl) (by decide) (by kernel_rfl) (by decide)).congr λ x xs=>(eq k x xs).symm
theorem vr:vT Try.prog 131:=λ args w=>by kernel_rfl
end f131
namespace f181
noncomputable def aC:Code:=Try.f181.body.getD .skip
abbrev sig:List PT:=[(false,(.int .u64))]
abbrev rs:List RT:=[.d false (.int .i64)]
abbrev ts:List RV:=[.tmp 2]
abbrev S:=St->Option (eP rs)
def Y:dY:=[]
noncomputable def E (k:Nat):Env:=[]
def A:oK:={ conds:=[(2,{ slots:=[(0,.id),(2,.id)] }),(5,{ slots:=[(0,.id),(2,.id)] }),(8,{ slots:=[(0,.id),(2,.id)] })] }
def U:fD:=[(9,[.c 7 0]),(21,[.c 15 0]),(33,[.c 31 0])]
noncomputable abbrev fz (k:Nat) (R:Nat->S) (q:Nat):S:=cx T Y (E k) A k (zf T rs ts) aC U R q
noncomputable abbrev k5 (k:Nat) (rc:List Nat) (R:Nat->S):Nat->S:=ext T Y (E k) A k (zf T rs ts) aC U rc R
noncomputable abbrev dc (k:Nat) (rc:List Nat) (G:Nat->S) (F:List PF):S:=λ σ=>ap T Y (E k) A k (zf T rs ts) (cD T Y (E k) A k (zf T rs ts) aC U rc G 9999 F) .nx σ
def M4 (x0 x2:Int):St:=C9 25 80 [(0,.cp (.one (.int .u64 x0))),(2,aI x2)] []
abbrev Kn:=Int->Int->Option (Int×Unit)
abbrev Iq (R:S):Kn:=(λ x0 x2=>R (M4 x0 x2))
def M6 (x0 x2:Int):St:=C9 25 80 [(0,.cp (.one (.int .u64 x0))),(2,aI x2)] []
abbrev Kp:=Int->Int->Option (Int×Unit)
abbrev Is (R:S):Kp:=(λ x0 x2=>R (M6 x0 x2))
def IF (x0 x2:Int):St:=C9 25 80 [(0,.cp (.one (.int .u64 x0))),(2,aI x2)] []
abbrev FE:=Int->Int->Option (Int×Unit)
abbrev EH (R:S):FE:=(λ x0 x2=>R (IF x0 x2))
def sk (k:Nat) (La:Kn) (a0:Int):Option (Int×Unit):=(if 4294967296<=a0 then (La (a0.fdiv (2 ^ min (32:Int).toNat (IntKind.bits .u64))) 32) else (La a0 0))
def J2 (k:Nat) (Lc:Kp) (x0 x2:Int):Option (Int×Unit):=(if 65536<=x0 then (Lc (x0.fdiv (2 ^ min (16:Int).toNat (IntKind.bits .u64))) (Ar (x2+16))) else (Lc x0 x2))
def J4 (k:Nat) (GB:FE) (x0 x2:Int):Option (Int×Unit):=(if 256<=x0 then (GB (x0.fdiv (2 ^ min (8:Int).toNat (IntKind.bits .u64))) (Ar (x2+8))) else (GB x0 x2))
def FN (k:Nat) (x0 x2:Int):Option (Int×Unit):=(if 0<=(IntKind.u8.wrap (x0)) then (if (IntKind.u8.wrap (x0)) <(Mm.size:Int) then some (Ar (x2+(Ar (sq Mm (IntKind.u8.wrap (x0)).toNat))),()) else none) else none)
theorem H8 (k:Nat) (G:Nat->S):EH (dc k [] G (U.at 33))=FN k:=by kernel_rfl
def q4 (k:Nat):FE:=FN k
theorem H7 (k:Nat) (R:Nat->S):EH (fz k R 33)=q4 k:=
 Eq.trans (congrArg EH (BW [] (by kernel_rfl))) ((H8 k _).trans (by kernel_rfl))
theorem MM (k:Nat) (G:Nat->S):Is (dc k [] G (U.at 21))=J4 k (EH (G 33)):=by kernel_rfl
def c5 (k:Nat):Kp:=J4 k (q4 k)
theorem ML (k:Nat) (R:Nat->S):Is (fz k R 21)=c5 k:=
 Eq.trans (congrArg Is (BW [] (by kernel_rfl))) ((MM k _).trans (Eq.trans (b:=J4 k (EH (fz k R 33))) (by kernel_rfl) (by rw [H7 k R]<;>kernel_rfl)))
theorem MH (k:Nat) (G:Nat->S):Iq (dc k [] G (U.at 9))=J2 k (Is (G 21)):=by kernel_rfl
def c2 (k:Nat):Kn:=J2 k (c5 k)
theorem MG (k:Nat) (R:Nat->S):Iq (fz k R 9)=c2 k:=
 Eq.trans (congrArg Iq (BW [] (by kernel_rfl))) ((MH k _).trans (Eq.trans (b:=J2 k (Is (fz k R 21))) (by kernel_rfl) (by rw [ML k R]<;>kernel_rfl)))
theorem uo (k:Nat) (G:Nat->S) (xs:DL sig):dc k [] G [.c 1 0] (uJ 25 80 sig xs)=sk k (Iq (G 9)) xs.1:=by kernel_rfl
end f181
def f181 (k:Nat) (a0:Int):Option (Int×Unit):=f181.sk k (f181.c2 k) a0
namespace f181
theorem eq (k:Nat) (xs:DL sig):den T Y (E k) A k aC 0 (uJ 25 80 sig xs) (zf T rs ts)=f181 k xs.1:=
 Eq.trans (BZ (R:=(λ _ _=>none)) (tb:=U)) ((uo k _ xs).trans (Eq.trans (b:=sk k (Iq (fz k (λ _ _=>none) 9)) xs.1) (by kernel_rfl) (by rw [MG k (λ _ _=>none)]<;>kernel_rfl)))
noncomputable def aR (k:Nat):oL:=⟨sig,rs,λ xs=>f181 k xs.1⟩
theorem ok (k:Nat):cz Try.prog 181 sig rs (λ xs=>f181 k xs.1):=
 (Au (k:=k) (A:=A) (T:=T) (Y:=Y) (E:=E k) (M:=80) (ts:=ts) Dn trivial trivial mixed (f:=181) (fn:=Try.f181) (c:=aC) (by kernel_rfl) (by kernel_rfl) (by kernel_rfl) (by decide) (by kernel_rfl)).congr λ xs=>(eq k xs).symm
theorem vr:vT Try.prog 181:=λ args w=>by kernel_rfl
end f181
namespace f145
noncomputable def aC:Code:=Try.f145.body.getD .skip
abbrev sig:List PT:=[(false,(.int .u64))]
abbrev rs:List RT:=[.d false (.int .i64)]
abbrev ts:List RV:=[.tmp 2]
abbrev S:=St->Option (eP rs)
def Y:dY:=[]
noncomputable def E (k:Nat):Env:=[(181,.c (f181.aR k))]
def A:oK:={}
def U:fD:=[]
noncomputable abbrev dc (k:Nat) (rc:List Nat) (G:Nat->S) (F:List PF):S:=λ σ=>ap T Y (E k) A k (zf T rs ts) (cD T Y (E k) A k (zf T rs ts) aC U rc G 9999 F) .nx σ
def sk (k:Nat) (a0:Int):Option (Int×Unit):=((f181 k a0).bind λ r1=>some (r1.1,()))
theorem uo (k:Nat) (G:Nat->S) (xs:DL sig):dc k [] G [.c 1 0] (uJ 8 32 sig xs)=sk k xs.1:=by kernel_rfl
end f145
def f145 (k:Nat) (a0:Int):Option (Int×Unit):=f145.sk k a0
namespace f145
theorem eq (k:Nat) (xs:DL sig):den T Y (E k) A k aC 0 (uJ 8 32 sig xs) (zf T rs ts)=f145 k xs.1:=
 Eq.trans (BZ (R:=(λ _ _=>none)) (tb:=U)) ((uo k _ xs).trans (by kernel_rfl))
noncomputable def aR (k:Nat):oL:=⟨sig,rs,λ xs=>f145 k xs.1⟩
theorem ok (k:Nat):cz Try.prog 145 sig rs (λ xs=>f145 k xs.1):=
 (Au (k:=k) (A:=A) (T:=T) (Y:=Y) (E:=E k) (M:=32) (ts:=ts) Dn ⟨f181.ok k,trivial⟩ ⟨f181.vr,trivial⟩ mixed (f:=145) (fn:=Try.f145) (c:=aC) (by kernel_rfl) (by kernel_rfl) (by kernel_rfl) (by decide) (by kernel_rfl)).congr λ xs=>(eq k xs).symm
theorem vr:vT Try.prog 145:=λ args w=>by kernel_rfl
end f145
namespace f133
noncomputable def aC:Code:=Try.f133.body.getD .skip
abbrev sig:List PT:=[(true,uv),(true,uv)]
abbrev rs:List RT:=[.d false (.int .i64)]
abbrev ts:List RV:=[.tmp 4]
abbrev S:=St->Option (eP rs)
def Y:dY:=[]
noncomputable def E (k:Nat):Env:=[]
def A:oK:={}
def U:fD:=[]
noncomputable abbrev dc (k:Nat) (rc:List Nat) (G:Nat->S) (F:List PF):S:=λ σ=>ap T Y (E k) A k (zf T rs ts) (cD T Y (E k) A k (zf T rs ts) aC U rc G 9999 F) .nx σ
def sk (k:Nat) (a0 a1:(Int×Int)):Option (Int×Unit):=(if ¬(a0.1=a1.1) then some (Ar (a0.1 - a1.1),()) else some (Ar (a0.2 - a1.2),()))
theorem uo (k:Nat) (G:Nat->S) (xs:DL sig):dc k [] G [.c 1 0] (uJ 20 64 sig xs)=sk k xs.1 xs.2.1:=by kernel_rfl
end f133
def f133 (k:Nat) (a0 a1:(Int×Int)):Option (Int×Unit):=f133.sk k a0 a1
namespace f133
theorem eq (k:Nat) (xs:DL sig):den T Y (E k) A k aC 0 (uJ 20 64 sig xs) (zf T rs ts)=f133 k xs.1 xs.2.1:=
 Eq.trans (BZ (R:=(λ _ _=>none)) (tb:=U)) ((uo k _ xs).trans (by kernel_rfl))
noncomputable def aR (k:Nat):oL:=⟨sig,rs,λ xs=>f133 k xs.1 xs.2.1⟩
theorem ok (k:Nat):cz Try.prog 133 sig rs (λ xs=>f133 k xs.1 xs.2.1):=
 (Au (k:=k) (A:=A) (T:=T) (Y:=Y) (E:=E k) (M:=64) (ts:=ts) Dn trivial trivial mixed (f:=133) (fn:=Try.f133) (c:=aC) (by kernel_rfl) (by kernel_rfl) (by kernel_rfl) (by decide) (by kernel_rfl)).congr λ xs=>(eq k xs).symm
theorem vr:vT Try.prog 133:=λ args w=>by kernel_rfl
end f133
namespace f209
noncomputable def aC:Code:=Try.f209.body.getD .skip
abbrev sig:List PT:=[(false,(.int .i64)),(false,(.int .i64)),(false,(.fn 133))]
abbrev rs:List RT:=[]
abbrev ts:List RV:=[]
abbrev ls:List LO:=[.row uv]
abbrev S:=St->Option (cu ls×eP rs)
def Y:dY:=[]
noncomputable def E (k:Nat):Env:=[(133,.c (f133.aR k))]
def A:oK:={ loops:=[(0,{ slots:=[(0,.id),(1,.id),(2,.id),(3,.id),(8,.id)],keys:=[(0,[])] }),(2,{ slots:=[(0,.id),(1,.id),(2,.id),(3,.id),(8,.id),(9,.id)],keys:=[(0,[])] })],qA:=[(4,{ slots:=[(0,.id),(1,.id),(2,.id),(3,.id),(8,.id),(9,.id),(34,.bool)],keys:=[(0,[])] })] }
def U:fD:=[(0,[.c 12 0,.r 0,.b 0]),(8,[.c 804 2,.r 2,.b 2,.b 1,.c 51 0,.r 0,.b 0]),(19,[.c 3217 2,.c 1609 2,.r 2,.b 2,.b 1,.c 51 0,.r 0,.b 0])]
noncomputable abbrev fz (k:Nat) (R:Nat->S) (q:Nat):S:=cx T Y (E k) A k (yp T true ls rs ts) aC U R q
noncomputable abbrev k5 (k:Nat) (rc:List Nat) (R:Nat->S):Nat->S:=ext T Y (E k) A k (yp T true ls rs ts) aC U rc R
noncomputable abbrev zv (k:Nat) (R:Nat->S) (i n:Nat):S:=lx T Y (E k) A k (yp T true ls rs ts) aC U R i n
noncomputable abbrev dc (k:Nat) (rc:List Nat) (G:Nat->S) (F:List PF):S:=λ σ=>ap T Y (E k) A k (yp T true ls rs ts) (cD T Y (E k) A k (yp T true ls rs ts) aC U rc G 9999 F) .nx σ
def DB (y0:sv) (x1 x2 ey:Int):St:=C9 53 161 [(0,aO 0),(1,aI x1),(2,aI x2),(3,.cp (.one (.fn 133 []))),(8,aI ey)] [(0,.vec uv y0)]
abbrev vi:=sv->Int->Int->Int->Option ((sv×Unit)×(Unit))
abbrev uf (R:S):vi:=(λ y0 x1 x2 ey=>R (DB y0 x1 x2 ey))
def EW (y0:sv) (x1 x2 ey hU:Int):St:=C9 53 161 [(0,aO 0),(1,aI x1),(2,aI x2),(3,.cp (.one (.fn 133 []))),(8,aI ey),(9,aI hU)] [(0,.vec uv y0)]
abbrev Du:=sv->Int->Int->Int->Int->Option ((sv×Unit)×(Unit))
abbrev Ad (R:S):Du:=(λ y0 x1 x2 ey hU=>R (EW y0 x1 x2 ey hU))
def M9 (y0:sv) (x1 x2:Int) (x34:Bool) (ey hU:Int):St:=C9 53 161 [(0,aO 0),(1,aI x1),(2,aI x2),(3,.cp (.one (.fn 133 []))),(8,aI ey),(9,aI hU),(34,aB x34)] [(0,.vec uv y0)]
abbrev Kr:=sv->Int->Int->Bool->Int->Int->Option ((sv×Unit)×(Unit))
abbrev Iu (R:S):Kr:=(λ y0 x1 x2 x34 ey hU=>R (M9 y0 x1 x2 x34 ey hU))
def sk (k:Nat) (xx:vi) (a:D9) (a0 a1:Int) (a2:Unit):Option ((sv×Unit)×(Unit)):=(xx a a0 a1 (Ar (a0+1)))
def u0 (k:Nat) (DT:Du) (y0:sv) (x1 x2 ey:Int):Option ((sv×Unit)×(Unit)):=(if ey <x2 then (DT y0 x1 x2 ey ey) else some ((y0,()),(())))
def Dl (k:Nat) (Le:Kr) (y0:sv) (x1 x2 ey hU:Int):Option ((sv×Unit)×(Unit)):=(if x1 <hU then (if 0<=hU then (if hU <(y0.length:Int) then (if 0<=(Ar (hU - 1)) then (if (Ar (hU - 1)) <(y0.length:Int) then ((f133 k ((y0.getD ((hU).toNat) (0,0)).1,(y0.getD ((hU).toNat) (0,0)).2) ((y0.getD ((Ar (hU - 1)).toNat) (0,0)).1,(y0.getD ((Ar (hU - 1)).toNat) (0,0)).2)).bind λ r1=>(Le y0 x1 x2 (decide (r1.1 <0)) ey hU)) else none) else none) else none) else none) else (Le y0 x1 x2 false ey hU))
def Iz (k:Nat) (xx:vi) (DT:Du) (y0:sv) (x1 x2:Int) (x34:Bool) (ey hU:Int):Option ((sv×Unit)×(Unit)):=(if x34=true then (if 0<=(Ar (hU - 1)) then (if (Ar (hU - 1)) <(y0.length:Int) then (if 0<=hU then (if hU <(y0.length:Int) then (if 0<=hU then (if hU <(y0.length:Int) then (if 0<=(Ar (hU - 1)) then (if (Ar (hU - 1)) <((y0.set ((hU).toNat) ((y0.getD ((Ar (hU - 1)).toNat) (0,0)).1,(y0.getD ((Ar (hU - 1)).toNat) (0,0)).2)).length:Int) then (DT ((y0.set ((hU).toNat) ((y0.getD ((Ar (hU - 1)).toNat) (0,0)).1,(y0.getD ((Ar (hU - 1)).toNat) (0,0)).2)).set ((Ar (hU - 1)).toNat) ((y0.getD ((hU).toNat) (0,0)).1,(y0.getD ((hU).toNat) (0,0)).2)) x1 x2 ey (Ar (hU - 1))) else none) else none) else none) else none) else none) else none) else none) else none) else (xx y0 x1 x2 (Ar (ey+1))))
theorem MZ (k:Nat) (G:Nat->S):Iu (dc k [8,0] G (U.at 19))=Iz k (uf (G 0)) (Ad (G 8)):=by kernel_rfl
def r4 (k:Nat) (Ey:Du) (Dp:vi):Kr:=Iz k Dp Ey
theorem MY (k:Nat) (R:Nat->S):Iu (fz k R 19)=r4 k (Ad (R 8)) (uf (R 0)):=
 Eq.trans (congrArg Iu (BW [8,0] (by kernel_rfl))) ((MZ k _).trans (by kernel_rfl))
theorem EV (k:Nat) (G:Nat->S):Ad (dc k [8,0] G (U.at 8))=Dl k (Iu (G 19)):=by kernel_rfl
def l2 (k:Nat) (Dp:vi):Nat->Du
 | 0=>λ _ _ _ _ _=>none
 |n+1=>Dl k (r4 k (l2 k Dp n) Dp)
noncomputable abbrev DH (k:Nat) (R:Nat->S) (n:Nat):Nat->S:=up R 8 (zv k R 2 n)
theorem Eg (k:Nat) (R:Nat->S):∀n,Ad (zv k R 2 n)=l2 k (uf (R 0)) n
 | 0=>by kernel_rfl
 |n+1=>
  Eq.trans (congrArg Ad (CE [0] (by kernel_rfl))) ((EV k _).trans (Eq.trans (b:=Dl k (Iu (fz k (DH k R n) 19))) (by kernel_rfl) (by rw [MY k (DH k R n),(show Ad (DH k R n 8)=_ from Eg k R n)]<;>kernel_rfl)))
theorem Dz (k:Nat) (G:Nat->S):uf (dc k [0] G (U.at 0))=u0 k (Ad (G 8)):=by kernel_rfl
def l0 (k:Nat):Nat->vi
 | 0=>λ _ _ _ _=>none
 |n+1=>u0 k (l2 k (l0 k n) k)
noncomputable abbrev wo (k:Nat) (R:Nat->S) (n:Nat):Nat->S:=up R 0 (zv k R 0 n)
theorem De (k:Nat) (R:Nat->S):∀n,uf (zv k R 0 n)=l0 k n
 | 0=>by kernel_rfl
 |n+1=>
  Eq.trans (congrArg uf (CE [] (by kernel_rfl))) ((Dz k _).trans (Eq.trans (b:=u0 k (Ad (zv k (wo k R n) 2 k))) (by kernel_rfl) (by rw [Eg k (wo k R n) k,(show uf (wo k R n 0)=_ from De k R n)]<;>kernel_rfl)))
theorem uo (k:Nat) (G:Nat->S) (x:cu ls) (xs:DL sig):dc k [] G [.c 1 0] (gR 53 161 0 ls x sig xs)=sk k (uf (G 0)) x.1 xs.1 xs.2.1 xs.2.2.1:=by kernel_rfl
end f209
def f209 (k:Nat) (a:D9) (a0 a1:Int) (a2:Unit):Option ((sv×Unit)×(Unit)):=f209.sk k (f209.l0 k k) a a0 a1 a2
namespace f209
theorem eq (k:Nat) (x:cu ls) (xs:DL sig):den T Y (E k) A k aC 0 (gR 53 161 0 ls x sig xs) (yp T true ls rs ts)=f209 k x.1 xs.1 xs.2.1 xs.2.2.1:=
 Eq.trans (BZ (R:=(λ _ _=>none)) (tb:=U)) ((uo k _ x xs).trans (Eq.trans (b:=sk k (uf (zv k (λ _ _=>none) 0 k)) x.1 xs.1 xs.2.1 xs.2.2.1) (by kernel_rfl) (by rw [De k (λ _ _=>none) k]<;>kernel_rfl)))
noncomputable def aR (k:Nat):kG:=⟨0,true,ls,sig,rs,λ x xs=>f209 k x.1 xs.1 xs.2.1 xs.2.2.1⟩
theorem ok (k:Nat):gT Try.prog 209 0 true ls sig rs (λ x xs=>f209 k x.1 xs.1 xs.2.1 xs.2.2.1):=
 (Av (k:=k) (A:=A) (T:=T) (Y:=Y) (E:=E k) (M:=161) (ts:=ts) Dn ⟨f133.ok k,trivial⟩ ⟨f133.vr,trivial⟩ mixed (f:=209) (fn:=Try.f209) (c:=aC) (by kernel_rfl) (by kernel_rfl) (by kernel_rfl) (by decide) (by kernel_rfl) (by decide)).congr λ x xs=>(eq k x xs).symm
theorem vr:vT Try.prog 209:=λ args w=>by kernel_rfl
end f209
namespace f249
noncomputable def aC:Code:=Try.f249.body.getD .skip
abbrev sig:List PT:=[(false,Fy),(false,(.int .i64)),(false,(.int .i64)),(false,(.fn 133))]
abbrev rs:List RT:=[.d false (.int .i64),.d false (.int .i64)]
abbrev ts:List RV:=[.tmp 10,.tmp 11]
abbrev ls:List LO:=[.box [.d (.int .i64)]]
abbrev S:=St->Option (cu ls×eP rs)
def Y:dY:=[]
noncomputable def E (k:Nat):Env:=[(133,.c (f133.aR k))]
def A:oK:={}
def U:fD:=[]
noncomputable abbrev dc (k:Nat) (rc:List Nat) (G:Nat->S) (F:List PF):S:=λ σ=>ap T Y (E k) A k (yp T true ls rs ts) (cD T Y (E k) A k (yp T true ls rs ts) aC U rc G 9999 F) .nx σ
def sk (k:Nat) (a:Int) (a0:D9) (a1 a2:Int) (a3:Unit):Option (((Int×Unit)×Unit)×(Int×Int×Unit)):=(if 0<=a2 then (if a2 <(a0.length:Int) then (if 0<=a1 then (if a1 <(a0.length:Int) then ((f133 k ((a0.getD (a2).toNat (0,0)).1,(a0.getD (a2).toNat (0,0)).2) ((a0.getD (a1).toNat (0,0)).1,(a0.getD (a1).toNat (0,0)).2)).bind λ r1=>(if r1.1 <0 then some (((Ar (a+1),()),()),(a2,a1,())) else some (((a,()),()),(a1,a2,())))) else none) else none) else none) else none)
theorem uo (k:Nat) (G:Nat->S) (x:cu ls) (xs:DL sig):dc k [] G [.c 1 0] (gR 32 97 3 ls x sig xs)=sk k x.1.1 xs.1 xs.2.1 xs.2.2.1 xs.2.2.2.1:=by kernel_rfl
end f249
def f249 (k:Nat) (a:Int) (a0:D9) (a1 a2:Int) (a3:Unit):Option (((Int×Unit)×Unit)×(Int×Int×Unit)):=f249.sk k a a0 a1 a2 a3
namespace f249
theorem eq (k:Nat) (x:cu ls) (xs:DL sig):den T Y (E k) A k aC 0 (gR 32 97 3 ls x sig xs) (yp T true ls rs ts)=f249 k x.1.1 xs.1 xs.2.1 xs.2.2.1 xs.2.2.2.1:=
 Eq.trans (BZ (R:=(λ _ _=>none)) (tb:=U)) ((uo k _ x xs).trans (by kernel_rfl))
noncomputable def aR (k:Nat):kG:=⟨3,true,ls,sig,rs,λ x xs=>f249 k x.1.1 xs.1 xs.2.1 xs.2.2.1 xs.2.2.2.1⟩
theorem ok (k:Nat):gT Try.prog 249 3 true ls sig rs (λ x xs=>f249 k x.1.1 xs.1 xs.2.1 xs.2.2.1 xs.2.2.2.1):=
 (Av (k:=k) (A:=A) (T:=T) (Y:=Y) (E:=E k) (M:=97) (ts:=ts) Dn ⟨f133.ok k,trivial⟩ ⟨f133.vr,trivial⟩ mixed (f:=249) (fn:=Try.f249) (c:=aC) (by kernel_rfl) (by kernel_rfl) (by kernel_rfl) (by decide) (by kernel_rfl) (by decide)).congr λ x xs=>(eq k x xs).symm
theorem vr:vT Try.prog 249:=λ args w=>by kernel_rfl
end f249
namespace f239
noncomputable def aC:Code:=Try.f239.body.getD .skip
abbrev sig:List PT:=[(false,Fy),(false,(.int .i64)),(false,(.int .i64)),(false,(.int .i64)),(false,(.fn 133))]
abbrev rs:List RT:=[.d false (.int .i64)]
abbrev ts:List RV:=[.tmp 12]
abbrev ls:List LO:=[.box [.d (.int .i64)]]
abbrev S:=St->Option (cu ls×eP rs)
def Y:dY:=[]
noncomputable def E (k:Nat):Env:=[(249,.b (f249.aR k))]
def A:oK:={}
def U:fD:=[]
noncomputable abbrev dc (k:Nat) (rc:List Nat) (G:Nat->S) (F:List PF):S:=λ σ=>ap T Y (E k) A k (yp T true ls rs ts) (cD T Y (E k) A k (yp T true ls rs ts) aC U rc G 9999 F) .nx σ
def sk (k:Nat) (a:Int) (a0:D9) (a1 a2 a3:Int) (a4:Unit):Option (((Int×Unit)×Unit)×(Int×Unit)):=((f249 k a a0 a1 a2 ()).bind λ r1=>((f249 k r1.1.1.1 a0 r1.2.2.1 a3 ()).bind λ r2=>((f249 k r2.1.1.1 a0 r1.2.1 r2.2.1 ()).bind λ r3=>some (((r3.1.1.1,()),()),(r3.2.2.1,())))))
theorem uo (k:Nat) (G:Nat->S) (x:cu ls) (xs:DL sig):dc k [] G [.c 1 0] (gR 41 129 4 ls x sig xs)=sk k x.1.1 xs.1 xs.2.1 xs.2.2.1 xs.2.2.2.1 xs.2.2.2.2.1:=by kernel_rfl
end f239
def f239 (k:Nat) (a:Int) (a0:D9) (a1 a2 a3:Int) (a4:Unit):Option (((Int×Unit)×Unit)×(Int×Unit)):=f239.sk k a a0 a1 a2 a3 a4
namespace f239
theorem eq (k:Nat) (x:cu ls) (xs:DL sig):den T Y (E k) A k aC 0 (gR 41 129 4 ls x sig xs) (yp T true ls rs ts)=f239 k x.1.1 xs.1 xs.2.1 xs.2.2.1 xs.2.2.2.1 xs.2.2.2.2.1:=
 Eq.trans (BZ (R:=(λ _ _=>none)) (tb:=U)) ((uo k _ x xs).trans (by kernel_rfl))
noncomputable def aR (k:Nat):kG:=⟨4,true,ls,sig,rs,λ x xs=>f239 k x.1.1 xs.1 xs.2.1 xs.2.2.1 xs.2.2.2.1 xs.2.2.2.2.1⟩
theorem ok (k:Nat):gT Try.prog 239 4 true ls sig rs (λ x xs=>f239 k x.1.1 xs.1 xs.2.1 xs.2.2.1 xs.2.2.2.1 xs.2.2.2.2.1):=
 (Av (k:=k) (A:=A) (T:=T) (Y:=Y) (E:=E k) (M:=129) (ts:=ts) Dn ⟨f249.ok k,trivial⟩ ⟨f249.vr,trivial⟩ mixed (f:=239) (fn:=Try.f239) (c:=aC) (by kernel_rfl) (by kernel_rfl) (by kernel_rfl) (by decide) (by kernel_rfl) (by decide)).congr λ x xs=>(eq k x xs).symm
theorem vr:vT Try.prog 239:=λ args w=>by kernel_rfl
end f239
namespace f238
noncomputable def aC:Code:=Try.f238.body.getD .skip
abbrev sig:List PT:=[(false,Fy),(false,(.int .i64)),(false,(.fn 133))]
abbrev rs:List RT:=[.d false (.int .i64)]
abbrev ts:List RV:=[.tmp 8]
abbrev ls:List LO:=[.box [.d (.int .i64)]]
abbrev S:=St->Option (cu ls×eP rs)
def Y:dY:=[]
noncomputable def E (k:Nat):Env:=[(239,.b (f239.aR k))]
def A:oK:={}
def U:fD:=[]
noncomputable abbrev dc (k:Nat) (rc:List Nat) (G:Nat->S) (F:List PF):S:=λ σ=>ap T Y (E k) A k (yp T true ls rs ts) (cD T Y (E k) A k (yp T true ls rs ts) aC U rc G 9999 F) .nx σ
def sk (k:Nat) (a:Int) (a0:D9) (a1:Int) (a2:Unit):Option (((Int×Unit)×Unit)×(Int×Unit)):=((f239 k a a0 (Ar (a1 - 1)) a1 (Ar (a1+1)) ()).bind λ r1=>some (((r1.1.1.1,()),()),(r1.2.1,())))
theorem uo (k:Nat) (G:Nat->S) (x:cu ls) (xs:DL sig):dc k [] G [.c 1 0] (gR 18 65 2 ls x sig xs)=sk k x.1.1 xs.1 xs.2.1 xs.2.2.1:=by kernel_rfl
end f238
def f238 (k:Nat) (a:Int) (a0:D9) (a1:Int) (a2:Unit):Option (((Int×Unit)×Unit)×(Int×Unit)):=f238.sk k a a0 a1 a2
namespace f238
theorem eq (k:Nat) (x:cu ls) (xs:DL sig):den T Y (E k) A k aC 0 (gR 18 65 2 ls x sig xs) (yp T true ls rs ts)=f238 k x.1.1 xs.1 xs.2.1 xs.2.2.1:=
 Eq.trans (BZ (R:=(λ _ _=>none)) (tb:=U)) ((uo k _ x xs).trans (by kernel_rfl))
noncomputable def aR (k:Nat):kG:=⟨2,true,ls,sig,rs,λ x xs=>f238 k x.1.1 xs.1 xs.2.1 xs.2.2.1⟩
theorem ok (k:Nat):gT Try.prog 238 2 true ls sig rs (λ x xs=>f238 k x.1.1 xs.1 xs.2.1 xs.2.2.1):=
 (Av (k:=k) (A:=A) (T:=T) (Y:=Y) (E:=E k) (M:=65) (ts:=ts) Dn ⟨f239.ok k,trivial⟩ ⟨f239.vr,trivial⟩ mixed (f:=238) (fn:=Try.f238) (c:=aC) (by kernel_rfl) (by kernel_rfl) (by kernel_rfl) (by decide) (by kernel_rfl) (by decide)).congr λ x xs=>(eq k x xs).symm
theorem vr:vT Try.prog 238:=λ args w=>by kernel_rfl
end f238
namespace f212
noncomputable def aC:Code:=Try.f212.body.getD .skip
abbrev sig:List PT:=[(false,Fy),(false,(.int .i64)),(false,(.int .i64)),(false,(.fn 133))]
abbrev rs:List RT:=[.d false (.int .i64),.d false (.int .i64)]
abbrev ts:List RV:=[.tmp 8,.tmp 9]
abbrev S:=St->Option (eP rs)
def Y:dY:=[]
noncomputable def E (k:Nat):Env:=[(238,.b (f238.aR k)),(239,.b (f239.aR k))]
def A:oK:={ conds:=[(8,{ slots:=[(0,.val false uv),(3,.id),(11,.id),(12,.id),(13,.id),(14,.id)],keys:=[(11,[])] }),(7,{ slots:=[(11,.id),(13,.id)],keys:=[(11,[])] })] }
def U:fD:=[(33,[.c 2037 0,.d 7,.c 255 0]),(29,[.c 255 0])]
noncomputable abbrev fz (k:Nat) (R:Nat->S) (q:Nat):S:=cx T Y (E k) A k (zf T rs ts) aC U R q
noncomputable abbrev k5 (k:Nat) (rc:List Nat) (R:Nat->S):Nat->S:=ext T Y (E k) A k (zf T rs ts) aC U rc R
noncomputable abbrev dc (k:Nat) (rc:List Nat) (G:Nat->S) (F:List PF):S:=λ σ=>ap T Y (E k) A k (zf T rs ts) (cD T Y (E k) A k (zf T rs ts) aC U rc G 9999 F) .nx σ
def IF (yt:Int) (x0:sv) (Dw Dg Gl:Int):St:=C9 63 192 [(0,aV uv x0),(3,.cp (.one (.fn 133 []))),(11,aP 11),(12,aI Dw),(13,aI Dg),(14,aI Gl)] [(11,.box [cI yt])]
abbrev FE:=Int->sv->Int->Int->Int->Option (Int×Int×Unit)
abbrev EH (R:S):FE:=(λ yt x0 Dw Dg Gl=>R (IF yt x0 Dw Dg Gl))
def IE (yt Dg:Int):St:=C9 63 192 [(11,aP 11),(13,aI Dg)] [(11,.box [cI yt])]
abbrev Fo:=Int->Int->Option (Int×Int×Unit)
abbrev EB (R:S):Fo:=(λ yt Dg=>R (IE yt Dg))
def sk (k:Nat) (GB:FE) (GA:Fo) (a0:D9) (a1 a2:Int) (a3:Unit):Option (Int×Int×Unit):=(if 8<=(Ar (a2 - a1)) then (if 50<=(Ar (a2 - a1)) then ((f238 k 0 a0 (Ar (a1+(Ar ((Ar ((Ar (a2 - a1)).tdiv 4)) * 1)))) ()).bind λ r1=>((f238 k r1.1.1.1 a0 (Ar (a1+(Ar ((Ar ((Ar (a2 - a1)).tdiv 4)) * 2)))) ()).bind λ r2=>((f238 k r2.1.1.1 a0 (Ar (a1+(Ar ((Ar ((Ar (a2 - a1)).tdiv 4)) * 3)))) ()).bind λ r3=>(GB r3.1.1.1 a0 r1.2.1 r2.2.1 r3.2.1)))) else (GB 0 a0 (Ar (a1+(Ar ((Ar ((Ar (a2 - a1)).tdiv 4)) * 1)))) (Ar (a1+(Ar ((Ar ((Ar (a2 - a1)).tdiv 4)) * 2)))) (Ar (a1+(Ar ((Ar ((Ar (a2 - a1)).tdiv 4)) * 3)))))) else (GA 0 (Ar (a1+(Ar ((Ar ((Ar (a2 - a1)).tdiv 4)) * 2))))))
def FN (k:Nat) (GA:Fo) (yt:Int) (x0:sv) (Dw Dg Gl:Int):Option (Int×Int×Unit):=((f239 k yt x0 Dw Dg Gl ()).bind λ r1=>(GA r1.1.1.1 r1.2.1))
def FM (k:Nat) (yt Dg:Int):Option (Int×Int×Unit):=(if yt=0 then some (Dg,1,()) else (if yt=12 then some (Dg,2,()) else some (Dg,0,())))
theorem H6 (k:Nat) (G:Nat->S):EB (dc k [] G (U.at 29))=FM k:=by kernel_rfl
def ox (k:Nat):Fo:=FM k
theorem Hh (k:Nat) (R:Nat->S):EB (fz k R 29)=ox k:=
 Eq.trans (congrArg EB (BW [] (by kernel_rfl))) ((H6 k _).trans (by kernel_rfl))
theorem H8 (k:Nat) (G:Nat->S):EH (dc k [] G (U.at 33))=FN k (EB (G 29)):=by kernel_rfl
def q4 (k:Nat):FE:=FN k (ox k)
theorem H7 (k:Nat) (R:Nat->S):EH (fz k R 33)=q4 k:=
 Eq.trans (congrArg EH (BW [] (by kernel_rfl))) ((H8 k _).trans (Eq.trans (b:=FN k (EB (fz k R 29))) (by kernel_rfl) (by rw [Hh k R]<;>kernel_rfl)))
theorem uo (k:Nat) (G:Nat->S) (xs:DL sig):dc k [] G [.c 1 0] (uJ 63 192 sig xs)=sk k (EH (G 33)) (EB (G 29)) xs.1 xs.2.1 xs.2.2.1 xs.2.2.2.1:=by kernel_rfl
end f212
def f212 (k:Nat) (a0:D9) (a1 a2:Int) (a3:Unit):Option (Int×Int×Unit):=f212.sk k (f212.q4 k) (f212.ox k) a0 a1 a2 a3
namespace f212
theorem eq (k:Nat) (xs:DL sig):den T Y (E k) A k aC 0 (uJ 63 192 sig xs) (zf T rs ts)=f212 k xs.1 xs.2.1 xs.2.2.1 xs.2.2.2.1:=
 Eq.trans (BZ (R:=(λ _ _=>none)) (tb:=U)) ((uo k _ xs).trans (Eq.trans (b:=sk k (EH (fz k (λ _ _=>none) 33)) (EB (fz k (λ _ _=>none) 29)) xs.1 xs.2.1 xs.2.2.1 xs.2.2.2.1) (by kernel_rfl) (by rw [H7 k (λ _ _=>none),Hh k (λ _ _=>none)]<;>kernel_rfl)))
noncomputable def aR (k:Nat):oL:=⟨sig,rs,λ xs=>f212 k xs.1 xs.2.1 xs.2.2.1 xs.2.2.2.1⟩
theorem ok (k:Nat):cz Try.prog 212 sig rs (λ xs=>f212 k xs.1 xs.2.1 xs.2.2.1 xs.2.2.2.1):=
 (Au (k:=k) (A:=A) (T:=T) (Y:=Y) (E:=E k) (M:=192) (ts:=ts) Dn ⟨f238.ok k,f239.ok k,trivial⟩ ⟨f238.vr,f239.vr,trivial⟩ mixed (f:=212) (fn:=Try.f212) (c:=aC) (by kernel_rfl) (by kernel_rfl) (by kernel_rfl) (by decide) (by kernel_rfl)).congr λ xs=>(eq k xs).symm
theorem vr:vT Try.prog 212:=λ args w=>by kernel_rfl
end f212
namespace f167
noncomputable def aC:Code:=Try.f167.body.getD .skip
abbrev sig:List PT:=[(false,(.int .i64)),(false,(.int .i64)),(false,(.int .i64)),(false,(.fn 133))]
abbrev rs:List RT:=[]
abbrev ts:List RV:=[]
abbrev ls:List LO:=[.row uv]
abbrev S:=St->Option (cu ls×eP rs)
def Y:dY:=[]
noncomputable def E (k:Nat):Env:=[(133,.c (f133.aR k)),(209,.b (f209.aR k)),(212,.c (f212.aR k))]
def A:oK:={ loops:=[(0,{ slots:=[(0,.id),(1,.id),(2,.id),(3,.id),(4,.id),(10,.id),(11,.id)],keys:=[(0,[])] })],conds:=[(8,{ slots:=[(0,.id),(1,.id),(2,.id),(3,.id),(4,.id),(10,.id),(11,.id),(12,.id)],keys:=[(0,[])] }),(12,{ slots:=[(0,.id),(1,.id),(2,.id),(3,.id),(4,.id),(10,.id),(11,.id),(12,.id),(13,.id),(14,.id)],keys:=[(0,[])] }),(16,{ slots:=[(0,.id),(1,.id),(2,.id),(3,.id),(4,.id),(10,.id),(11,.id),(12,.id),(13,.id)],keys:=[(0,[])] })],qA:=[(15,{ slots:=[(0,.id),(1,.id),(2,.id),(3,.id),(4,.id),(10,.id),(11,.id),(12,.id),(13,.id),(75,.bool)],keys:=[(0,[])] }),(17,{ slots:=[(0,.id),(1,.id),(2,.id),(3,.id),(4,.id),(10,.id),(11,.id),(12,.id),(13,.id),(97,.bool)],keys:=[(0,[])] })] }
def U:fD:=[(0,[.c 28 0,.r 0,.b 0]),(33,[.c 911 1,.b 1,.r 0,.b 0]),(49,[.c 3647 1,.b 1,.r 0,.b 0]),(63,[.c 14589 1,.c 7295 1,.b 1,.r 0,.b 0]),(65,[.c 7295 1,.b 1,.r 0,.b 0]),(71,[.c 29181 1,.c 14591 1,.b 1,.r 0,.b 0])]
noncomputable abbrev fz (k:Nat) (R:Nat->S) (q:Nat):S:=cx T Y (E k) A k (yp T true ls rs ts) aC U R q
noncomputable abbrev k5 (k:Nat) (rc:List Nat) (R:Nat->S):Nat->S:=ext T Y (E k) A k (yp T true ls rs ts) aC U rc R
noncomputable abbrev zv (k:Nat) (R:Nat->S) (i n:Nat):S:=lx T Y (E k) A k (yp T true ls rs ts) aC U R i n
noncomputable abbrev dc (k:Nat) (rc:List Nat) (G:Nat->S) (F:List PF):S:=λ σ=>ap T Y (E k) A k (yp T true ls rs ts) (cD T Y (E k) A k (yp T true ls rs ts) aC U rc G 9999 F) .nx σ
def DB (y0:sv) (x1 x2 dr:Int):St:=C9 148 449 [(0,aO 0),(1,aI x1),(2,aI x2),(3,aI dr),(4,.cp (.one (.fn 133 []))),(10,.cp (.one (.lit true))),(11,.cp (.one (.lit true)))] [(0,.vec uv y0)]
abbrev vi:=sv->Int->Int->Int->Option ((sv×Unit)×(Unit))
abbrev uf (R:S):vi:=(λ y0 x1 x2 dr=>R (DB y0 x1 x2 dr))
def IF (y0:sv) (x1 Dw x2 dr:Int):St:=C9 148 449 [(0,aO 0),(1,aI x1),(2,aI x2),(3,aI dr),(4,.cp (.one (.fn 133 []))),(10,.cp (.one (.lit true))),(11,.cp (.one (.lit true))),(12,aI Dw)] [(0,.vec uv y0)]
abbrev FE:=sv->Int->Int->Int->Int->Option ((sv×Unit)×(Unit))
abbrev EH (R:S):FE:=(λ y0 x1 Dw x2 dr=>R (IF y0 x1 Dw x2 dr))
def G9 (y0:sv) (x1 Dw Dg Gl x2 dr:Int):St:=C9 148 449 [(0,aO 0),(1,aI x1),(2,aI x2),(3,aI dr),(4,.cp (.one (.fn 133 []))),(10,.cp (.one (.lit true))),(11,.cp (.one (.lit true))),(12,aI Dw),(13,aI Dg),(14,aI Gl)] [(0,.vec uv y0)]
abbrev E6:=sv->Int->Int->Int->Int->Int->Int->Option ((sv×Unit)×(Unit))
abbrev En (R:S):E6:=(λ y0 x1 Dw Dg Gl x2 dr=>R (G9 y0 x1 Dw Dg Gl x2 dr))
def Md (y0:sv) (x1 Dw Dg x2 dr:Int) (JV:Bool):St:=C9 148 449 [(0,aO 0),(1,aI x1),(2,aI x2),(3,aI dr),(4,.cp (.one (.fn 133 []))),(10,.cp (.one (.lit true))),(11,.cp (.one (.lit true))),(12,aI Dw),(13,aI Dg),(75,aB JV)] [(0,.vec uv y0)]
abbrev Jv:=sv->Int->Int->Int->Int->Int->Bool->Option ((sv×Unit)×(Unit))
abbrev GZ (R:S):Jv:=(λ y0 x1 Dw Dg x2 dr JV=>R (Md y0 x1 Dw Dg x2 dr JV))
def L9 (y0:sv) (x1 Dw Dg x2 dr:Int):St:=C9 148 449 [(0,aO 0),(1,aI x1),(2,aI x2),(3,aI dr),(4,.cp (.one (.fn 133 []))),(10,.cp (.one (.lit true))),(11,.cp (.one (.lit true))),(12,aI Dw),(13,aI Dg)] [(0,.vec uv y0)]
abbrev Jr:=sv->Int->Int->Int->Int->Int->Option ((sv×Unit)×(Unit))
abbrev GV (R:S):Jr:=(λ y0 x1 Dw Dg x2 dr=>R (L9 y0 x1 Dw Dg x2 dr))
def Me (y0:sv) (x1 Dw Dg x2 dr:Int) (Gm:Bool):St:=C9 148 449 [(0,aO 0),(1,aI x1),(2,aI x2),(3,aI dr),(4,.cp (.one (.fn 133 []))),(10,.cp (.one (.lit true))),(11,.cp (.one (.lit true))),(12,aI Dw),(13,aI Dg),(97,aB Gm)] [(0,.vec uv y0)]
abbrev Jw:=sv->Int->Int->Int->Int->Int->Bool->Option ((sv×Unit)×(Unit))
abbrev G0 (R:S):Jw:=(λ y0 x1 Dw Dg x2 dr Gm=>R (Me y0 x1 Dw Dg x2 dr Gm))
def sk (k:Nat) (xx:vi) (a:D9) (a0 a1 a2:Int) (a3:Unit):Option ((sv×Unit)×(Unit)):=(xx a a0 a1 a2)
def u0 (k:Nat) (GB:FE) (y0:sv) (x1 x2 dr:Int):Option ((sv×Unit)×(Unit)):=(if (Ar (x2 - x1))<=12 then ((f209 k y0 x1 x2 ()).bind λ r1=>some ((r1.1.1,()),(()))) else (if dr=0 then none else (GB y0 x1 (Ar (x2 - x1)) x2 dr)))
def FN (k:Nat) (F1:E6) (y0:sv) (x1 Dw x2 dr:Int):Option ((sv×Unit)×(Unit)):=((f212 k y0 x1 x2 ()).bind λ r1=>(if r1.2.1=2 then none else (F1 y0 x1 Dw r1.1 r1.2.1 x2 dr)))
def EL (k:Nat) (LH:Jv) (y0:sv) (x1 Dw Dg Gl x2 dr:Int):Option ((sv×Unit)×(Unit)):=(LH y0 x1 Dw Dg x2 dr (decide (Gl=1)))
def Jf (k:Nat) (LG:Jr) (y0:sv) (x1 Dw Dg x2 dr:Int) (JV:Bool):Option ((sv×Unit)×(Unit)):=(if JV=true then none else (LG y0 x1 Dw Dg x2 dr))
def I2 (k:Nat) (KE:Jw) (y0:sv) (x1 Dw Dg x2 dr:Int):Option ((sv×Unit)×(Unit)):=(if 0 <x1 then (if 0<=(Ar (x1 - 1)) then (if (Ar (x1 - 1)) <(y0.length:Int) then (if 0<=Dg then (if Dg <(y0.length:Int) then ((f133 k ((y0.getD ((Ar (x1 - 1)).toNat) (0,0)).1,(y0.getD ((Ar (x1 - 1)).toNat) (0,0)).2) ((y0.getD ((Dg).toNat) (0,0)).1,(y0.getD ((Dg).toNat) (0,0)).2)).bind λ r1=>(KE y0 x1 Dw Dg x2 dr (decide (¬(r1.1 <0))))) else none) else none) else none) else none) else (KE y0 x1 Dw Dg x2 dr false))
def KO (k:Nat) (y0:sv) (x1 Dw Dg x2 dr:Int) (Gm:Bool):Option ((sv×Unit)×(Unit)):=(if Gm=true then none else none)
theorem LS (k:Nat) (G:Nat->S):G0 (dc k [0] G (U.at 71))=KO k:=by kernel_rfl
def Mr (k:Nat) (Dp:vi):Jw:=KO k
theorem LR (k:Nat) (R:Nat->S):G0 (fz k R 71)=Mr k (uf (R 0)):=
 Eq.trans (congrArg G0 (BW [0] (by kernel_rfl))) ((LS k _).trans (by kernel_rfl))
theorem LB (k:Nat) (G:Nat->S):GV (dc k [0] G (U.at 65))=I2 k (G0 (G 71)):=by kernel_rfl
def Mn (k:Nat) (Dp:vi):Jr:=I2 k (Mr k Dp)
theorem LA (k:Nat) (R:Nat->S):GV (fz k R 65)=Mn k (uf (R 0)):=
 Eq.trans (congrArg GV (BW [0] (by kernel_rfl))) ((LB k _).trans (Eq.trans (b:=I2 k (G0 (fz k R 71))) (by kernel_rfl) (by rw [LR k R]<;>kernel_rfl)))
theorem LQ (k:Nat) (G:Nat->S):GZ (dc k [0] G (U.at 63))=Jf k (GV (G 65)):=by kernel_rfl
def Mq (k:Nat) (Dp:vi):Jv:=Jf k (Mn k Dp)
theorem LP (k:Nat) (R:Nat->S):GZ (fz k R 63)=Mq k (uf (R 0)):=
 Eq.trans (congrArg GZ (BW [0] (by kernel_rfl))) ((LQ k _).trans (Eq.trans (b:=Jf k (GV (fz k R 65))) (by kernel_rfl) (by rw [LA k R]<;>kernel_rfl)))
theorem GK (k:Nat) (G:Nat->S):En (dc k [0] G (U.at 49))=EL k (GZ (G 63)):=by kernel_rfl
def F7 (k:Nat) (Dp:vi):E6:=EL k (Mq k Dp)
theorem GJ (k:Nat) (R:Nat->S):En (fz k R 49)=F7 k (uf (R 0)):=
 Eq.trans (congrArg En (BW [0] (by kernel_rfl))) ((GK k _).trans (Eq.trans (b:=EL k (GZ (fz k R 63))) (by kernel_rfl) (by rw [LP k R]<;>kernel_rfl)))
theorem H8 (k:Nat) (G:Nat->S):EH (dc k [0] G (U.at 33))=FN k (En (G 49)):=by kernel_rfl
def q4 (k:Nat) (Dp:vi):FE:=FN k (F7 k Dp)
theorem H7 (k:Nat) (R:Nat->S):EH (fz k R 33)=q4 k (uf (R 0)):=
 Eq.trans (congrArg EH (BW [0] (by kernel_rfl))) ((H8 k _).trans (Eq.trans (b:=FN k (En (fz k R 49))) (by kernel_rfl) (by rw [GJ k R]<;>kernel_rfl)))
theorem Dz (k:Nat) (G:Nat->S):uf (dc k [0] G (U.at 0))=u0 k (EH (G 33)):=by kernel_rfl
def l0 (k:Nat):Nat->vi
 | 0=>λ _ _ _ _=>none
 |n+1=>u0 k (q4 k (l0 k n))
noncomputable abbrev wo (k:Nat) (R:Nat->S) (n:Nat):Nat->S:=up R 0 (zv k R 0 n)
theorem De (k:Nat) (R:Nat->S):∀n,uf (zv k R 0 n)=l0 k n
 | 0=>by kernel_rfl
 |n+1=>
  Eq.trans (congrArg uf (CE [] (by kernel_rfl))) ((Dz k _).trans (Eq.trans (b:=u0 k (EH (fz k (wo k R n) 33))) (by kernel_rfl) (by rw [H7 k (wo k R n),(show uf (wo k R n 0)=_ from De k R n)]<;>kernel_rfl)))
theorem uo (k:Nat) (G:Nat->S) (x:cu ls) (xs:DL sig):dc k [] G [.c 1 0] (gR 148 449 0 ls x sig xs)=sk k (uf (G 0)) x.1 xs.1 xs.2.1 xs.2.2.1 xs.2.2.2.1:=by kernel_rfl
end f167
def f167 (k:Nat) (a:D9) (a0 a1 a2:Int) (a3:Unit):Option ((sv×Unit)×(Unit)):=f167.sk k (f167.l0 k k) a a0 a1 a2 a3
namespace f167
theorem eq (k:Nat) (x:cu ls) (xs:DL sig):den T Y (E k) A k aC 0 (gR 148 449 0 ls x sig xs) (yp T true ls rs ts)=f167 k x.1 xs.1 xs.2.1 xs.2.2.1 xs.2.2.2.1:=
 Eq.trans (BZ (R:=(λ _ _=>none)) (tb:=U)) ((uo k _ x xs).trans (Eq.trans (b:=sk k (uf (zv k (λ _ _=>none) 0 k)) x.1 xs.1 xs.2.1 xs.2.2.1 xs.2.2.2.1) (by kernel_rfl) (by rw [De k (λ _ _=>none) k]<;>kernel_rfl)))
noncomputable def aR (k:Nat):kG:=⟨0,true,ls,sig,rs,λ x xs=>f167 k x.1 xs.1 xs.2.1 xs.2.2.1 xs.2.2.2.1⟩
theorem ok (k:Nat):gT Try.prog 167 0 true ls sig rs (λ x xs=>f167 k x.1 xs.1 xs.2.1 xs.2.2.1 xs.2.2.2.1):=
 (Av (k:=k) (A:=A) (T:=T) (Y:=Y) (E:=E k) (M:=449) (ts:=ts) Dn ⟨f133.ok k,f209.ok k,f212.ok k,trivial⟩ ⟨f133.vr,f209.vr,f212.vr,trivial⟩ mixed (f:=167) (fn:=Try.f167) (c:=aC) (by kernel_rfl) (by kernel_rfl) (by kernel_rfl) (by decide) (by kernel_rfl) (by decide)).congr λ x xs=>(eq k x xs).symm
theorem vr:vT Try.prog 167:=λ args w=>by kernel_rfl
end f167
namespace f132
noncomputable def aC:Code:=Try.f132.body.getD .skip
abbrev sig:List PT:=[(false,(.fn 133))]
abbrev rs:List RT:=[]
abbrev ts:List RV:=[]
abbrev ls:List LO:=[.row uv]
abbrev S:=St->Option (cu ls×eP rs)
def Y:dY:=[]
noncomputable def E (k:Nat):Env:=[(145,.c (f145.aR k)),(167,.b (f167.aR k))]
def A:oK:={}
def U:fD:=[]
noncomputable abbrev dc (k:Nat) (rc:List Nat) (G:Nat->S) (F:List PF):S:=λ σ=>ap T Y (E k) A k (yp T true ls rs ts) (cD T Y (E k) A k (yp T true ls rs ts) aC U rc G 9999 F) .nx σ
def sk (k:Nat) (a:D9) (a0:Unit):Option ((sv×Unit)×(Unit)):=((f145 k (IntKind.u64.wrap ((a.length:Int)))).bind λ r1=>((f167 k a 0 (a.length:Int) r1.1 ()).bind λ r2=>some ((r2.1.1,()),(()))))
theorem uo (k:Nat) (G:Nat->S) (x:cu ls) (xs:DL sig):dc k [] G [.c 1 0] (gR 14 49 0 ls x sig xs)=sk k x.1 xs.1:=by kernel_rfl
end f132
def f132 (k:Nat) (a:D9) (a0:Unit):Option ((sv×Unit)×(Unit)):=f132.sk k a a0
namespace f132
theorem eq (k:Nat) (x:cu ls) (xs:DL sig):den T Y (E k) A k aC 0 (gR 14 49 0 ls x sig xs) (yp T true ls rs ts)=f132 k x.1 xs.1:=
 Eq.trans (BZ (R:=(λ _ _=>none)) (tb:=U)) ((uo k _ x xs).trans (by kernel_rfl))
noncomputable def aR (k:Nat):kG:=⟨0,true,ls,sig,rs,λ x xs=>f132 k x.1 xs.1⟩
theorem ok (k:Nat):gT Try.prog 132 0 true ls sig rs (λ x xs=>f132 k x.1 xs.1):=
 (Av (k:=k) (A:=A) (T:=T) (Y:=Y) (E:=E k) (M:=49) (ts:=ts) Dn ⟨f145.ok k,f167.ok k,trivial⟩ ⟨f145.vr,f167.vr,trivial⟩ mixed (f:=132) (fn:=Try.f132) (c:=aC) (by kernel_rfl) (by kernel_rfl) (by kernel_rfl) (by decide) (by kernel_rfl) (by decide)).congr λ x xs=>(eq k x xs).symm
theorem vr:vT Try.prog 132:=λ args w=>by kernel_rfl
end f132
namespace f67
noncomputable def aC:Code:=Try.f67.body.getD .skip
abbrev sig:List PT:=[(false,Ee)]
abbrev rs:List RT:=[.d true FF]
abbrev ts:List RV:=[.cell 2 27]
abbrev S:=St->Option (eP rs)
def Y:dY:=[(34,Dd),(108,uv),(141,uv)]
noncomputable def E (k:Nat):Env:=[(51,.b (f51.aR k)),(105,.c (f105.aR k)),(126,.c (f126.aR k)),(131,.b (f131.aR k)),(132,.b (f132.aR k))]
def A:oK:={ loops:=[(0,{ Ai:=[(4,0,39,uv)],slots:=[(2,.id),(3,.id),(4,.id)],keys:=[(2,[]),(4,[]),(11,[.val false (.int .i64)]),(39,[])] }),(2,{ Ai:=[(4,0,39,uv)],slots:=[(2,.id),(3,.id),(4,.id),(5,.id)],keys:=[(2,[]),(4,[]),(5,[]),(11,[.val false (.int .i64)]),(39,[])] }),(4,{ Ai:=[(4,0,39,uv),(4,1,69,Dd)],slots:=[(2,.id),(3,.id),(4,.id),(42,.id),(43,.id)],keys:=[(2,[]),(4,[]),(11,[.val false (.int .i64)]),(39,[]),(69,[])] }),(6,{ Ai:=[(4,0,39,uv),(4,1,69,Dd),(4,2,117,uv)],slots:=[(2,.id),(3,.id),(4,.id),(73,.id),(74,.id)],keys:=[(2,[]),(4,[]),(11,[.val false (.int .i64)]),(39,[]),(69,[]),(117,[])] })],qA:=[(3,{ Ai:=[(4,0,39,uv)],slots:=[(2,.id),(3,.id),(4,.id),(24,.bool)],keys:=[(2,[]),(4,[]),(11,[.val false (.int .i64)]),(39,[])] }),(18,{ Ai:=[(4,2,117,uv)],slots:=[(2,.id),(3,.id),(4,.id),(8,.id),(73,.id),(74,.id),(112,.bool)],keys:=[(2,[]),(4,[]),(8,[]),(11,[.val false (.int .i64)]),(39,[]),(69,[]),(117,[])] })],conds:=[(12,{ Ai:=[(4,0,39,uv),(4,1,69,Dd)],slots:=[(2,.id),(3,.id),(4,.id),(42,.id),(43,.id)],keys:=[(2,[]),(4,[]),(11,[.val false (.int .i64)]),(39,[]),(69,[])] }),(19,{ Ai:=[(4,2,117,uv)],slots:=[(2,.id),(3,.id),(4,.id),(73,.id),(74,.id)],keys:=[(2,[]),(4,[]),(11,[.val false (.int .i64)]),(39,[]),(69,[]),(117,[])] })],qg:=[(6,{ Ai:=[(4,1,69,Dd),(4,2,117,uv)],slots:=[(2,.id),(4,.id)],keys:=[(2,[]),(4,[]),(39,[]),(69,[]),(117,[])] })] }
def U:fD:=[(0,[.c 120 0,.r 0,.b 0,.c 31 0]),(15,[.c 481 0,.c 241 0,.r 0,.b 0,.c 31 0]),(8,[.c 7720 2,.r 2,.b 2,.c 1931 1,.b 1,.r 0,.b 0,.c 31 0]),(16,[.c 500 4,.r 4,.b 4,.c 63 0]),(49,[.b 5,.c 4007 4,.r 4,.b 4,.c 63 0]),(24,[.c 1012 6,.r 6,.b 6,.c 127 0]),(26,[.c 127 0]),(75,[.c 129639 7,.b 7,.c 8103 6,.r 6,.b 6,.c 127 0]),(77,[.b 7,.c 8103 6,.r 6,.b 6,.c 127 0])]
noncomputable abbrev fz (k:Nat) (R:Nat->S) (q:Nat):S:=cx T Y (E k) A k (zf T rs ts) aC U R q
noncomputable abbrev k5 (k:Nat) (rc:List Nat) (R:Nat->S):Nat->S:=ext T Y (E k) A k (zf T rs ts) aC U rc R
noncomputable abbrev zv (k:Nat) (R:Nat->S) (i n:Nat):S:=lx T Y (E k) A k (zf T rs ts) aC U R i n
noncomputable abbrev dc (k:Nat) (rc:List Nat) (G:Nat->S) (F:List PF):S:=λ σ=>ap T Y (E k) A k (zf T rs ts) (cD T Y (E k) A k (zf T rs ts) aC U rc G 9999 F) .nx σ
def DB (yt:ur) (Dt:sv):St:=C9 124 384 [(2,aP 2),(3,aP 11),(4,aP 4)] [(2,.box [.nil,.nil,.nil]),(4,.box [.own 39,.nil,.nil]),(11,.box [cV (.int .i64) yt]),(39,.vec uv Dt)]
abbrev vi:=ur->sv->Option (Df×Unit)
abbrev uf (R:S):vi:=(λ yt Dt=>R (DB yt Dt))
def M8 (yt:ur) (Dt:sv) (x24:Bool):St:=C9 124 384 [(2,aP 2),(3,aP 11),(4,aP 4),(24,aB x24)] [(2,.box [.nil,.nil,.nil]),(4,.box [.own 39,.nil,.nil]),(11,.box [cV (.int .i64) yt]),(39,.vec uv Dt)]
abbrev Kq:=ur->sv->Bool->Option (Df×Unit)
abbrev It (R:S):Kq:=(λ yt Dt x24=>R (M8 yt Dt x24))
def EW (yt:ur) (Dt:sv) (Ez Ew:Int):St:=C9 124 384 [(2,aP 2),(3,aP 11),(4,aP 4),(5,aP 5)] [(2,.box [.nil,.nil,.nil]),(4,.box [.own 39,.nil,.nil]),(5,.box [cI Ez,cI Ew]),(11,.box [cV (.int .i64) yt]),(39,.vec uv Dt)]
abbrev Du:=ur->sv->Int->Int->Option (Df×Unit)
abbrev Ad (R:S):Du:=(λ yt Dt Ez Ew=>R (EW yt Dt Ez Ew))
def IG (yt:ur) (Dt:sv) (DM:wv) (FU FV:Int):St:=C9 124 384 [(2,aP 2),(3,aP 11),(4,aP 4),(42,aI FU),(43,aI FV)] [(2,.box [.nil,.nil,.nil]),(4,.box [.own 39,.own 69,.nil]),(11,.box [cV (.int .i64) yt]),(39,.vec uv Dt),(69,.vec Dd DM)]
abbrev EI:=ur->sv->wv->Int->Int->Option (Df×Unit)
abbrev D7 (R:S):EI:=(λ yt Dt DM FU FV=>R (IG yt Dt DM FU FV))
def G9 (yt:ur) (Dt:sv) (DM:wv) (FU FV:Int):St:=C9 124 384 [(2,aP 2),(3,aP 11),(4,aP 4),(42,aI FU),(43,aI FV)] [(2,.box [.nil,.nil,.nil]),(4,.box [.own 39,.own 69,.nil]),(11,.box [cV (.int .i64) yt]),(39,.vec uv Dt),(69,.vec Dd DM)]
abbrev E6:=ur->sv->wv->Int->Int->Option (Df×Unit)
abbrev En (R:S):E6:=(λ yt Dt DM FU FV=>R (G9 yt Dt DM FU FV))
def M7 (yt:ur) (D1 Dt:sv) (DM:wv) (EZ E0:Int):St:=C9 124 384 [(2,aP 2),(3,aP 11),(4,aP 4),(73,aI EZ),(74,aI E0)] [(2,.box [.nil,.nil,.nil]),(4,.box [.own 39,.own 69,.own 117]),(11,.box [cV (.int .i64) yt]),(39,.vec uv Dt),(69,.vec Dd DM),(117,.vec uv D1)]
abbrev Ht:=ur->sv->sv->wv->Int->Int->Option (Df×Unit)
abbrev F3 (R:S):Ht:=(λ yt D1 Dt DM EZ E0=>R (M7 yt D1 Dt DM EZ E0))
def M3 (D1 Dt:sv) (DM:wv):St:=C9 124 384 [(2,aP 2),(4,aP 4)] [(2,.box [.nil,.nil,.nil]),(4,.box [.own 39,.own 69,.own 117]),(39,.vec uv Dt),(69,.vec Dd DM),(117,.vec uv D1)]
abbrev Km:=sv->sv->wv->Option (Df×Unit)
abbrev Ip (R:S):Km:=(λ D1 Dt DM=>R (M3 D1 Dt DM))
def Mf (yt:ur) (D1 Dt:sv) (DM:wv) (E9 Fa:Int) (x112:Bool) (EZ E0:Int):St:=C9 124 384 [(2,aP 2),(3,aP 11),(4,aP 4),(8,aP 8),(73,aI EZ),(74,aI E0),(112,aB x112)] [(2,.box [.nil,.nil,.nil]),(4,.box [.own 39,.own 69,.own 117]),(8,.box [cI E9,cI Fa]),(11,.box [cV (.int .i64) yt]),(39,.vec uv Dt),(69,.vec Dd DM),(117,.vec uv D1)]
abbrev Jx:=ur->sv->sv->wv->Int->Int->Bool->Int->Int->Option (Df×Unit)
abbrev G1 (R:S):Jx:=(λ yt D1 Dt DM E9 Fa x112 EZ E0=>R (Mf yt D1 Dt DM E9 Fa x112 EZ E0))
def Ma (yt:ur) (D1 Dt:sv) (DM:wv) (EZ E0:Int):St:=C9 124 384 [(2,aP 2),(3,aP 11),(4,aP 4),(73,aI EZ),(74,aI E0)] [(2,.box [.nil,.nil,.nil]),(4,.box [.own 39,.own 69,.own 117]),(11,.box [cV (.int .i64) yt]),(39,.vec uv Dt),(69,.vec Dd DM),(117,.vec uv D1)]
abbrev Js:=ur->sv->sv->wv->Int->Int->Option (Df×Unit)
abbrev GW (R:S):Js:=(λ yt D1 Dt DM EZ E0=>R (Ma yt D1 Dt DM EZ E0))
def sk (k:Nat) (xx:vi) (a0:ur):Option (Df×Unit):=(xx a0 ([]:List (Int×Int)))
def u0 (k:Nat) (Ld:Kq) (yt:ur) (Dt:sv):Option (Df×Unit):=((f51 k yt 7).bind λ r1=>(if (Dt.length:Int) <(Ar (2+r1.2.1)) then (Ld r1.1.1.1 Dt true) else (Ld r1.1.1.1 Dt (decide ((Dt.length:Int) <2)))))
def Hr (k:Nat) (DT:Du) (FB:EI) (yt:ur) (Dt:sv) (x24:Bool):Option (Df×Unit):=(if x24=true then ((f131 k yt).bind λ r1=>(DT r1.1.1.1 Dt r1.2.1.1 r1.2.1.2)) else ((f51 k yt 17).bind λ r2=>(FB r2.1.1.1 Dt ([]:List (Int×(Int×(Int×Int)))) r2.2.1 0)))
def Dl (k:Nat) (xx:vi) (DT:Du) (yt:ur) (Dt:sv) (Ez Ew:Int):Option (Df×Unit):=((f126 k Dt (Ez,Ew)).bind λ r1=>(if r1.1=true then (DT yt Dt (Ar (Ez+1)) Ew) else (if (Dt.length+1) * 16<=140737488355328 then (xx yt (Dt++[(Ez,Ew)])) else none)))
def Es (k:Nat) (F1:E6) (J8:Ht) (yt:ur) (Dt:sv) (DM:wv) (FU FV:Int):Option (Df×Unit):=(if FV <FU then ((f51 k yt (Dt.length:Int)).bind λ r1=>((f51 k r1.1.1.1 (Dt.length:Int)).bind λ r2=>(if ¬(r1.2.1=r2.2.1) then ((f51 k r2.1.1.1 20).bind λ r3=>((f51 k r3.1.1.1 5).bind λ r4=>(if (DM.length+1) * 32<=140737488355328 then (F1 r4.1.1.1 Dt (DM++[(r1.2.1,(r2.2.1,(Ar (1+r3.2.1),r4.2.1)))]) FU FV) else none))) else (F1 r2.1.1.1 Dt DM FU FV)))) else ((f51 k yt 4).bind λ r5=>(J8 r5.1.1.1 ([]:List (Int×Int)) Dt DM r5.2.1 0)))
def EL (k:Nat) (FB:EI) (yt:ur) (Dt:sv) (DM:wv) (FU FV:Int):Option (Df×Unit):=(FB yt Dt DM FU (Ar (FV+1)))
def Hp (k:Nat) (K9:Km) (KF:Jx) (yt:ur) (D1 Dt:sv) (DM:wv) (EZ E0:Int):Option (Df×Unit):=(if E0 <EZ then (if (DM.length:Int)=0 then (K9 D1 Dt DM) else ((f51 k yt (DM.length:Int)).bind λ r1=>((f51 k r1.1.1.1 (DM.length:Int)).bind λ r2=>(if 0<=r1.2.1 then (if r1.2.1 <(DM.length:Int) then (if 0<=r2.2.1 then (if r2.2.1 <(DM.length:Int) then (if (((DM.getD ((r1.2.1).toNat) (0,(0,(0,0)))).2).1)=((DM.getD ((r2.2.1).toNat) (0,(0,(0,0)))).1) then ((f105 k D1 (r1.2.1,r2.2.1)).bind λ r3=>(KF r2.1.1.1 D1 Dt DM r1.2.1 r2.2.1 (decide (¬(r3.1=true))) EZ E0)) else (KF r2.1.1.1 D1 Dt DM r1.2.1 r2.2.1 false EZ E0)) else none) else none) else none) else none)))) else (K9 D1 Dt DM))
def J1 (k:Nat) (D1 Dt:sv) (DM:wv):Option (Df×Unit):=((f132 k D1 ()).bind λ r1=>some ((Dt,(DM,r1.1.1)),()))
def G8 (k:Nat) (KB:Js) (yt:ur) (D1 Dt:sv) (DM:wv) (E9 Fa:Int) (x112:Bool) (EZ E0:Int):Option (Df×Unit):=(if x112=true then (if (D1.length+1) * 16<=140737488355328 then (KB yt (D1++[(E9,Fa)]) Dt DM EZ E0) else none) else (KB yt D1 Dt DM EZ E0))
def HP (k:Nat) (J8:Ht) (yt:ur) (D1 Dt:sv) (DM:wv) (EZ E0:Int):Option (Df×Unit):=(J8 yt D1 Dt DM EZ (Ar (E0+1)))
theorem EV (k:Nat) (G:Nat->S):Ad (dc k [8,0] G (U.at 8))=Dl k (uf (G 0)) (Ad (G 8)):=by kernel_rfl
def l2 (k:Nat) (Dp:vi):Nat->Du
 | 0=>λ _ _ _ _=>none
 |n+1=>Dl k Dp (l2 k Dp n)
noncomputable abbrev DH (k:Nat) (R:Nat->S) (n:Nat):Nat->S:=up R 8 (zv k R 2 n)
theorem Eg (k:Nat) (R:Nat->S):∀n,Ad (zv k R 2 n)=l2 k (uf (R 0)) n
 | 0=>by kernel_rfl
 |n+1=>
  Eq.trans (congrArg Ad (CE [0] (by kernel_rfl))) ((EV k _).trans (Eq.trans (b:=Dl k (uf ((DH k R n) 0)) (Ad ((DH k R n) 8))) (by kernel_rfl) (by rw [(show Ad (DH k R n 8)=_ from Eg k R n)]<;>kernel_rfl)))
theorem GK (k:Nat) (G:Nat->S):En (dc k [16] G (U.at 49))=EL k (D7 (G 16)):=by kernel_rfl
def F7 (k:Nat) (IA:EI):E6:=EL k IA
theorem GJ (k:Nat) (R:Nat->S):En (fz k R 49)=F7 k (D7 (R 16)):=
 Eq.trans (congrArg En (BW [16] (by kernel_rfl))) ((GK k _).trans (by kernel_rfl))
theorem MF (k:Nat) (G:Nat->S):Ip (dc k [] G (U.at 26))=J1 k:=by kernel_rfl
def b6 (k:Nat):Km:=J1 k
theorem ME (k:Nat) (R:Nat->S):Ip (fz k R 26)=b6 k:=
 Eq.trans (congrArg Ip (BW [] (by kernel_rfl))) ((MF k _).trans (by kernel_rfl))
theorem LD (k:Nat) (G:Nat->S):GW (dc k [24] G (U.at 77))=HP k (F3 (G 24)):=by kernel_rfl
def Kx (k:Nat) (Kh:Ht):Js:=HP k Kh
theorem LC (k:Nat) (R:Nat->S):GW (fz k R 77)=Kx k (F3 (R 24)):=
 Eq.trans (congrArg GW (BW [24] (by kernel_rfl))) ((LD k _).trans (by kernel_rfl))
theorem LV (k:Nat) (G:Nat->S):G1 (dc k [24] G (U.at 75))=G8 k (GW (G 77)):=by kernel_rfl
def Iy (k:Nat) (Kh:Ht):Jx:=G8 k (Kx k Kh)
theorem LU (k:Nat) (R:Nat->S):G1 (fz k R 75)=Iy k (F3 (R 24)):=
 Eq.trans (congrArg G1 (BW [24] (by kernel_rfl))) ((LV k _).trans (Eq.trans (b:=G8 k (GW (fz k R 77))) (by kernel_rfl) (by rw [LC k R]<;>kernel_rfl)))
theorem MT (k:Nat) (G:Nat->S):F3 (dc k [24] G (U.at 24))=Hp k (Ip (G 26)) (G1 (G 75)):=by kernel_rfl
def nk (k:Nat):Nat->Ht
 | 0=>λ _ _ _ _ _ _=>none
 |n+1=>Hp k (b6 k) (Iy k (nk k n))
noncomputable abbrev II (k:Nat) (R:Nat->S) (n:Nat):Nat->S:=up R 24 (zv k R 6 n)
theorem Ln (k:Nat) (R:Nat->S):∀n,F3 (zv k R 6 n)=nk k n
 | 0=>by kernel_rfl
 |n+1=>
  Eq.trans (congrArg F3 (CE [] (by kernel_rfl))) ((MT k _).trans (Eq.trans (b:=Hp k (Ip (fz k (II k R n) 26)) (G1 (fz k (II k R n) 75))) (by kernel_rfl) (by rw [ME k (II k R n),LU k (II k R n),(show F3 (II k R n 24)=_ from Ln k R n)]<;>kernel_rfl)))
theorem Ik (k:Nat) (G:Nat->S):D7 (dc k [16] G (U.at 16))=Es k (En (G 49)) (F3 (G 24)):=by kernel_rfl
def l4 (k:Nat):Nat->EI
 | 0=>λ _ _ _ _ _=>none
 |n+1=>Es k (F7 k (l4 k n)) (nk k k)
noncomputable abbrev EX (k:Nat) (R:Nat->S) (n:Nat):Nat->S:=up R 16 (zv k R 4 n)
theorem Gh (k:Nat) (R:Nat->S):∀n,D7 (zv k R 4 n)=l4 k n
 | 0=>by kernel_rfl
 |n+1=>
  Eq.trans (congrArg D7 (CE [] (by kernel_rfl))) ((Ik k _).trans (Eq.trans (b:=Es k (En (fz k (EX k R n) 49)) (F3 (zv k (EX k R n) 6 k))) (by kernel_rfl) (by rw [GJ k (EX k R n),Ln k (EX k R n) k,(show D7 (EX k R n 16)=_ from Gh k R n)]<;>kernel_rfl)))
theorem MX (k:Nat) (G:Nat->S):It (dc k [0] G (U.at 15))=Hr k (Ad (G 8)) (D7 (G 16)):=by kernel_rfl
def r3 (k:Nat) (Dp:vi):Kq:=Hr k (l2 k Dp k) (l4 k k)
theorem MW (k:Nat) (R:Nat->S):It (fz k R 15)=r3 k (uf (R 0)):=
 Eq.trans (congrArg It (BW [0] (by kernel_rfl))) ((MX k _).trans (Eq.trans (b:=Hr k (Ad (zv k R 2 k)) (D7 (zv k R 4 k))) (by kernel_rfl) (by rw [Eg k R k,Gh k R k]<;>kernel_rfl)))
theorem Dz (k:Nat) (G:Nat->S):uf (dc k [0] G (U.at 0))=u0 k (It (G 15)):=by kernel_rfl
def l0 (k:Nat):Nat->vi
 | 0=>λ _ _=>none
 |n+1=>u0 k (r3 k (l0 k n))
noncomputable abbrev wo (k:Nat) (R:Nat->S) (n:Nat):Nat->S:=up R 0 (zv k R 0 n)
theorem De (k:Nat) (R:Nat->S):∀n,uf (zv k R 0 n)=l0 k n
 | 0=>by kernel_rfl
 |n+1=>
  Eq.trans (congrArg uf (CE [] (by kernel_rfl))) ((Dz k _).trans (Eq.trans (b:=u0 k (It (fz k (wo k R n) 15))) (by kernel_rfl) (by rw [MW k (wo k R n),(show uf (wo k R n 0)=_ from De k R n)]<;>kernel_rfl)))
theorem uo (k:Nat) (G:Nat->S) (xs:DL sig):dc k [] G [.c 1 0] (uJ 124 384 sig xs)=sk k (uf (G 0)) xs.1:=by kernel_rfl
end f67
def f67 (k:Nat) (a0:ur):Option (Df×Unit):=f67.sk k (f67.l0 k k) a0
namespace f67
theorem eq (k:Nat) (xs:DL sig):den T Y (E k) A k aC 0 (uJ 124 384 sig xs) (zf T rs ts)=f67 k xs.1:=
 Eq.trans (BZ (R:=(λ _ _=>none)) (tb:=U)) ((uo k _ xs).trans (Eq.trans (b:=sk k (uf (zv k (λ _ _=>none) 0 k)) xs.1) (by kernel_rfl) (by rw [De k (λ _ _=>none) k]<;>kernel_rfl)))
noncomputable def aR (k:Nat):oL:=⟨sig,rs,λ xs=>f67 k xs.1⟩
theorem ok (k:Nat):cz Try.prog 67 sig rs (λ xs=>f67 k xs.1):=
 (Au (k:=k) (A:=A) (T:=T) (Y:=Y) (E:=E k) (M:=384) (ts:=ts) Dn ⟨f51.ok k,f105.ok k,f126.ok k,f131.ok k,f132.ok k,trivial⟩ ⟨f51.vr,f105.vr,f126.vr,f131.vr,f132.vr,trivial⟩ mixed (f:=67) (fn:=Try.f67) (c:=aC) (by kernel_rfl) (by kernel_rfl) (by kernel_rfl) (by decide) (by kernel_rfl)).congr λ xs=>(eq k xs).symm
theorem vr:vT Try.prog 67:=λ args w=>by kernel_rfl
end f67
namespace f14
noncomputable def aC:Code:=Try.f14.body.getD .skip
abbrev sig:List PT:=[(false,Ee)]
abbrev rs:List RT:=[.d true FF]
abbrev ts:List RV:=[.cell 2 27]
abbrev S:=St->Option (eP rs)
def Y:dY:=[]
noncomputable def E (k:Nat):Env:=[(67,.c (f67.aR k))]
def A:oK:={}
def U:fD:=[]
noncomputable abbrev dc (k:Nat) (rc:List Nat) (G:Nat->S) (F:List PF):S:=λ σ=>ap T Y (E k) A k (zf T rs ts) (cD T Y (E k) A k (zf T rs ts) aC U rc G 9999 F) .nx σ
def sk (k:Nat) (a0:ur):Option (Df×Unit):=((f67 k a0).bind λ r1=>some ((r1.1.1,(r1.1.2.1,[])),()))
theorem uo (k:Nat) (G:Nat->S) (xs:DL sig):dc k [] G [.c 1 0] (uJ 8 32 sig xs)=sk k xs.1:=by kernel_rfl
end f14
def f14 (k:Nat) (a0:ur):Option (Df×Unit):=f14.sk k a0
namespace f14
theorem eq (k:Nat) (xs:DL sig):den T Y (E k) A k aC 0 (uJ 8 32 sig xs) (zf T rs ts)=f14 k xs.1:=
 Eq.trans (BZ (R:=(λ _ _=>none)) (tb:=U)) ((uo k _ xs).trans (by kernel_rfl))
noncomputable def aR (k:Nat):oL:=⟨sig,rs,λ xs=>f14 k xs.1⟩
theorem ok (k:Nat):cz Try.prog 14 sig rs (λ xs=>f14 k xs.1):=
 (Au (k:=k) (A:=A) (T:=T) (Y:=Y) (E:=E k) (M:=32) (ts:=ts) Dn ⟨f67.ok k,trivial⟩ ⟨f67.vr,trivial⟩ mixed (f:=14) (fn:=Try.f14) (c:=aC) (by kernel_rfl) (by kernel_rfl) (by kernel_rfl) (by decide) (by kernel_rfl)).congr λ xs=>(eq k xs).symm
theorem vr:vT Try.prog 14:=λ args w=>by kernel_rfl
end f14
namespace f91
noncomputable def aC:Code:=Try.f91.body.getD .skip
abbrev sig:List PT:=[(true,FF),(false,(.int .i64))]
abbrev rs:List RT:=[.d false .bool]
abbrev ts:List RV:=[.tmp 4]
abbrev S:=St->Option (eP rs)
def Y:dY:=[]
noncomputable def E (k:Nat):Env:=[]
def A:oK:={ qA:=[(1,{ slots:=[(4,.bool)] })] }
def U:fD:=[(7,[.c 7 0])]
noncomputable abbrev fz (k:Nat) (R:Nat->S) (q:Nat):S:=cx T Y (E k) A k (zf T rs ts) aC U R q
noncomputable abbrev k5 (k:Nat) (rc:List Nat) (R:Nat->S):Nat->S:=ext T Y (E k) A k (zf T rs ts) aC U rc R
noncomputable abbrev dc (k:Nat) (rc:List Nat) (G:Nat->S) (F:List PF):S:=λ σ=>ap T Y (E k) A k (zf T rs ts) (cD T Y (E k) A k (zf T rs ts) aC U rc G 9999 F) .nx σ
def Fh (k7:Bool):St:=C9 14 48 [(4,aB k7)] []
abbrev D4:=Bool->Option (Bool×Unit)
abbrev DA (R:S):D4:=(λ k7=>R (Fh k7))
def sk (k:Nat) (Ef:D4) (a0:Df) (a1:Int):Option (Bool×Unit):=(if 0<=a1 then (Ef (decide (a1 <(a0.2.1.length:Int)))) else (Ef false))
def DZ (k:Nat) (k7:Bool):Option (Bool×Unit):=some (decide (k7=true),())
theorem Fg (k:Nat) (G:Nat->S):DA (dc k [] G (U.at 7))=DZ k:=by kernel_rfl
def r1 (k:Nat):D4:=DZ k
theorem Ff (k:Nat) (R:Nat->S):DA (fz k R 7)=r1 k:=
 Eq.trans (congrArg DA (BW [] (by kernel_rfl))) ((Fg k _).trans (by kernel_rfl))
theorem uo (k:Nat) (G:Nat->S) (xs:DL sig):dc k [] G [.c 1 0] (uJ 14 48 sig xs)=sk k (DA (G 7)) xs.1 xs.2.1:=by kernel_rfl
end f91
def f91 (k:Nat) (a0:Df) (a1:Int):Option (Bool×Unit):=f91.sk k (f91.r1 k) a0 a1
namespace f91
theorem eq (k:Nat) (xs:DL sig):den T Y (E k) A k aC 0 (uJ 14 48 sig xs) (zf T rs ts)=f91 k xs.1 xs.2.1:=
 Eq.trans (BZ (R:=(λ _ _=>none)) (tb:=U)) ((uo k _ xs).trans (Eq.trans (b:=sk k (DA (fz k (λ _ _=>none) 7)) xs.1 xs.2.1) (by kernel_rfl) (by rw [Ff k (λ _ _=>none)]<;>kernel_rfl)))
noncomputable def aR (k:Nat):oL:=⟨sig,rs,λ xs=>f91 k xs.1 xs.2.1⟩
theorem ok (k:Nat):cz Try.prog 91 sig rs (λ xs=>f91 k xs.1 xs.2.1):=
 (Au (k:=k) (A:=A) (T:=T) (Y:=Y) (E:=E k) (M:=48) (ts:=ts) Dn trivial trivial mixed (f:=91) (fn:=Try.f91) (c:=aC) (by kernel_rfl) (by kernel_rfl) (by kernel_rfl) (by decide) (by kernel_rfl)).congr λ xs=>(eq k xs).symm
theorem vr:vT Try.prog 91:=λ args w=>by kernel_rfl
end f91
namespace f159
noncomputable def aC:Code:=Try.f159.body.getD .skip
abbrev sig:List PT:=[(false,(.int .i64)),(false,(.int .i64))]
abbrev rs:List RT:=[.d false (.int .i64)]
abbrev ts:List RV:=[.tmp 4]
abbrev S:=St->Option (eP rs)
def Y:dY:=[]
noncomputable def E (k:Nat):Env:=[]
def A:oK:={}
def U:fD:=[]
noncomputable abbrev dc (k:Nat) (rc:List Nat) (G:Nat->S) (F:List PF):S:=λ σ=>ap T Y (E k) A k (zf T rs ts) (cD T Y (E k) A k (zf T rs ts) aC U rc G 9999 F) .nx σ
def sk (k:Nat) (a0 a1:Int):Option (Int×Unit):=some ((uB true (Ar (0 - a1)) (uB false a0 a1)),())
theorem uo (k:Nat) (G:Nat->S) (xs:DL sig):dc k [] G [.c 1 0] (uJ 11 48 sig xs)=sk k xs.1 xs.2.1:=by kernel_rfl
end f159
def f159 (k:Nat) (a0 a1:Int):Option (Int×Unit):=f159.sk k a0 a1
namespace f159
theorem eq (k:Nat) (xs:DL sig):den T Y (E k) A k aC 0 (uJ 11 48 sig xs) (zf T rs ts)=f159 k xs.1 xs.2.1:=
 Eq.trans (BZ (R:=(λ _ _=>none)) (tb:=U)) ((uo k _ xs).trans (by kernel_rfl))
noncomputable def aR (k:Nat):oL:=⟨sig,rs,λ xs=>f159 k xs.1 xs.2.1⟩
theorem ok (k:Nat):cz Try.prog 159 sig rs (λ xs=>f159 k xs.1 xs.2.1):=
 (Au (k:=k) (A:=A) (T:=T) (Y:=Y) (E:=E k) (M:=48) (ts:=ts) Dn trivial trivial mixed (f:=159) (fn:=Try.f159) (c:=aC) (by kernel_rfl) (by kernel_rfl) (by kernel_rfl) (by decide) (by kernel_rfl)).congr λ xs=>(eq k xs).symm
theorem vr:vT Try.prog 159:=λ args w=>by kernel_rfl
end f159
namespace f118
noncomputable def aC:Code:=Try.f118.body.getD .skip
abbrev sig:List PT:=[(true,uv)]
abbrev rs:List RT:=[.d true uv]
abbrev ts:List RV:=[.cell 2 108]
abbrev S:=St->Option (eP rs)
def Y:dY:=[]
noncomputable def E (k:Nat):Env:=[(159,.c (f159.aR k))]
def A:oK:={}
def U:fD:=[]
noncomputable abbrev dc (k:Nat) (rc:List Nat) (G:Nat->S) (F:List PF):S:=λ σ=>ap T Y (E k) A k (zf T rs ts) (cD T Y (E k) A k (zf T rs ts) aC U rc G 9999 F) .nx σ
def sk (k:Nat) (a0:(Int×Int)):Option ((Int×Int)×Unit):=((f159 k a0.1 1048576).bind λ r1=>((f159 k a0.2 1048576).bind λ r2=>some ((r1.1,r2.1),())))
theorem uo (k:Nat) (G:Nat->S) (xs:DL sig):dc k [] G [.c 1 0] (uJ 10 32 sig xs)=sk k xs.1:=by kernel_rfl
end f118
def f118 (k:Nat) (a0:(Int×Int)):Option ((Int×Int)×Unit):=f118.sk k a0
namespace f118
theorem eq (k:Nat) (xs:DL sig):den T Y (E k) A k aC 0 (uJ 10 32 sig xs) (zf T rs ts)=f118 k xs.1:=
 Eq.trans (BZ (R:=(λ _ _=>none)) (tb:=U)) ((uo k _ xs).trans (by kernel_rfl))
noncomputable def aR (k:Nat):oL:=⟨sig,rs,λ xs=>f118 k xs.1⟩
theorem ok (k:Nat):cz Try.prog 118 sig rs (λ xs=>f118 k xs.1):=
 (Au (k:=k) (A:=A) (T:=T) (Y:=Y) (E:=E k) (M:=32) (ts:=ts) Dn ⟨f159.ok k,trivial⟩ ⟨f159.vr,trivial⟩ mixed (f:=118) (fn:=Try.f118) (c:=aC) (by kernel_rfl) (by kernel_rfl) (by kernel_rfl) (by decide) (by kernel_rfl)).congr λ xs=>(eq k xs).symm
theorem vr:vT Try.prog 118:=λ args w=>by kernel_rfl
end f118
namespace f137
noncomputable def aC:Code:=Try.f137.body.getD .skip
abbrev sig:List PT:=[(true,uv)]
abbrev rs:List RT:=[.d false .bool]
abbrev ts:List RV:=[.tmp 2]
abbrev S:=St->Option (eP rs)
def Y:dY:=[]
noncomputable def E (k:Nat):Env:=[(118,.c (f118.aR k))]
def A:oK:={}
def U:fD:=[]
noncomputable abbrev dc (k:Nat) (rc:List Nat) (G:Nat->S) (F:List PF):S:=λ σ=>ap T Y (E k) A k (zf T rs ts) (cD T Y (E k) A k (zf T rs ts) aC U rc G 9999 F) .nx σ
def sk (k:Nat) (a0:(Int×Int)):Option (Bool×Unit):=((f118 k (a0.1,a0.2)).bind λ r1=>some (decide ((a0.1=r1.1.1)/\(a0.2=r1.1.2)),()))
theorem uo (k:Nat) (G:Nat->S) (xs:DL sig):dc k [] G [.c 1 0] (uJ 7 32 sig xs)=sk k xs.1:=by kernel_rfl
end f137
def f137 (k:Nat) (a0:(Int×Int)):Option (Bool×Unit):=f137.sk k a0
namespace f137
theorem eq (k:Nat) (xs:DL sig):den T Y (E k) A k aC 0 (uJ 7 32 sig xs) (zf T rs ts)=f137 k xs.1:=
 Eq.trans (BZ (R:=(λ _ _=>none)) (tb:=U)) ((uo k _ xs).trans (by kernel_rfl))
noncomputable def aR (k:Nat):oL:=⟨sig,rs,λ xs=>f137 k xs.1⟩
theorem ok (k:Nat):cz Try.prog 137 sig rs (λ xs=>f137 k xs.1):=
 (Au (k:=k) (A:=A) (T:=T) (Y:=Y) (E:=E k) (M:=32) (ts:=ts) Dn ⟨f118.ok k,trivial⟩ ⟨f118.vr,trivial⟩ mixed (f:=137) (fn:=Try.f137) (c:=aC) (by kernel_rfl) (by kernel_rfl) (by kernel_rfl) (by decide) (by kernel_rfl)).congr λ xs=>(eq k xs).symm
theorem vr:vT Try.prog 137:=λ args w=>by kernel_rfl
end f137
namespace f138
noncomputable def aC:Code:=Try.f138.body.getD .skip
abbrev sig:List PT:=[(true,FF),(false,(.int .i64))]
abbrev rs:List RT:=[.d false .bool]
abbrev ts:List RV:=[.tmp 4]
abbrev S:=St->Option (eP rs)
def Y:dY:=[]
noncomputable def E (k:Nat):Env:=[]
def A:oK:={ qA:=[(1,{ slots:=[(4,.bool)] })] }
def U:fD:=[(7,[.c 7 0])]
noncomputable abbrev fz (k:Nat) (R:Nat->S) (q:Nat):S:=cx T Y (E k) A k (zf T rs ts) aC U R q
noncomputable abbrev k5 (k:Nat) (rc:List Nat) (R:Nat->S):Nat->S:=ext T Y (E k) A k (zf T rs ts) aC U rc R
noncomputable abbrev dc (k:Nat) (rc:List Nat) (G:Nat->S) (F:List PF):S:=λ σ=>ap T Y (E k) A k (zf T rs ts) (cD T Y (E k) A k (zf T rs ts) aC U rc G 9999 F) .nx σ
def Fh (k7:Bool):St:=C9 14 48 [(4,aB k7)] []
abbrev D4:=Bool->Option (Bool×Unit)
abbrev DA (R:S):D4:=(λ k7=>R (Fh k7))
def sk (k:Nat) (Ef:D4) (a0:Df) (a1:Int):Option (Bool×Unit):=(if 0<=a1 then (Ef (decide (a1 <(a0.1.length:Int)))) else (Ef false))
def DZ (k:Nat) (k7:Bool):Option (Bool×Unit):=some (decide (k7=true),())
theorem Fg (k:Nat) (G:Nat->S):DA (dc k [] G (U.at 7))=DZ k:=by kernel_rfl
def r1 (k:Nat):D4:=DZ k
theorem Ff (k:Nat) (R:Nat->S):DA (fz k R 7)=r1 k:=
 Eq.trans (congrArg DA (BW [] (by kernel_rfl))) ((Fg k _).trans (by kernel_rfl))
theorem uo (k:Nat) (G:Nat->S) (xs:DL sig):dc k [] G [.c 1 0] (uJ 14 48 sig xs)=sk k (DA (G 7)) xs.1 xs.2.1:=by kernel_rfl
end f138
def f138 (k:Nat) (a0:Df) (a1:Int):Option (Bool×Unit):=f138.sk k (f138.r1 k) a0 a1
namespace f138
theorem eq (k:Nat) (xs:DL sig):den T Y (E k) A k aC 0 (uJ 14 48 sig xs) (zf T rs ts)=f138 k xs.1 xs.2.1:=
 Eq.trans (BZ (R:=(λ _ _=>none)) (tb:=U)) ((uo k _ xs).trans (Eq.trans (b:=sk k (DA (fz k (λ _ _=>none) 7)) xs.1 xs.2.1) (by kernel_rfl) (by rw [Ff k (λ _ _=>none)]<;>kernel_rfl)))
noncomputable def aR (k:Nat):oL:=⟨sig,rs,λ xs=>f138 k xs.1 xs.2.1⟩
theorem ok (k:Nat):cz Try.prog 138 sig rs (λ xs=>f138 k xs.1 xs.2.1):=
 (Au (k:=k) (A:=A) (T:=T) (Y:=Y) (E:=E k) (M:=48) (ts:=ts) Dn trivial trivial mixed (f:=138) (fn:=Try.f138) (c:=aC) (by kernel_rfl) (by kernel_rfl) (by kernel_rfl) (by decide) (by kernel_rfl)).congr λ xs=>(eq k xs).symm
theorem vr:vT Try.prog 138:=λ args w=>by kernel_rfl
end f138
namespace f71
noncomputable def aC:Code:=Try.f71.body.getD .skip
abbrev sig:List PT:=[(true,FF)]
abbrev rs:List RT:=[.d false (.int .i64)]
abbrev ts:List RV:=[.tmp 2]
abbrev S:=St->Option (eP rs)
def Y:dY:=[]
noncomputable def E (k:Nat):Env:=[(91,.c (f91.aR k)),(105,.c (f105.aR k)),(126,.c (f126.aR k)),(137,.c (f137.aR k)),(138,.c (f138.aR k))]
def A:oK:={ qA:=[(1,{ slots:=[(1,.id),(24,.bool)],keys:=[(1,[.val false uv,.val false Dd,.val false uv])] }),(14,{ slots:=[(1,.id),(6,.id),(44,.val false Dd),(45,.id),(46,.id),(71,.bool)],keys:=[(1,[.val false uv,.val false Dd,.val false uv]),(6,[])] }),(22,{ slots:=[(1,.id),(7,.id),(8,.id),(79,.val false uv),(80,.id),(81,.id),(97,.bool)],keys:=[(1,[.val false uv,.val false Dd,.val false uv]),(8,[])] })],loops:=[(0,{ slots:=[(1,.id),(26,.val false uv),(27,.id),(28,.id)],keys:=[(1,[.val false uv,.val false Dd,.val false uv])] }),(2,{ slots:=[(1,.id),(44,.val false Dd),(45,.id),(46,.id)],keys:=[(1,[.val false uv,.val false Dd,.val false uv])] }),(4,{ slots:=[(1,.id),(79,.val false uv),(80,.id),(81,.id)],keys:=[(1,[.val false uv,.val false Dd,.val false uv])] })] }
def U:fD:=[(7,[.c 13 0,.c 7 0]),(0,[.c 116 0,.r 0,.b 0,.c 15 0]),(8,[.c 244 2,.r 2,.b 2,.c 31 0]),(59,[.c 31333 3,.c 15667 3,.b 3,.c 1959 2,.r 2,.b 2,.c 31 0]),(16,[.c 500 4,.r 4,.b 4,.c 63 0]),(91,[.c 64101 5,.c 32051 5,.b 5,.c 4007 4,.r 4,.b 4,.c 63 0])]
noncomputable abbrev fz (k:Nat) (R:Nat->S) (q:Nat):S:=cx T Y (E k) A k (zf T rs ts) aC U R q
noncomputable abbrev k5 (k:Nat) (rc:List Nat) (R:Nat->S):Nat->S:=ext T Y (E k) A k (zf T rs ts) aC U rc R
noncomputable abbrev zv (k:Nat) (R:Nat->S) (i n:Nat):S:=lx T Y (E k) A k (zf T rs ts) aC U R i n
noncomputable abbrev dc (k:Nat) (rc:List Nat) (G:Nat->S) (F:List PF):S:=λ σ=>ap T Y (E k) A k (zf T rs ts) (cD T Y (E k) A k (zf T rs ts) aC U rc G 9999 F) .nx σ
def Fh (Dm:sv) (AV:wv) (Dh:sv) (x24:Bool):St:=C9 120 368 [(1,aP 1),(24,aB x24)] [(1,.box [cV uv Dm,cV Dd AV,cV uv Dh])]
abbrev D4:=sv->wv->sv->Bool->Option (Int×Unit)
abbrev DA (R:S):D4:=(λ Dm AV Dh x24=>R (Fh Dm AV Dh x24))
def DB (Dm:sv) (AV:wv) (Dh:sv) (D0 x28:Int):St:=C9 120 368 [(1,aP 1),(26,aV uv Dm),(27,aI D0),(28,aI x28)] [(1,.box [cV uv Dm,cV Dd AV,cV uv Dh])]
abbrev vi:=sv->wv->sv->Int->Int->Option (Int×Unit)
abbrev uf (R:S):vi:=(λ Dm AV Dh D0 x28=>R (DB Dm AV Dh D0 x28))
def EW (Dm:sv) (AV:wv) (Dh:sv) (EO DC:Int):St:=C9 120 368 [(1,aP 1),(44,aV Dd AV),(45,aI EO),(46,aI DC)] [(1,.box [cV uv Dm,cV Dd AV,cV uv Dh])]
abbrev Du:=sv->wv->sv->Int->Int->Option (Int×Unit)
abbrev Ad (R:S):Du:=(λ Dm AV Dh EO DC=>R (EW Dm AV Dh EO DC))
def Jm (Dm:sv) (AV:wv) (Dh:sv) (IN IP JD JE EO DC:Int) (JU:Bool):St:=C9 120 368 [(1,aP 1),(6,aP 6),(44,aV Dd AV),(45,aI EO),(46,aI DC),(71,aB JU)] [(1,.box [cV uv Dm,cV Dd AV,cV uv Dh]),(6,.box [cI IN,cI IP,cI JD,cI JE])]
abbrev F6:=sv->wv->sv->Int->Int->Int->Int->Int->Int->Bool->Option (Int×Unit)
abbrev E5 (R:S):F6:=(λ Dm AV Dh IN IP JD JE EO DC JU=>R (Jm Dm AV Dh IN IP JD JE EO DC JU))
def IG (Dm:sv) (AV:wv) (Dh:sv) (FX DI:Int):St:=C9 120 368 [(1,aP 1),(79,aV uv Dh),(80,aI FX),(81,aI DI)] [(1,.box [cV uv Dm,cV Dd AV,cV uv Dh])]
abbrev EI:=sv->wv->sv->Int->Int->Option (Int×Unit)
abbrev D7 (R:S):EI:=(λ Dm AV Dh FX DI=>R (IG Dm AV Dh FX DI))
def Mg (Dm:sv) (AV:wv) (Dh:sv) (E9 Fa gi FX:Int) (Gm:Bool):St:=C9 120 368 [(1,aP 1),(7,aI gi),(8,aP 8),(79,aV uv Dh),(80,aI FX),(81,aI gi),(97,aB Gm)] [(1,.box [cV uv Dm,cV Dd AV,cV uv Dh]),(8,.box [cI E9,cI Fa])]
abbrev Jy:=sv->wv->sv->Int->Int->Int->Int->Bool->Option (Int×Unit)
abbrev G2 (R:S):Jy:=(λ Dm AV Dh E9 Fa gi FX Gm=>R (Mg Dm AV Dh E9 Fa gi FX Gm))
def sk (k:Nat) (Ef:D4) (a0:Df):Option (Int×Unit):=(if 200 <(a0.1.length:Int) then (Ef a0.1 a0.2.1 a0.2.2 true) else (if 600 <(a0.2.1.length:Int) then (Ef a0.1 a0.2.1 a0.2.2 true) else (Ef a0.1 a0.2.1 a0.2.2 (decide (600 <(a0.2.2.length:Int))))))
def DZ (k:Nat) (xx:vi) (Dm:sv) (AV:wv) (Dh:sv) (x24:Bool):Option (Int×Unit):=(if x24=true then some (2,()) else (xx Dm AV Dh (Dm.length:Int) 0))
def u0 (k:Nat) (xx:vi) (DT:Du) (Dm:sv) (AV:wv) (Dh:sv) (D0 x28:Int):Option (Int×Unit):=(if x28 <D0 then (if 0<=x28 then (if x28 <(Dm.length:Int) then ((f137 k ((Dm.getD (x28).toNat (0,0)).1,(Dm.getD (x28).toNat (0,0)).2)).bind λ r1=>(if ¬(r1.1=true) then some (1,()) else (if 0<=x28 then (if x28<=(Dm.length:Int) then ((f126 k (Dm.take (x28).toNat) ((Dm.getD (x28).toNat (0,0)).1,(Dm.getD (x28).toNat (0,0)).2)).bind λ r2=>(if r2.1=true then some (5,()) else (xx Dm AV Dh D0 (Ar (x28+1))))) else none) else none))) else none) else none) else (DT Dm AV Dh (AV.length:Int) 0))
def Dl (k:Nat) (Ft:F6) (FB:EI) (Dm:sv) (AV:wv) (Dh:sv) (EO DC:Int):Option (Int×Unit):=(if DC <EO then (if 0<=DC then (if DC <(AV.length:Int) then ((f138 k (Dm,(AV,Dh)) ((AV.getD (DC).toNat (0,(0,(0,0)))).1)).bind λ r1=>(if ¬(r1.1=true) then (Ft Dm AV Dh ((AV.getD (DC).toNat (0,(0,(0,0)))).1) (((AV.getD (DC).toNat (0,(0,(0,0)))).2).1) ((((AV.getD (DC).toNat (0,(0,(0,0)))).2).2).1) ((((AV.getD (DC).toNat (0,(0,(0,0)))).2).2).2) EO DC true) else ((f138 k (Dm,(AV,Dh)) (((AV.getD (DC).toNat (0,(0,(0,0)))).2).1)).bind λ r2=>(if ¬(r2.1=true) then (Ft Dm AV Dh ((AV.getD (DC).toNat (0,(0,(0,0)))).1) (((AV.getD (DC).toNat (0,(0,(0,0)))).2).1) ((((AV.getD (DC).toNat (0,(0,(0,0)))).2).2).1) ((((AV.getD (DC).toNat (0,(0,(0,0)))).2).2).2) EO DC true) else (if ((((AV.getD (DC).toNat (0,(0,(0,0)))).2).2).1) <0 then (Ft Dm AV Dh ((AV.getD (DC).toNat (0,(0,(0,0)))).1) (((AV.getD (DC).toNat (0,(0,(0,0)))).2).1) ((((AV.getD (DC).toNat (0,(0,(0,0)))).2).2).1) ((((AV.getD (DC).toNat (0,(0,(0,0)))).2).2).2) EO DC true) else (Ft Dm AV Dh ((AV.getD (DC).toNat (0,(0,(0,0)))).1) (((AV.getD (DC).toNat (0,(0,(0,0)))).2).1) ((((AV.getD (DC).toNat (0,(0,(0,0)))).2).2).1) ((((AV.getD (DC).toNat (0,(0,(0,0)))).2).2).2) EO DC (decide (1099511627776 <((((AV.getD (DC).toNat (0,(0,(0,0)))).2).2).1))))))))) else none) else none) else (FB Dm AV Dh (Dh.length:Int) 0))
def Fv (k:Nat) (DT:Du) (Dm:sv) (AV:wv) (Dh:sv) (IN IP JD JE EO DC:Int) (JU:Bool):Option (Int×Unit):=(if JU=true then some (1,()) else (if IN=IP then some (11,()) else (DT Dm AV Dh EO (Ar (DC+1)))))
def Es (k:Nat) (KG:Jy) (Dm:sv) (AV:wv) (Dh:sv) (FX DI:Int):Option (Int×Unit):=(if DI <FX then (if 0<=DI then (if DI <(Dh.length:Int) then ((f91 k (Dm,(AV,Dh)) ((Dh.getD (DI).toNat (0,0)).1)).bind λ r1=>(if ¬(r1.1=true) then (KG Dm AV Dh ((Dh.getD (DI).toNat (0,0)).1) ((Dh.getD (DI).toNat (0,0)).2) DI FX true) else ((f91 k (Dm,(AV,Dh)) ((Dh.getD (DI).toNat (0,0)).2)).bind λ r2=>(KG Dm AV Dh ((Dh.getD (DI).toNat (0,0)).1) ((Dh.getD (DI).toNat (0,0)).2) DI FX (decide (¬(r2.1=true))))))) else none) else none) else some (0,()))
def Gs (k:Nat) (FB:EI) (Dm:sv) (AV:wv) (Dh:sv) (E9 Fa gi FX:Int) (Gm:Bool):Option (Int×Unit):=(if Gm=true then some (1,()) else (if 0<=E9 then (if E9 <(AV.length:Int) then (if 0<=Fa then (if Fa <(AV.length:Int) then (if ¬((((AV.getD (E9).toNat (0,(0,(0,0)))).2).1)=((AV.getD (Fa).toNat (0,(0,(0,0)))).1)) then some (9,()) else (if 0<=gi then (if gi<=(Dh.length:Int) then ((f105 k (Dh.take (gi).toNat) (E9,Fa)).bind λ r1=>(if r1.1=true then some (5,()) else (FB Dm AV Dh FX (Ar (gi+1))))) else none) else none)) else none) else none) else none) else none))
theorem Je (k:Nat) (G:Nat->S):E5 (dc k [8] G (U.at 59))=Fv k (Ad (G 8)):=by kernel_rfl
def FI (k:Nat) (Ey:Du):F6:=Fv k Ey
theorem Jd (k:Nat) (R:Nat->S):E5 (fz k R 59)=FI k (Ad (R 8)):=
 Eq.trans (congrArg E5 (BW [8] (by kernel_rfl))) ((Je k _).trans (by kernel_rfl))
theorem LX (k:Nat) (G:Nat->S):G2 (dc k [16] G (U.at 91))=Gs k (D7 (G 16)):=by kernel_rfl
def IW (k:Nat) (IA:EI):Jy:=Gs k IA
theorem LW (k:Nat) (R:Nat->S):G2 (fz k R 91)=IW k (D7 (R 16)):=
 Eq.trans (congrArg G2 (BW [16] (by kernel_rfl))) ((LX k _).trans (by kernel_rfl))
theorem Ik (k:Nat) (G:Nat->S):D7 (dc k [16] G (U.at 16))=Es k (G2 (G 91)):=by kernel_rfl
def l4 (k:Nat):Nat->EI
 | 0=>λ _ _ _ _ _=>none
 |n+1=>Es k (IW k (l4 k n))
noncomputable abbrev EX (k:Nat) (R:Nat->S) (n:Nat):Nat->S:=up R 16 (zv k R 4 n)
theorem Gh (k:Nat) (R:Nat->S):∀n,D7 (zv k R 4 n)=l4 k n
 | 0=>by kernel_rfl
 |n+1=>
  Eq.trans (congrArg D7 (CE [] (by kernel_rfl))) ((Ik k _).trans (Eq.trans (b:=Es k (G2 (fz k (EX k R n) 91))) (by kernel_rfl) (by rw [LW k (EX k R n),(show D7 (EX k R n 16)=_ from Gh k R n)]<;>kernel_rfl)))
theorem EV (k:Nat) (G:Nat->S):Ad (dc k [8] G (U.at 8))=Dl k (E5 (G 59)) (D7 (G 16)):=by kernel_rfl
def l2 (k:Nat):Nat->Du
 | 0=>λ _ _ _ _ _=>none
 |n+1=>Dl k (FI k (l2 k n)) (l4 k k)
noncomputable abbrev DH (k:Nat) (R:Nat->S) (n:Nat):Nat->S:=up R 8 (zv k R 2 n)
theorem Eg (k:Nat) (R:Nat->S):∀n,Ad (zv k R 2 n)=l2 k n
 | 0=>by kernel_rfl
 |n+1=>
  Eq.trans (congrArg Ad (CE [] (by kernel_rfl))) ((EV k _).trans (Eq.trans (b:=Dl k (E5 (fz k (DH k R n) 59)) (D7 (zv k (DH k R n) 4 k))) (by kernel_rfl) (by rw [Jd k (DH k R n),Gh k (DH k R n) k,(show Ad (DH k R n 8)=_ from Eg k R n)]<;>kernel_rfl)))
theorem Dz (k:Nat) (G:Nat->S):uf (dc k [0] G (U.at 0))=u0 k (uf (G 0)) (Ad (G 8)):=by kernel_rfl
def l0 (k:Nat):Nat->vi
 | 0=>λ _ _ _ _ _=>none
 |n+1=>u0 k (l0 k n) (l2 k k)
noncomputable abbrev wo (k:Nat) (R:Nat->S) (n:Nat):Nat->S:=up R 0 (zv k R 0 n)
theorem De (k:Nat) (R:Nat->S):∀n,uf (zv k R 0 n)=l0 k n
 | 0=>by kernel_rfl
 |n+1=>
  Eq.trans (congrArg uf (CE [] (by kernel_rfl))) ((Dz k _).trans (Eq.trans (b:=u0 k (uf ((wo k R n) 0)) (Ad (zv k (wo k R n) 2 k))) (by kernel_rfl) (by rw [Eg k (wo k R n) k,(show uf (wo k R n 0)=_ from De k R n)]<;>kernel_rfl)))
theorem Fg (k:Nat) (G:Nat->S):DA (dc k [] G (U.at 7))=DZ k (uf (G 0)):=by kernel_rfl
def r1 (k:Nat):D4:=DZ k (l0 k k)
theorem Ff (k:Nat) (R:Nat->S):DA (fz k R 7)=r1 k:=
 Eq.trans (congrArg DA (BW [] (by kernel_rfl))) ((Fg k _).trans (Eq.trans (b:=DZ k (uf (zv k R 0 k))) (by kernel_rfl) (by rw [De k R k]<;>kernel_rfl)))
theorem uo (k:Nat) (G:Nat->S) (xs:DL sig):dc k [] G [.c 1 0] (uJ 120 368 sig xs)=sk k (DA (G 7)) xs.1:=by kernel_rfl
end f71
def f71 (k:Nat) (a0:Df):Option (Int×Unit):=f71.sk k (f71.r1 k) a0
namespace f71
theorem eq (k:Nat) (xs:DL sig):den T Y (E k) A k aC 0 (uJ 120 368 sig xs) (zf T rs ts)=f71 k xs.1:=
 Eq.trans (BZ (R:=(λ _ _=>none)) (tb:=U)) ((uo k _ xs).trans (Eq.trans (b:=sk k (DA (fz k (λ _ _=>none) 7)) xs.1) (by kernel_rfl) (by rw [Ff k (λ _ _=>none)]<;>kernel_rfl)))
noncomputable def aR (k:Nat):oL:=⟨sig,rs,λ xs=>f71 k xs.1⟩
theorem ok (k:Nat):cz Try.prog 71 sig rs (λ xs=>f71 k xs.1):=
 (Au (k:=k) (A:=A) (T:=T) (Y:=Y) (E:=E k) (M:=368) (ts:=ts) Dn ⟨f91.ok k,f105.ok k,f126.ok k,f137.ok k,f138.ok k,trivial⟩ ⟨f91.vr,f105.vr,f126.vr,f137.vr,f138.vr,trivial⟩ mixed (f:=71) (fn:=Try.f71) (c:=aC) (by kernel_rfl) (by kernel_rfl) (by kernel_rfl) (by decide) (by kernel_rfl)).congr λ xs=>(eq k xs).symm
theorem vr:vT Try.prog 71:=λ args w=>by kernel_rfl
end f71
namespace f92
noncomputable def aC:Code:=Try.f92.body.getD .skip
abbrev sig:List PT:=[(true,FF),(false,(.int .i64)),(false,(.int .i64))]
abbrev rs:List RT:=[.d false .bool]
abbrev ts:List RV:=[.tmp 6]
abbrev S:=St->Option (eP rs)
def Y:dY:=[]
noncomputable def E (k:Nat):Env:=[(91,.c (f91.aR k)),(105,.c (f105.aR k))]
def A:oK:={ qA:=[(1,{ slots:=[(6,.bool)] })] }
def U:fD:=[(7,[.c 7 0])]
noncomputable abbrev fz (k:Nat) (R:Nat->S) (q:Nat):S:=cx T Y (E k) A k (zf T rs ts) aC U R q
noncomputable abbrev k5 (k:Nat) (rc:List Nat) (R:Nat->S):Nat->S:=ext T Y (E k) A k (zf T rs ts) aC U rc R
noncomputable abbrev dc (k:Nat) (rc:List Nat) (G:Nat->S) (F:List PF):S:=λ σ=>ap T Y (E k) A k (zf T rs ts) (cD T Y (E k) A k (zf T rs ts) aC U rc G 9999 F) .nx σ
def Fh (oy:Bool):St:=C9 39 128 [(6,aB oy)] []
abbrev D4:=Bool->Option (Bool×Unit)
abbrev DA (R:S):D4:=(λ oy=>R (Fh oy))
def sk (k:Nat) (Ef:D4) (a0:Df) (a1 a2:Int):Option (Bool×Unit):=((f91 k (a0.1,(a0.2.1,a0.2.2)) a1).bind λ r1=>(if r1.1=true then ((f91 k (a0.1,(a0.2.1,a0.2.2)) a2).bind λ r2=>(if r2.1=true then (if 0<=a1 then (if a1 <(a0.2.1.length:Int) then (if 0<=a2 then (if a2 <(a0.2.1.length:Int) then (if (((a0.2.1.getD (a1).toNat (0,(0,(0,0)))).2).1)=((a0.2.1.getD (a2).toNat (0,(0,(0,0)))).1) then ((f105 k a0.2.2 (a1,a2)).bind λ r3=>(Ef (decide (¬(r3.1=true))))) else (Ef false)) else none) else none) else none) else none) else (Ef false))) else (Ef false)))
def DZ (k:Nat) (oy:Bool):Option (Bool×Unit):=some (decide (oy=true),())
theorem Fg (k:Nat) (G:Nat->S):DA (dc k [] G (U.at 7))=DZ k:=by kernel_rfl
def r1 (k:Nat):D4:=DZ k
theorem Ff (k:Nat) (R:Nat->S):DA (fz k R 7)=r1 k:=
 Eq.trans (congrArg DA (BW [] (by kernel_rfl))) ((Fg k _).trans (by kernel_rfl))
theorem uo (k:Nat) (G:Nat->S) (xs:DL sig):dc k [] G [.c 1 0] (uJ 39 128 sig xs)=sk k (DA (G 7)) xs.1 xs.2.1 xs.2.2.1:=by kernel_rfl
end f92
def f92 (k:Nat) (a0:Df) (a1 a2:Int):Option (Bool×Unit):=f92.sk k (f92.r1 k) a0 a1 a2
namespace f92
theorem eq (k:Nat) (xs:DL sig):den T Y (E k) A k aC 0 (uJ 39 128 sig xs) (zf T rs ts)=f92 k xs.1 xs.2.1 xs.2.2.1:=
 Eq.trans (BZ (R:=(λ _ _=>none)) (tb:=U)) ((uo k _ xs).trans (Eq.trans (b:=sk k (DA (fz k (λ _ _=>none) 7)) xs.1 xs.2.1 xs.2.2.1) (by kernel_rfl) (by rw [Ff k (λ _ _=>none)]<;>kernel_rfl)))
noncomputable def aR (k:Nat):oL:=⟨sig,rs,λ xs=>f92 k xs.1 xs.2.1 xs.2.2.1⟩
theorem ok (k:Nat):cz Try.prog 92 sig rs (λ xs=>f92 k xs.1 xs.2.1 xs.2.2.1):=
 (Au (k:=k) (A:=A) (T:=T) (Y:=Y) (E:=E k) (M:=128) (ts:=ts) Dn ⟨f91.ok k,f105.ok k,trivial⟩ ⟨f91.vr,f105.vr,trivial⟩ mixed (f:=92) (fn:=Try.f92) (c:=aC) (by kernel_rfl) (by kernel_rfl) (by kernel_rfl) (by decide) (by kernel_rfl)).congr λ xs=>(eq k xs).symm
theorem vr:vT Try.prog 92:=λ args w=>by kernel_rfl
end f92
namespace f32
noncomputable def aC:Code:=Try.f32.body.getD .skip
abbrev sig:List PT:=[(true,FF),(false,Ee)]
abbrev rs:List RT:=[.d false (.int .i64),.d false (.int .i64)]
abbrev ts:List RV:=[.tmp 4,.tmp 5]
abbrev S:=St->Option (eP rs)
def Y:dY:=[]
noncomputable def E (k:Nat):Env:=[(71,.c (f71.aR k)),(91,.c (f91.aR k)),(92,.c (f92.aR k))]
def A:oK:={ loops:=[(0,{ slots:=[(1,.val false (.int .i64)),(2,.id),(7,.id),(15,.val false (.int .i64)),(16,.id),(17,.id)],keys:=[(2,[.val false uv,.val false Dd,.val false uv])] })],qA:=[(10,{ slots:=[(1,.val false (.int .i64)),(2,.id),(7,.id),(8,.id),(9,.id),(15,.val false (.int .i64)),(16,.id),(17,.id),(46,.bool)],keys:=[(2,[.val false uv,.val false Dd,.val false uv])] }),(12,{ slots:=[(1,.val false (.int .i64)),(2,.id),(7,.id),(9,.id),(15,.val false (.int .i64)),(16,.id),(17,.id),(59,.bool)],keys:=[(2,[.val false uv,.val false Dd,.val false uv])] })] }
def U:fD:=[(0,[.c 244 0,.r 0,.b 0,.c 31 0]),(43,[.c 62669 1,.c 31335 1,.b 1,.c 1959 0,.r 0,.b 0,.c 31 0]),(51,[.c 125341 1,.c 62671 1,.b 1,.c 1959 0,.r 0,.b 0,.c 31 0])]
noncomputable abbrev fz (k:Nat) (R:Nat->S) (q:Nat):S:=cx T Y (E k) A k (zf T rs ts) aC U R q
noncomputable abbrev k5 (k:Nat) (rc:List Nat) (R:Nat->S):Nat->S:=ext T Y (E k) A k (zf T rs ts) aC U rc R
noncomputable abbrev zv (k:Nat) (R:Nat->S) (i n:Nat):S:=lx T Y (E k) A k (zf T rs ts) aC U R i n
noncomputable abbrev dc (k:Nat) (rc:List Nat) (G:Nat->S) (F:List PF):S:=λ σ=>ap T Y (E k) A k (zf T rs ts) (cD T Y (E k) A k (zf T rs ts) aC U rc G 9999 F) .nx σ
def DB (Et:sv) (D5:wv) (Eu:sv) (x1:ur) (Eb DK gi:Int):St:=C9 70 224 [(1,aV (.int .i64) x1),(2,aP 2),(7,aI gi),(15,aV (.int .i64) x1),(16,aI Eb),(17,aI DK)] [(2,.box [cV uv Et,cV Dd D5,cV uv Eu])]
abbrev vi:=sv->wv->sv->ur->Int->Int->Int->Option (Int×Int×Unit)
abbrev uf (R:S):vi:=(λ Et D5 Eu x1 Eb DK gi=>R (DB Et D5 Eu x1 Eb DK gi))
def Jk (Et:sv) (D5:wv) (Eu:sv) (x1:ur) (Eb DK:Int) (DC:Bool) (gi hU:Int):St:=C9 70 224 [(1,aV (.int .i64) x1),(2,aP 2),(7,aI gi),(8,aI DK),(9,aI hU),(15,aV (.int .i64) x1),(16,aI Eb),(17,aI DK),(46,aB DC)] [(2,.box [cV uv Et,cV Dd D5,cV uv Eu])]
abbrev F4:=sv->wv->sv->ur->Int->Int->Bool->Int->Int->Option (Int×Int×Unit)
abbrev E3 (R:S):F4:=(λ Et D5 Eu x1 Eb DK DC gi hU=>R (Jk Et D5 Eu x1 Eb DK DC gi hU))
def Mb (Et:sv) (D5:wv) (Eu:sv) (x1:ur) (Eb DK:Int) (JR:Bool) (gi hU:Int):St:=C9 70 224 [(1,aV (.int .i64) x1),(2,aP 2),(7,aI gi),(9,aI hU),(15,aV (.int .i64) x1),(16,aI Eb),(17,aI DK),(59,aB JR)] [(2,.box [cV uv Et,cV Dd D5,cV uv Eu])]
abbrev Jt:=sv->wv->sv->ur->Int->Int->Bool->Int->Int->Option (Int×Int×Unit)
abbrev GX (R:S):Jt:=(λ Et D5 Eu x1 Eb DK JR gi hU=>R (Mb Et D5 Eu x1 Eb DK JR gi hU))
def sk (k:Nat) (xx:vi) (a0:Df) (a1:ur):Option (Int×Int×Unit):=((f71 k (a0.1,(a0.2.1,a0.2.2))).bind λ r1=>(if ¬(r1.1=0) then some (0,r1.1,()) else (xx a0.1 a0.2.1 a0.2.2 a1 (a1.length:Int) 0 0)))
def u0 (k:Nat) (Gq:F4) (Et:sv) (D5:wv) (Eu:sv) (x1:ur) (Eb DK gi:Int):Option (Int×Int×Unit):=(if DK <Eb then (if 0<=DK then (if DK <(x1.length:Int) then ((f91 k (Et,(D5,Eu)) (x1.getD (DK).toNat 0)).bind λ r1=>(if ¬(r1.1=true) then some (0,1,()) else (if 0 <DK then (if 0<=(Ar (DK - 1)) then (if (Ar (DK - 1)) <(x1.length:Int) then (if 0<=(x1.getD (Ar (DK - 1)).toNat 0) then (if (x1.getD (Ar (DK - 1)).toNat 0) <(D5.length:Int) then (if 0<=(x1.getD (DK).toNat 0) then (if (x1.getD (DK).toNat 0) <(D5.length:Int) then (Gq Et D5 Eu x1 Eb DK (decide (¬((((D5.getD ((x1.getD (Ar (DK - 1)).toNat 0)).toNat (0,(0,(0,0)))).2).1)=((D5.getD ((x1.getD (DK).toNat 0)).toNat (0,(0,(0,0)))).1)))) gi (x1.getD (DK).toNat 0)) else none) else none) else none) else none) else none) else none) else (Gq Et D5 Eu x1 Eb DK false gi (x1.getD (DK).toNat 0))))) else none) else none) else some (gi,0,()))
def ET (k:Nat) (KC:Jt) (Et:sv) (D5:wv) (Eu:sv) (x1:ur) (Eb DK:Int) (DC:Bool) (gi hU:Int):Option (Int×Int×Unit):=(if DC=true then some (0,9,()) else (if 0 <DK then (if 0<=(Ar (DK - 1)) then (if (Ar (DK - 1)) <(x1.length:Int) then ((f92 k (Et,(D5,Eu)) (x1.getD (Ar (DK - 1)).toNat 0) hU).bind λ r1=>(KC Et D5 Eu x1 Eb DK (decide (¬(r1.1=true))) gi hU)) else none) else none) else (KC Et D5 Eu x1 Eb DK false gi hU)))
def G7 (k:Nat) (xx:vi) (Et:sv) (D5:wv) (Eu:sv) (x1:ur) (Eb DK:Int) (JR:Bool) (gi hU:Int):Option (Int×Int×Unit):=(if JR=true then some (0,19,()) else (if 0<=hU then (if hU <(D5.length:Int) then (xx Et D5 Eu x1 Eb (Ar (DK+1)) (Ar (gi+((((D5.getD (hU).toNat (0,(0,(0,0)))).2).2).1)))) else none) else none))
theorem LL (k:Nat) (G:Nat->S):GX (dc k [0] G (U.at 51))=G7 k (uf (G 0)):=by kernel_rfl
def JN (k:Nat) (Dp:vi):Jt:=G7 k Dp
theorem LK (k:Nat) (R:Nat->S):GX (fz k R 51)=JN k (uf (R 0)):=
 Eq.trans (congrArg GX (BW [0] (by kernel_rfl))) ((LL k _).trans (by kernel_rfl))
theorem Ja (k:Nat) (G:Nat->S):E3 (dc k [0] G (U.at 43))=ET k (GX (G 51)):=by kernel_rfl
def F9 (k:Nat) (Dp:vi):F4:=ET k (JN k Dp)
theorem I9 (k:Nat) (R:Nat->S):E3 (fz k R 43)=F9 k (uf (R 0)):=
 Eq.trans (congrArg E3 (BW [0] (by kernel_rfl))) ((Ja k _).trans (Eq.trans (b:=ET k (GX (fz k R 51))) (by kernel_rfl) (by rw [LK k R]<;>kernel_rfl)))
theorem Dz (k:Nat) (G:Nat->S):uf (dc k [0] G (U.at 0))=u0 k (E3 (G 43)):=by kernel_rfl
def l0 (k:Nat):Nat->vi
 | 0=>λ _ _ _ _ _ _ _=>none
 |n+1=>u0 k (F9 k (l0 k n))
noncomputable abbrev wo (k:Nat) (R:Nat->S) (n:Nat):Nat->S:=up R 0 (zv k R 0 n)
theorem De (k:Nat) (R:Nat->S):∀n,uf (zv k R 0 n)=l0 k n
 | 0=>by kernel_rfl
 |n+1=>
  Eq.trans (congrArg uf (CE [] (by kernel_rfl))) ((Dz k _).trans (Eq.trans (b:=u0 k (E3 (fz k (wo k R n) 43))) (by kernel_rfl) (by rw [I9 k (wo k R n),(show uf (wo k R n 0)=_ from De k R n)]<;>kernel_rfl)))
theorem uo (k:Nat) (G:Nat->S) (xs:DL sig):dc k [] G [.c 1 0] (uJ 70 224 sig xs)=sk k (uf (G 0)) xs.1 xs.2.1:=by kernel_rfl
end f32
def f32 (k:Nat) (a0:Df) (a1:ur):Option (Int×Int×Unit):=f32.sk k (f32.l0 k k) a0 a1
namespace f32
theorem eq (k:Nat) (xs:DL sig):den T Y (E k) A k aC 0 (uJ 70 224 sig xs) (zf T rs ts)=f32 k xs.1 xs.2.1:=
 Eq.trans (BZ (R:=(λ _ _=>none)) (tb:=U)) ((uo k _ xs).trans (Eq.trans (b:=sk k (uf (zv k (λ _ _=>none) 0 k)) xs.1 xs.2.1) (by kernel_rfl) (by rw [De k (λ _ _=>none) k]<;>kernel_rfl)))
noncomputable def aR (k:Nat):oL:=⟨sig,rs,λ xs=>f32 k xs.1 xs.2.1⟩
theorem ok (k:Nat):cz Try.prog 32 sig rs (λ xs=>f32 k xs.1 xs.2.1):=
 (Au (k:=k) (A:=A) (T:=T) (Y:=Y) (E:=E k) (M:=224) (ts:=ts) Dn ⟨f71.ok k,f91.ok k,f92.ok k,trivial⟩ ⟨f71.vr,f91.vr,f92.vr,trivial⟩ mixed (f:=32) (fn:=Try.f32) (c:=aC) (by kernel_rfl) (by kernel_rfl) (by kernel_rfl) (by decide) (by kernel_rfl)).congr λ xs=>(eq k xs).symm
theorem vr:vT Try.prog 32:=λ args w=>by kernel_rfl
end f32
namespace f73
noncomputable def aC:Code:=Try.f73.body.getD .skip
abbrev sig:List PT:=[(true,FF),(false,(.int .i64))]
abbrev rs:List RT:=[.new (.int .i64)]
abbrev ts:List RV:=[.tmp 4]
abbrev S:=St->Option (eP rs)
def Y:dY:=[(3,(.int .i64))]
noncomputable def E (k:Nat):Env:=[]
def A:oK:={ loops:=[(0,{ Bc:=[(5,23,(.int .i64))],slots:=[(1,.id),(5,.id),(9,.val false Dd),(10,.id),(11,.id)],keys:=[(23,[])] })],conds:=[(6,{ Bc:=[(5,23,(.int .i64))],slots:=[(1,.id),(5,.id),(9,.val false Dd),(10,.id),(11,.id)],keys:=[(23,[])] })] }
def U:fD:=[(0,[.c 116 0,.r 0,.b 0,.c 15 0]),(25,[.b 1,.c 935 0,.r 0,.b 0,.c 15 0])]
noncomputable abbrev fz (k:Nat) (R:Nat->S) (q:Nat):S:=cx T Y (E k) A k (zf T rs ts) aC U R q
noncomputable abbrev k5 (k:Nat) (rc:List Nat) (R:Nat->S):Nat->S:=ext T Y (E k) A k (zf T rs ts) aC U rc R
noncomputable abbrev zv (k:Nat) (R:Nat->S) (i n:Nat):S:=lx T Y (E k) A k (zf T rs ts) aC U R i n
noncomputable abbrev dc (k:Nat) (rc:List Nat) (G:Nat->S) (F:List PF):S:=λ σ=>ap T Y (E k) A k (zf T rs ts) (cD T Y (E k) A k (zf T rs ts) aC U rc G 9999 F) .nx σ
def DB (FL:ur) (x1 Dq z1:Int) (hU:wv):St:=C9 26 80 [(1,aI x1),(5,aO 23),(9,aV Dd hU),(10,aI Dq),(11,aI z1)] [(23,.vec (.int .i64) FL)]
abbrev vi:=ur->Int->Int->Int->wv->Option (ur×Unit)
abbrev uf (R:S):vi:=(λ FL x1 Dq z1 hU=>R (DB FL x1 Dq z1 hU))
def ID (FL:ur) (x1 Dq z1:Int) (hU:wv):St:=C9 26 80 [(1,aI x1),(5,aO 23),(9,aV Dd hU),(10,aI Dq),(11,aI z1)] [(23,.vec (.int .i64) FL)]
abbrev FD:=ur->Int->Int->Int->wv->Option (ur×Unit)
abbrev EG (R:S):FD:=(λ FL x1 Dq z1 hU=>R (ID FL x1 Dq z1 hU))
def sk (k:Nat) (xx:vi) (a0:Df) (a1:Int):Option (ur×Unit):=(xx ([]:List Int) a1 (a0.2.1.length:Int) 0 a0.2.1)
def u0 (k:Nat) (Ge:FD) (FL:ur) (x1 Dq z1:Int) (hU:wv):Option (ur×Unit):=(if z1 <Dq then (if 0<=z1 then (if z1 <(hU.length:Int) then (if ((hU.getD (z1).toNat (0,(0,(0,0)))).1)=x1 then (if (FL.length+1) * 8<=140737488355328 then (Ge (FL++[z1]) x1 Dq z1 hU) else none) else (Ge FL x1 Dq z1 hU)) else none) else none) else some (FL,()))
def E1 (k:Nat) (xx:vi) (FL:ur) (x1 Dq z1:Int) (hU:wv):Option (ur×Unit):=(xx FL x1 Dq (Ar (z1+1)) hU)
theorem HZ (k:Nat) (G:Nat->S):EG (dc k [0] G (U.at 25))=E1 k (uf (G 0)):=by kernel_rfl
def mm (k:Nat) (Dp:vi):FD:=E1 k Dp
theorem HY (k:Nat) (R:Nat->S):EG (fz k R 25)=mm k (uf (R 0)):=
 Eq.trans (congrArg EG (BW [0] (by kernel_rfl))) ((HZ k _).trans (by kernel_rfl))
theorem Dz (k:Nat) (G:Nat->S):uf (dc k [0] G (U.at 0))=u0 k (EG (G 25)):=by kernel_rfl
def l0 (k:Nat):Nat->vi
 | 0=>λ _ _ _ _ _=>none
 |n+1=>u0 k (mm k (l0 k n))
noncomputable abbrev wo (k:Nat) (R:Nat->S) (n:Nat):Nat->S:=up R 0 (zv k R 0 n)
theorem De (k:Nat) (R:Nat->S):∀n,uf (zv k R 0 n)=l0 k n
 | 0=>by kernel_rfl
 |n+1=>
  Eq.trans (congrArg uf (CE [] (by kernel_rfl))) ((Dz k _).trans (Eq.trans (b:=u0 k (EG (fz k (wo k R n) 25))) (by kernel_rfl) (by rw [HY k (wo k R n),(show uf (wo k R n 0)=_ from De k R n)]<;>kernel_rfl)))
theorem uo (k:Nat) (G:Nat->S) (xs:DL sig):dc k [] G [.c 1 0] (uJ 26 80 sig xs)=sk k (uf (G 0)) xs.1 xs.2.1:=by kernel_rfl
end f73
def f73 (k:Nat) (a0:Df) (a1:Int):Option (ur×Unit):=f73.sk k (f73.l0 k k) a0 a1
namespace f73
theorem eq (k:Nat) (xs:DL sig):den T Y (E k) A k aC 0 (uJ 26 80 sig xs) (zf T rs ts)=f73 k xs.1 xs.2.1:=
 Eq.trans (BZ (R:=(λ _ _=>none)) (tb:=U)) ((uo k _ xs).trans (Eq.trans (b:=sk k (uf (zv k (λ _ _=>none) 0 k)) xs.1 xs.2.1) (by kernel_rfl) (by rw [De k (λ _ _=>none) k]<;>kernel_rfl)))
noncomputable def aR (k:Nat):oL:=⟨sig,rs,λ xs=>f73 k xs.1 xs.2.1⟩
theorem ok (k:Nat):cz Try.prog 73 sig rs (λ xs=>f73 k xs.1 xs.2.1):=
 (Au (k:=k) (A:=A) (T:=T) (Y:=Y) (E:=E k) (M:=80) (ts:=ts) Dn trivial trivial mixed (f:=73) (fn:=Try.f73) (c:=aC) (by kernel_rfl) (by kernel_rfl) (by kernel_rfl) (by decide) (by kernel_rfl)).congr λ xs=>(eq k xs).symm
theorem vr:vT Try.prog 73:=λ args w=>by kernel_rfl
end f73
namespace f193
noncomputable def aC:Code:=Try.f193.body.getD .skip
abbrev sig:List PT:=[(false,(.int .i64))]
abbrev rs:List RT:=[.d false .bool]
abbrev ts:List RV:=[.tmp 2]
abbrev S:=St->Option (eP rs)
def Y:dY:=[]
noncomputable def E (k:Nat):Env:=[]
def A:oK:={}
def U:fD:=[]
noncomputable abbrev dc (k:Nat) (rc:List Nat) (G:Nat->S) (F:List PF):S:=λ σ=>ap T Y (E k) A k (zf T rs ts) (cD T Y (E k) A k (zf T rs ts) aC U rc G 9999 F) .nx σ
def sk (k:Nat) (a0:Int):Option (Bool×Unit):=some (decide (¬(a0=a0)),())
theorem uo (k:Nat) (G:Nat->S) (xs:DL sig):dc k [] G [.c 1 0] (uJ 6 32 sig xs)=sk k xs.1:=by kernel_rfl
end f193
def f193 (k:Nat) (a0:Int):Option (Bool×Unit):=f193.sk k a0
namespace f193
theorem eq (k:Nat) (xs:DL sig):den T Y (E k) A k aC 0 (uJ 6 32 sig xs) (zf T rs ts)=f193 k xs.1:=
 Eq.trans (BZ (R:=(λ _ _=>none)) (tb:=U)) ((uo k _ xs).trans (by kernel_rfl))
noncomputable def aR (k:Nat):oL:=⟨sig,rs,λ xs=>f193 k xs.1⟩
theorem ok (k:Nat):cz Try.prog 193 sig rs (λ xs=>f193 k xs.1):=
 (Au (k:=k) (A:=A) (T:=T) (Y:=Y) (E:=E k) (M:=32) (ts:=ts) Dn trivial trivial mixed (f:=193) (fn:=Try.f193) (c:=aC) (by kernel_rfl) (by kernel_rfl) (by kernel_rfl) (by decide) (by kernel_rfl)).congr λ xs=>(eq k xs).symm
theorem vr:vT Try.prog 193:=λ args w=>by kernel_rfl
end f193
namespace f156
noncomputable def aC:Code:=Try.f156.body.getD .skip
abbrev sig:List PT:=[(false,(.int .i64)),(false,(.int .i64))]
abbrev rs:List RT:=[.d false (.int .i64)]
abbrev ts:List RV:=[.tmp 4]
abbrev S:=St->Option (eP rs)
def Y:dY:=[]
noncomputable def E (k:Nat):Env:=[(193,.c (f193.aR k))]
def A:oK:={}
def U:fD:=[]
noncomputable abbrev dc (k:Nat) (rc:List Nat) (G:Nat->S) (F:List PF):S:=λ σ=>ap T Y (E k) A k (zf T rs ts) (cD T Y (E k) A k (zf T rs ts) aC U rc G 9999 F) .nx σ
def sk (k:Nat) (a0 a1:Int):Option (Int×Unit):=((f193 k a0).bind λ r1=>((f193 k a1).bind λ r2=>(if r1.1=true then (if r2.1=true then some (0,()) else some ((-1),())) else (if r2.1=true then some (1,()) else (if a0 <a1 then some ((-1),()) else (if a1 <a0 then some (1,()) else some (0,())))))))
theorem uo (k:Nat) (G:Nat->S) (xs:DL sig):dc k [] G [.c 1 0] (uJ 20 64 sig xs)=sk k xs.1 xs.2.1:=by kernel_rfl
end f156
def f156 (k:Nat) (a0 a1:Int):Option (Int×Unit):=f156.sk k a0 a1
namespace f156
theorem eq (k:Nat) (xs:DL sig):den T Y (E k) A k aC 0 (uJ 20 64 sig xs) (zf T rs ts)=f156 k xs.1 xs.2.1:=
 Eq.trans (BZ (R:=(λ _ _=>none)) (tb:=U)) ((uo k _ xs).trans (by kernel_rfl))
noncomputable def aR (k:Nat):oL:=⟨sig,rs,λ xs=>f156 k xs.1 xs.2.1⟩
theorem ok (k:Nat):cz Try.prog 156 sig rs (λ xs=>f156 k xs.1 xs.2.1):=
 (Au (k:=k) (A:=A) (T:=T) (Y:=Y) (E:=E k) (M:=64) (ts:=ts) Dn ⟨f193.ok k,trivial⟩ ⟨f193.vr,trivial⟩ mixed (f:=156) (fn:=Try.f156) (c:=aC) (by kernel_rfl) (by kernel_rfl) (by kernel_rfl) (by decide) (by kernel_rfl)).congr λ xs=>(eq k xs).symm
theorem vr:vT Try.prog 156:=λ args w=>by kernel_rfl
end f156
namespace f110
noncomputable def aC:Code:=Try.f110.body.getD .skip
abbrev sig:List PT:=[(false,Ee),(false,Ee)]
abbrev rs:List RT:=[.d false (.int .i64)]
abbrev ts:List RV:=[.tmp 4]
abbrev S:=St->Option (eP rs)
def Y:dY:=[]
noncomputable def E (k:Nat):Env:=[(156,.c (f156.aR k))]
def A:oK:={ loops:=[(0,{ slots:=[(0,.val false (.int .i64)),(1,.val false (.int .i64)),(9,.val false (.int .i64)),(10,.id),(11,.id)] })] }
def U:fD:=[(0,[.c 52 0,.r 0,.b 0,.c 7 0])]
noncomputable abbrev fz (k:Nat) (R:Nat->S) (q:Nat):S:=cx T Y (E k) A k (zf T rs ts) aC U R q
noncomputable abbrev k5 (k:Nat) (rc:List Nat) (R:Nat->S):Nat->S:=ext T Y (E k) A k (zf T rs ts) aC U rc R
noncomputable abbrev zv (k:Nat) (R:Nat->S) (i n:Nat):S:=lx T Y (E k) A k (zf T rs ts) aC U R i n
noncomputable abbrev dc (k:Nat) (rc:List Nat) (G:Nat->S) (F:List PF):S:=λ σ=>ap T Y (E k) A k (zf T rs ts) (cD T Y (E k) A k (zf T rs ts) aC U rc G 9999 F) .nx σ
def DB (x0 x1:ur) (Dq z1:Int):St:=C9 36 112 [(0,aV (.int .i64) x0),(1,aV (.int .i64) x1),(9,aV (.int .i64) x0),(10,aI Dq),(11,aI z1)] []
abbrev vi:=ur->ur->Int->Int->Option (Int×Unit)
abbrev uf (R:S):vi:=(λ x0 x1 Dq z1=>R (DB x0 x1 Dq z1))
def sk (k:Nat) (xx:vi) (a0 a1:ur):Option (Int×Unit):=(xx a0 a1 (a0.length:Int) 0)
def u0 (k:Nat) (xx:vi) (x0 x1:ur) (Dq z1:Int):Option (Int×Unit):=(if z1 <Dq then (if 0<=z1 then (if z1 <(x0.length:Int) then (if (x1.length:Int)<=z1 then some (1,()) else (if 0<=z1 then (if z1 <(x1.length:Int) then ((f156 k (x0.getD (z1).toNat 0) (x1.getD (z1).toNat 0)).bind λ r1=>(if ¬(r1.1=0) then some (r1.1,()) else (xx x0 x1 Dq (Ar (z1+1))))) else none) else none)) else none) else none) else (if (x0.length:Int) <(x1.length:Int) then some ((-1),()) else some (0,())))
theorem Dz (k:Nat) (G:Nat->S):uf (dc k [0] G (U.at 0))=u0 k (uf (G 0)):=by kernel_rfl
def l0 (k:Nat):Nat->vi
 | 0=>λ _ _ _ _=>none
 |n+1=>u0 k (l0 k n)
noncomputable abbrev wo (k:Nat) (R:Nat->S) (n:Nat):Nat->S:=up R 0 (zv k R 0 n)
theorem De (k:Nat) (R:Nat->S):∀n,uf (zv k R 0 n)=l0 k n
 | 0=>by kernel_rfl
 |n+1=>
  Eq.trans (congrArg uf (CE [] (by kernel_rfl))) ((Dz k _).trans (Eq.trans (b:=u0 k (uf ((wo k R n) 0))) (by kernel_rfl) (by rw [(show uf (wo k R n 0)=_ from De k R n)]<;>kernel_rfl)))
theorem uo (k:Nat) (G:Nat->S) (xs:DL sig):dc k [] G [.c 1 0] (uJ 36 112 sig xs)=sk k (uf (G 0)) xs.1 xs.2.1:=by kernel_rfl
end f110
def f110 (k:Nat) (a0 a1:ur):Option (Int×Unit):=f110.sk k (f110.l0 k k) a0 a1
namespace f110
theorem eq (k:Nat) (xs:DL sig):den T Y (E k) A k aC 0 (uJ 36 112 sig xs) (zf T rs ts)=f110 k xs.1 xs.2.1:=
 Eq.trans (BZ (R:=(λ _ _=>none)) (tb:=U)) ((uo k _ xs).trans (Eq.trans (b:=sk k (uf (zv k (λ _ _=>none) 0 k)) xs.1 xs.2.1) (by kernel_rfl) (by rw [De k (λ _ _=>none) k]<;>kernel_rfl)))
noncomputable def aR (k:Nat):oL:=⟨sig,rs,λ xs=>f110 k xs.1 xs.2.1⟩
theorem ok (k:Nat):cz Try.prog 110 sig rs (λ xs=>f110 k xs.1 xs.2.1):=
 (Au (k:=k) (A:=A) (T:=T) (Y:=Y) (E:=E k) (M:=112) (ts:=ts) Dn ⟨f156.ok k,trivial⟩ ⟨f156.vr,trivial⟩ mixed (f:=110) (fn:=Try.f110) (c:=aC) (by kernel_rfl) (by kernel_rfl) (by kernel_rfl) (by decide) (by kernel_rfl)).congr λ xs=>(eq k xs).symm
theorem vr:vT Try.prog 110:=λ args w=>by kernel_rfl
end f110
namespace f182
noncomputable def aC:Code:=Try.f182.body.getD .skip
abbrev sig:List PT:=[(true,DW),(true,DW)]
abbrev rs:List RT:=[.d false (.int .i64)]
abbrev ts:List RV:=[.tmp 4]
abbrev S:=St->Option (eP rs)
def Y:dY:=[(3,(.int .i64))]
noncomputable def E (k:Nat):Env:=[(110,.c (f110.aR k))]
def A:oK:={}
def U:fD:=[]
noncomputable abbrev dc (k:Nat) (rc:List Nat) (G:Nat->S) (F:List PF):S:=λ σ=>ap T Y (E k) A k (zf T rs ts) (cD T Y (E k) A k (zf T rs ts) aC U rc G 9999 F) .nx σ
def sk (k:Nat) (a0 a1:DQ):Option (Int×Unit):=((f110 k ([a0.2.1,a0.2.2,(a0.1.length:Int)]) ([a1.2.1,a1.2.2,(a1.1.length:Int)])).bind λ r1=>(if ¬(r1.1=0) then some (r1.1,()) else ((f110 k a0.1 a1.1).bind λ r2=>some (r2.1,()))))
theorem uo (k:Nat) (G:Nat->S) (xs:DL sig):dc k [] G [.c 1 0] (uJ 31 96 sig xs)=sk k xs.1 xs.2.1:=by kernel_rfl
end f182
def f182 (k:Nat) (a0 a1:DQ):Option (Int×Unit):=f182.sk k a0 a1
namespace f182
theorem eq (k:Nat) (xs:DL sig):den T Y (E k) A k aC 0 (uJ 31 96 sig xs) (zf T rs ts)=f182 k xs.1 xs.2.1:=
 Eq.trans (BZ (R:=(λ _ _=>none)) (tb:=U)) ((uo k _ xs).trans (by kernel_rfl))
noncomputable def aR (k:Nat):oL:=⟨sig,rs,λ xs=>f182 k xs.1 xs.2.1⟩
theorem ok (k:Nat):cz Try.prog 182 sig rs (λ xs=>f182 k xs.1 xs.2.1):=
 (Au (k:=k) (A:=A) (T:=T) (Y:=Y) (E:=E k) (M:=96) (ts:=ts) Dn ⟨f110.ok k,trivial⟩ ⟨f110.vr,trivial⟩ mixed (f:=182) (fn:=Try.f182) (c:=aC) (by kernel_rfl) (by kernel_rfl) (by kernel_rfl) (by decide) (by kernel_rfl)).congr λ xs=>(eq k xs).symm
theorem vr:vT Try.prog 182:=λ args w=>by kernel_rfl
end f182
namespace f147
noncomputable def aC:Code:=Try.f147.body.getD .skip
abbrev sig:List PT:=[]
abbrev rs:List RT:=[.d true Fx]
abbrev ts:List RV:=[.cell 2 224]
abbrev ls:List LO:=[.box [.d FF,.d Ee,.o,.o],.rows DW,.row Fx]
abbrev S:=St->Option (cu ls×eP rs)
def Y:dY:=[(1000067,Fx)]
noncomputable def E (k:Nat):Env:=[(182,.c (f182.aR k))]
def A:oK:={ loops:=[(0,{ slots:=[(0,.id),(2,.id),(3,.id),(10,.id),(11,.id),(12,.id)],keys:=[(0,[.val false uv,.val false Dd,.val false uv,.val false (.int .i64),.id,.id]),(1,[]),(2,[]),(222,[])] })],conds:=[(6,{ slots:=[(0,.id),(2,.id),(3,.id),(10,.id),(11,.id),(12,.id)],keys:=[(0,[.val false uv,.val false Dd,.val false uv,.val false (.int .i64),.id,.id]),(1,[]),(2,[]),(222,[])] })] }
def U:fD:=[(0,[.c 116 0,.r 0,.b 0,.c 15 0]),(25,[.b 1,.c 935 0,.r 0,.b 0,.c 15 0])]
noncomputable abbrev fz (k:Nat) (R:Nat->S) (q:Nat):S:=cx T Y (E k) A k (yp T false ls rs ts) aC U R q
noncomputable abbrev k5 (k:Nat) (rc:List Nat) (R:Nat->S):Nat->S:=ext T Y (E k) A k (yp T false ls rs ts) aC U rc R
noncomputable abbrev zv (k:Nat) (R:Nat->S) (i n:Nat):S:=lx T Y (E k) A k (yp T false ls rs ts) aC U R i n
noncomputable abbrev dc (k:Nat) (rc:List Nat) (G:Nat->S) (F:List PF):S:=λ σ=>ap T Y (E k) A k (yp T false ls rs ts) (cD T Y (E k) A k (yp T false ls rs ts) aC U rc G 9999 F) .nx σ
def DB (Dr:sv) (Dx:wv) (DD:sv) (Dy:ur) (y1:Fc) (y2:Fb) (z1 Dw dr:Int):St:=C9 71 225 [(0,aP 0),(2,aP 222),(3,aI dr),(10,aO 2),(11,aI z1),(12,aI Dw)] [(0,.box [cV uv Dr,cV Dd Dx,cV uv DD,cV (.int .i64) Dy,.own 1,.own 2]),(1,.rows DW y1 none .bool 0 []),(2,.vec Fx y2),(222,.box [cI 0,.nil,cI 0,cI 0])]
abbrev vi:=sv->wv->sv->ur->Fc->Fb->Int->Int->Int->Option (((Df×ur×Unit)×Fp×IS×Unit)×((Int×DQ)×Unit))
abbrev uf (R:S):vi:=(λ Dr Dx DD Dy y1 y2 z1 Dw dr=>R (DB Dr Dx DD Dy y1 y2 z1 Dw dr))
def ID (Dr:sv) (Dx:wv) (DD:sv) (Dy:ur) (y1:Fc) (y2:Fb) (z1 Dw dr:Int):St:=C9 71 225 [(0,aP 0),(2,aP 222),(3,aI dr),(10,aO 2),(11,aI z1),(12,aI Dw)] [(0,.box [cV uv Dr,cV Dd Dx,cV uv DD,cV (.int .i64) Dy,.own 1,.own 2]),(1,.rows DW y1 none .bool 0 []),(2,.vec Fx y2),(222,.box [cI 0,.nil,cI 0,cI 0])]
abbrev FD:=sv->wv->sv->ur->Fc->Fb->Int->Int->Int->Option (((Df×ur×Unit)×Fp×IS×Unit)×((Int×DQ)×Unit))
abbrev EG (R:S):FD:=(λ Dr Dx DD Dy y1 y2 z1 Dw dr=>R (ID Dr Dx DD Dy y1 y2 z1 Dw dr))
def sk (k:Nat) (xx:vi) (l0:Df) (l1:ur) (l2:HV) (l3:EU):Option (((Df×ur×Unit)×Fp×IS×Unit)×((Int×DQ)×Unit)):=(xx l0.1 l0.2.1 l0.2.2 l1 l2 l3 (l3.length:Int) 0 0)
def u0 (k:Nat) (Ge:FD) (Dr:sv) (Dx:wv) (DD:sv) (Dy:ur) (y1:Fc) (y2:Fb) (z1 Dw dr:Int):Option (((Df×ur×Unit)×Fp×IS×Unit)×((Int×DQ)×Unit)):=(if Dw <z1 then (if 0<=Dw then (if Dw <(y2.length:Int) then (if 0<=dr then (if dr <(y2.length:Int) then ((f182 k (((y2.getD ((Dw).toNat) (0,([],(0,0)))).2).1,((((y2.getD ((Dw).toNat) (0,([],(0,0)))).2).2).1,(((y2.getD ((Dw).toNat) (0,([],(0,0)))).2).2).2)) (((y2.getD ((dr).toNat) (0,([],(0,0)))).2).1,((((y2.getD ((dr).toNat) (0,([],(0,0)))).2).2).1,(((y2.getD ((dr).toNat) (0,([],(0,0)))).2).2).2))).bind λ r1=>(if r1.1 <0 then (Ge Dr Dx DD Dy y1 y2 z1 Dw Dw) else (Ge Dr Dx DD Dy y1 y2 z1 Dw dr))) else none) else none) else none) else none) else (if 0<=dr then (if dr <(y2.length:Int) then (if 0<=(Ar ((y2.length:Int) - 1)) then (if (Ar ((y2.length:Int) - 1)) <(y2.length:Int) then (if 0<=dr then (if dr <(y2.length:Int) then (if 0<=(Ar (((y2.set ((dr).toNat) ((y2.getD ((Ar ((y2.length:Int) - 1)).toNat) (0,([],(0,0)))).1,(((y2.getD ((Ar ((y2.length:Int) - 1)).toNat) (0,([],(0,0)))).2).1,((((y2.getD ((Ar ((y2.length:Int) - 1)).toNat) (0,([],(0,0)))).2).2).1,(((y2.getD ((Ar ((y2.length:Int) - 1)).toNat) (0,([],(0,0)))).2).2).2)))).length:Int) - 1)) then (if (Ar (((y2.set ((dr).toNat) ((y2.getD ((Ar ((y2.length:Int) - 1)).toNat) (0,([],(0,0)))).1,(((y2.getD ((Ar ((y2.length:Int) - 1)).toNat) (0,([],(0,0)))).2).1,((((y2.getD ((Ar ((y2.length:Int) - 1)).toNat) (0,([],(0,0)))).2).2).1,(((y2.getD ((Ar ((y2.length:Int) - 1)).toNat) (0,([],(0,0)))).2).2).2)))).length:Int) - 1))<=((y2.set ((dr).toNat) ((y2.getD ((Ar ((y2.length:Int) - 1)).toNat) (0,([],(0,0)))).1,(((y2.getD ((Ar ((y2.length:Int) - 1)).toNat) (0,([],(0,0)))).2).1,((((y2.getD ((Ar ((y2.length:Int) - 1)).toNat) (0,([],(0,0)))).2).2).1,(((y2.getD ((Ar ((y2.length:Int) - 1)).toNat) (0,([],(0,0)))).2).2).2)))).length:Int) then some ((((Dr,(Dx,DD)),Dy,()),(y1,(((y2.set ((dr).toNat) ((y2.getD ((Ar ((y2.length:Int) - 1)).toNat) (0,([],(0,0)))).1,(((y2.getD ((Ar ((y2.length:Int) - 1)).toNat) (0,([],(0,0)))).2).1,((((y2.getD ((Ar ((y2.length:Int) - 1)).toNat) (0,([],(0,0)))).2).2).1,(((y2.getD ((Ar ((y2.length:Int) - 1)).toNat) (0,([],(0,0)))).2).2).2)))).take (Ar (((y2.set ((dr).toNat) ((y2.getD ((Ar ((y2.length:Int) - 1)).toNat) (0,([],(0,0)))).1,(((y2.getD ((Ar ((y2.length:Int) - 1)).toNat) (0,([],(0,0)))).2).1,((((y2.getD ((Ar ((y2.length:Int) - 1)).toNat) (0,([],(0,0)))).2).2).1,(((y2.getD ((Ar ((y2.length:Int) - 1)).toNat) (0,([],(0,0)))).2).2).2)))).length:Int) - 1)).toNat),()))),(((y2.getD ((dr).toNat) (0,([],(0,0)))).1,(((y2.getD ((dr).toNat) (0,([],(0,0)))).2).1,((((y2.getD ((dr).toNat) (0,([],(0,0)))).2).2).1,(((y2.getD ((dr).toNat) (0,([],(0,0)))).2).2).2))),())) else none) else none) else none) else none) else none) else none) else none) else none))
def E1 (k:Nat) (xx:vi) (Dr:sv) (Dx:wv) (DD:sv) (Dy:ur) (y1:Fc) (y2:Fb) (z1 Dw dr:Int):Option (((Df×ur×Unit)×Fp×IS×Unit)×((Int×DQ)×Unit)):=(xx Dr Dx DD Dy y1 y2 z1 (Ar (Dw+1)) dr)
theorem HZ (k:Nat) (G:Nat->S):EG (dc k [0] G (U.at 25))=E1 k (uf (G 0)):=by kernel_rfl
def mm (k:Nat) (Dp:vi):FD:=E1 k Dp
theorem HY (k:Nat) (R:Nat->S):EG (fz k R 25)=mm k (uf (R 0)):=
 Eq.trans (congrArg EG (BW [0] (by kernel_rfl))) ((HZ k _).trans (by kernel_rfl))
theorem Dz (k:Nat) (G:Nat->S):uf (dc k [0] G (U.at 0))=u0 k (EG (G 25)):=by kernel_rfl
def l0 (k:Nat):Nat->vi
 | 0=>λ _ _ _ _ _ _ _ _ _=>none
 |n+1=>u0 k (mm k (l0 k n))
noncomputable abbrev wo (k:Nat) (R:Nat->S) (n:Nat):Nat->S:=up R 0 (zv k R 0 n)
theorem De (k:Nat) (R:Nat->S):∀n,uf (zv k R 0 n)=l0 k n
 | 0=>by kernel_rfl
 |n+1=>
  Eq.trans (congrArg uf (CE [] (by kernel_rfl))) ((Dz k _).trans (Eq.trans (b:=u0 k (EG (fz k (wo k R n) 25))) (by kernel_rfl) (by rw [HY k (wo k R n),(show uf (wo k R n 0)=_ from De k R n)]<;>kernel_rfl)))
theorem uo (k:Nat) (G:Nat->S) (x:cu ls) (xs:DL sig):dc k [] G [.c 1 0] (gR 71 225 0 ls x sig xs)=sk k (uf (G 0)) x.1.1 x.1.2.1 x.2.1 x.2.2.1:=by kernel_rfl
end f147
def f147 (k:Nat) (l0:Df) (l1:ur) (l2:HV) (l3:EU):Option (((Df×ur×Unit)×Fp×IS×Unit)×((Int×DQ)×Unit)):=f147.sk k (f147.l0 k k) l0 l1 l2 l3
namespace f147
theorem eq (k:Nat) (x:cu ls) (xs:DL sig):den T Y (E k) A k aC 0 (gR 71 225 0 ls x sig xs) (yp T false ls rs ts)=f147 k x.1.1 x.1.2.1 x.2.1 x.2.2.1:=
 Eq.trans (BZ (R:=(λ _ _=>none)) (tb:=U)) ((uo k _ x xs).trans (Eq.trans (b:=sk k (uf (zv k (λ _ _=>none) 0 k)) x.1.1 x.1.2.1 x.2.1 x.2.2.1) (by kernel_rfl) (by rw [De k (λ _ _=>none) k]<;>kernel_rfl)))
noncomputable def aR (k:Nat):kG:=⟨0,false,ls,sig,rs,λ x xs=>f147 k x.1.1 x.1.2.1 x.2.1 x.2.2.1⟩
theorem ok (k:Nat):gT Try.prog 147 0 false ls sig rs (λ x xs=>f147 k x.1.1 x.1.2.1 x.2.1 x.2.2.1):=
 (Av (k:=k) (A:=A) (T:=T) (Y:=Y) (E:=E k) (M:=225) (ts:=ts) Dn ⟨f182.ok k,trivial⟩ ⟨f182.vr,trivial⟩ mixed (f:=147) (fn:=Try.f147) (c:=aC) (by kernel_rfl) (by kernel_rfl) (by kernel_rfl) (by decide) (by kernel_rfl) (by decide)).congr λ x xs=>(eq k x xs).symm
theorem vr:vT Try.prog 147:=λ args w=>by kernel_rfl
end f147
namespace f48
noncomputable def aC:Code:=Try.f48.body.getD .skip
abbrev sig:List PT:=[(true,uv),(true,uv)]
abbrev rs:List RT:=[.d false .bool]
abbrev ts:List RV:=[.tmp 4]
abbrev S:=St->Option (eP rs)
def Y:dY:=[]
noncomputable def E (k:Nat):Env:=[]
def A:oK:={ qA:=[(1,{ slots:=[(4,.bool)] })] }
def U:fD:=[(7,[.c 7 0])]
noncomputable abbrev fz (k:Nat) (R:Nat->S) (q:Nat):S:=cx T Y (E k) A k (zf T rs ts) aC U R q
noncomputable abbrev k5 (k:Nat) (rc:List Nat) (R:Nat->S):Nat->S:=ext T Y (E k) A k (zf T rs ts) aC U rc R
noncomputable abbrev dc (k:Nat) (rc:List Nat) (G:Nat->S) (F:List PF):S:=λ σ=>ap T Y (E k) A k (zf T rs ts) (cD T Y (E k) A k (zf T rs ts) aC U rc G 9999 F) .nx σ
def Fh (k7:Bool):St:=C9 17 64 [(4,aB k7)] []
abbrev D4:=Bool->Option (Bool×Unit)
abbrev DA (R:S):D4:=(λ k7=>R (Fh k7))
def sk (k:Nat) (Ef:D4) (a0 a1:(Int×Int)):Option (Bool×Unit):=(if a0.1<=a1.1 then (Ef (decide (a0.2<=a1.2))) else (Ef false))
def DZ (k:Nat) (k7:Bool):Option (Bool×Unit):=some (decide (k7=true),())
theorem Fg (k:Nat) (G:Nat->S):DA (dc k [] G (U.at 7))=DZ k:=by kernel_rfl
def r1 (k:Nat):D4:=DZ k
theorem Ff (k:Nat) (R:Nat->S):DA (fz k R 7)=r1 k:=
 Eq.trans (congrArg DA (BW [] (by kernel_rfl))) ((Fg k _).trans (by kernel_rfl))
theorem uo (k:Nat) (G:Nat->S) (xs:DL sig):dc k [] G [.c 1 0] (uJ 17 64 sig xs)=sk k (DA (G 7)) xs.1 xs.2.1:=by kernel_rfl
end f48
def f48 (k:Nat) (a0 a1:(Int×Int)):Option (Bool×Unit):=f48.sk k (f48.r1 k) a0 a1
namespace f48
theorem eq (k:Nat) (xs:DL sig):den T Y (E k) A k aC 0 (uJ 17 64 sig xs) (zf T rs ts)=f48 k xs.1 xs.2.1:=
 Eq.trans (BZ (R:=(λ _ _=>none)) (tb:=U)) ((uo k _ xs).trans (Eq.trans (b:=sk k (DA (fz k (λ _ _=>none) 7)) xs.1 xs.2.1) (by kernel_rfl) (by rw [Ff k (λ _ _=>none)]<;>kernel_rfl)))
noncomputable def aR (k:Nat):oL:=⟨sig,rs,λ xs=>f48 k xs.1 xs.2.1⟩
theorem ok (k:Nat):cz Try.prog 48 sig rs (λ xs=>f48 k xs.1 xs.2.1):=
 (Au (k:=k) (A:=A) (T:=T) (Y:=Y) (E:=E k) (M:=64) (ts:=ts) Dn trivial trivial mixed (f:=48) (fn:=Try.f48) (c:=aC) (by kernel_rfl) (by kernel_rfl) (by kernel_rfl) (by decide) (by kernel_rfl)).congr λ xs=>(eq k xs).symm
theorem vr:vT Try.prog 48:=λ args w=>by kernel_rfl
end f48
namespace f183
noncomputable def aC:Code:=Try.f183.body.getD .skip
abbrev sig:List PT:=[(true,DW),(false,(.ptr DW))]
abbrev rs:List RT:=[.d false .bool]
abbrev ts:List RV:=[.tmp 3]
abbrev S:=St->Option (eP rs)
def Y:dY:=[]
noncomputable def E (k:Nat):Env:=[(48,.c (f48.aR k))]
def A:oK:={}
def U:fD:=[]
noncomputable abbrev dc (k:Nat) (rc:List Nat) (G:Nat->S) (F:List PF):S:=λ σ=>ap T Y (E k) A k (zf T rs ts) (cD T Y (E k) A k (zf T rs ts) aC U rc G 9999 F) .nx σ
def sk (k:Nat) (a0 a1:DQ):Option (Bool×Unit):=((f48 k (a0.2.1,a0.2.2) (a1.2.1,a1.2.2)).bind λ r1=>some (decide (r1.1=true),()))
theorem uo (k:Nat) (G:Nat->S) (xs:DL sig):dc k [] G [.c 1 0] (uJ 15 48 sig xs)=sk k xs.1 xs.2.1:=by kernel_rfl
end f183
def f183 (k:Nat) (a0 a1:DQ):Option (Bool×Unit):=f183.sk k a0 a1
namespace f183
theorem eq (k:Nat) (xs:DL sig):den T Y (E k) A k aC 0 (uJ 15 48 sig xs) (zf T rs ts)=f183 k xs.1 xs.2.1:=
 Eq.trans (BZ (R:=(λ _ _=>none)) (tb:=U)) ((uo k _ xs).trans (by kernel_rfl))
noncomputable def aR (k:Nat):oL:=⟨sig,rs,λ xs=>f183 k xs.1 xs.2.1⟩
theorem ok (k:Nat):cz Try.prog 183 sig rs (λ xs=>f183 k xs.1 xs.2.1):=
 (Au (k:=k) (A:=A) (T:=T) (Y:=Y) (E:=E k) (M:=48) (ts:=ts) Dn ⟨f48.ok k,trivial⟩ ⟨f48.vr,trivial⟩ mixed (f:=183) (fn:=Try.f183) (c:=aC) (by kernel_rfl) (by kernel_rfl) (by kernel_rfl) (by decide) (by kernel_rfl)).congr λ xs=>(eq k xs).symm
theorem vr:vT Try.prog 183:=λ args w=>by kernel_rfl
end f183
namespace f151
noncomputable def aC:Code:=Try.f151.body.getD .skip
abbrev sig:List PT:=[(false,IY),(false,JY)]
abbrev rs:List RT:=[.d false (.int .i64)]
abbrev ts:List RV:=[.tmp 4]
abbrev S:=St->Option (eP rs)
def Y:dY:=[]
noncomputable def E (k:Nat):Env:=[(183,.c (f183.aR k))]
def A:oK:={ loops:=[(0,{ slots:=[(0,.val false DW),(1,.id),(7,.id),(8,.id)] })] }
def U:fD:=[(0,[.c 52 0,.r 0,.b 0,.c 7 0])]
noncomputable abbrev fz (k:Nat) (R:Nat->S) (q:Nat):S:=cx T Y (E k) A k (zf T rs ts) aC U R q
noncomputable abbrev k5 (k:Nat) (rc:List Nat) (R:Nat->S):Nat->S:=ext T Y (E k) A k (zf T rs ts) aC U rc R
noncomputable abbrev zv (k:Nat) (R:Nat->S) (i n:Nat):S:=lx T Y (E k) A k (zf T rs ts) aC U R i n
noncomputable abbrev dc (k:Nat) (rc:List Nat) (G:Nat->S) (F:List PF):S:=λ σ=>ap T Y (E k) A k (zf T rs ts) (cD T Y (E k) A k (zf T rs ts) aC U rc G 9999 F) .nx σ
def DB (x0:ED) (x1:(ur×(Int×Int))) (gi ey:Int):St:=C9 19 64 [(0,aV DW x0),(1,.cp (.one (.dat JY x1))),(7,aI gi),(8,aI ey)] []
abbrev vi:=ED->(ur×(Int×Int))->Int->Int->Option (Int×Unit)
abbrev uf (R:S):vi:=(λ x0 x1 gi ey=>R (DB x0 x1 gi ey))
def sk (k:Nat) (xx:vi) (a0:(List DQ)) (a1:DQ):Option (Int×Unit):=(xx a0 a1 (a0.length:Int) 0)
def u0 (k:Nat) (xx:vi) (x0:ED) (x1:(ur×(Int×Int))) (gi ey:Int):Option (Int×Unit):=(if ey <gi then (if 0<=ey then (if ey <(x0.length:Int) then ((f183 k ((x0.getD (ey).toNat ([],(0,0))).1,(((x0.getD (ey).toNat ([],(0,0))).2).1,((x0.getD (ey).toNat ([],(0,0))).2).2)) x1).bind λ r1=>(if r1.1=true then some (ey,()) else (xx x0 x1 gi (Ar (ey+1))))) else none) else none) else some ((-1),()))
theorem Dz (k:Nat) (G:Nat->S):uf (dc k [0] G (U.at 0))=u0 k (uf (G 0)):=by kernel_rfl
def l0 (k:Nat):Nat->vi
 | 0=>λ _ _ _ _=>none
 |n+1=>u0 k (l0 k n)
noncomputable abbrev wo (k:Nat) (R:Nat->S) (n:Nat):Nat->S:=up R 0 (zv k R 0 n)
theorem De (k:Nat) (R:Nat->S):∀n,uf (zv k R 0 n)=l0 k n
 | 0=>by kernel_rfl
 |n+1=>
  Eq.trans (congrArg uf (CE [] (by kernel_rfl))) ((Dz k _).trans (Eq.trans (b:=u0 k (uf ((wo k R n) 0))) (by kernel_rfl) (by rw [(show uf (wo k R n 0)=_ from De k R n)]<;>kernel_rfl)))
theorem uo (k:Nat) (G:Nat->S) (xs:DL sig):dc k [] G [.c 1 0] (uJ 19 64 sig xs)=sk k (uf (G 0)) xs.1 xs.2.1:=by kernel_rfl
end f151
def f151 (k:Nat) (a0:(List DQ)) (a1:DQ):Option (Int×Unit):=f151.sk k (f151.l0 k k) a0 a1
namespace f151
theorem eq (k:Nat) (xs:DL sig):den T Y (E k) A k aC 0 (uJ 19 64 sig xs) (zf T rs ts)=f151 k xs.1 xs.2.1:=
 Eq.trans (BZ (R:=(λ _ _=>none)) (tb:=U)) ((uo k _ xs).trans (Eq.trans (b:=sk k (uf (zv k (λ _ _=>none) 0 k)) xs.1 xs.2.1) (by kernel_rfl) (by rw [De k (λ _ _=>none) k]<;>kernel_rfl)))
noncomputable def aR (k:Nat):oL:=⟨sig,rs,λ xs=>f151 k xs.1 xs.2.1⟩
theorem ok (k:Nat):cz Try.prog 151 sig rs (λ xs=>f151 k xs.1 xs.2.1):=
 (Au (k:=k) (A:=A) (T:=T) (Y:=Y) (E:=E k) (M:=64) (ts:=ts) Dn ⟨f183.ok k,trivial⟩ ⟨f183.vr,trivial⟩ mixed (f:=151) (fn:=Try.f151) (c:=aC) (by kernel_rfl) (by kernel_rfl) (by kernel_rfl) (by decide) (by kernel_rfl)).congr λ xs=>(eq k xs).symm
theorem vr:vT Try.prog 151:=λ args w=>by kernel_rfl
end f151
namespace f102
noncomputable def aC:Code:=Try.f102.body.getD .skip
abbrev sig:List PT:=[(false,IY),(false,JY)]
abbrev rs:List RT:=[.d false .bool]
abbrev ts:List RV:=[.tmp 4]
abbrev S:=St->Option (eP rs)
def Y:dY:=[]
noncomputable def E (k:Nat):Env:=[(151,.c (f151.aR k))]
def A:oK:={}
def U:fD:=[]
noncomputable abbrev dc (k:Nat) (rc:List Nat) (G:Nat->S) (F:List PF):S:=λ σ=>ap T Y (E k) A k (zf T rs ts) (cD T Y (E k) A k (zf T rs ts) aC U rc G 9999 F) .nx σ
def sk (k:Nat) (a0:(List DQ)) (a1:DQ):Option (Bool×Unit):=((f151 k a0 a1).bind λ r1=>some (decide (0<=r1.1),()))
theorem uo (k:Nat) (G:Nat->S) (xs:DL sig):dc k [] G [.c 1 0] (uJ 9 32 sig xs)=sk k xs.1 xs.2.1:=by kernel_rfl
end f102
def f102 (k:Nat) (a0:(List DQ)) (a1:DQ):Option (Bool×Unit):=f102.sk k a0 a1
namespace f102
theorem eq (k:Nat) (xs:DL sig):den T Y (E k) A k aC 0 (uJ 9 32 sig xs) (zf T rs ts)=f102 k xs.1 xs.2.1:=
 Eq.trans (BZ (R:=(λ _ _=>none)) (tb:=U)) ((uo k _ xs).trans (by kernel_rfl))
noncomputable def aR (k:Nat):oL:=⟨sig,rs,λ xs=>f102 k xs.1 xs.2.1⟩
theorem ok (k:Nat):cz Try.prog 102 sig rs (λ xs=>f102 k xs.1 xs.2.1):=
 (Au (k:=k) (A:=A) (T:=T) (Y:=Y) (E:=E k) (M:=32) (ts:=ts) Dn ⟨f151.ok k,trivial⟩ ⟨f151.vr,trivial⟩ mixed (f:=102) (fn:=Try.f102) (c:=aC) (by kernel_rfl) (by kernel_rfl) (by kernel_rfl) (by decide) (by kernel_rfl)).congr λ xs=>(eq k xs).symm
theorem vr:vT Try.prog 102:=λ args w=>by kernel_rfl
end f102
namespace f148
noncomputable def aC:Code:=Try.f148.body.getD .skip
abbrev sig:List PT:=[(false,(.ptr Mz)),(false,(.int .i64)),(true,DW)]
abbrev rs:List RT:=[.d false .bool]
abbrev ts:List RV:=[.tmp 6]
abbrev S:=St->Option (eP rs)
def Y:dY:=[]
noncomputable def E (k:Nat):Env:=[(102,.c (f102.aR k))]
def A:oK:={}
def U:fD:=[]
noncomputable abbrev dc (k:Nat) (rc:List Nat) (G:Nat->S) (F:List PF):S:=λ σ=>ap T Y (E k) A k (zf T rs ts) (cD T Y (E k) A k (zf T rs ts) aC U rc G 9999 F) .nx σ
def sk (k:Nat) (a0:KZ) (a1:Int) (a2:DQ):Option (Bool×Unit):=(if 0<=a1 then (if a1 <(a0.2.2.1.length:Int) then ((f102 k (a0.2.2.1.getD (a1).toNat []) (a2.1,(a2.2.1,a2.2.2))).bind λ r1=>some (decide (r1.1=true),())) else none) else none)
theorem uo (k:Nat) (G:Nat->S) (xs:DL sig):dc k [] G [.c 1 0] (uJ 16 48 sig xs)=sk k xs.1 xs.2.1 xs.2.2.1:=by kernel_rfl
end f148
def f148 (k:Nat) (a0:KZ) (a1:Int) (a2:DQ):Option (Bool×Unit):=f148.sk k a0 a1 a2
namespace f148
theorem eq (k:Nat) (xs:DL sig):den T Y (E k) A k aC 0 (uJ 16 48 sig xs) (zf T rs ts)=f148 k xs.1 xs.2.1 xs.2.2.1:=
 Eq.trans (BZ (R:=(λ _ _=>none)) (tb:=U)) ((uo k _ xs).trans (by kernel_rfl))
noncomputable def aR (k:Nat):oL:=⟨sig,rs,λ xs=>f148 k xs.1 xs.2.1 xs.2.2.1⟩
theorem ok (k:Nat):cz Try.prog 148 sig rs (λ xs=>f148 k xs.1 xs.2.1 xs.2.2.1):=
 (Au (k:=k) (A:=A) (T:=T) (Y:=Y) (E:=E k) (M:=48) (ts:=ts) Dn ⟨f102.ok k,trivial⟩ ⟨f102.vr,trivial⟩ mixed (f:=148) (fn:=Try.f148) (c:=aC) (by kernel_rfl) (by kernel_rfl) (by kernel_rfl) (by decide) (by kernel_rfl)).congr λ xs=>(eq k xs).symm
theorem vr:vT Try.prog 148:=λ args w=>by kernel_rfl
end f148
namespace f184
abbrev sig:List PT:=[(false,.sl true (.int .i64)),(false,.int .i64)]
abbrev rs:List RT:=[.new (.int .i64)]
end f184
def f184 (k:Nat) (a:Option ur) (a0:Int):Option (List Int×Unit):=yx (e:=(.int .i64)) 8 a a0
namespace f184
noncomputable def aR (k:Nat):oL:=⟨sig,rs,λ xs=>f184 k xs.1 xs.2.1⟩
theorem ok (k:Nat):cz Try.prog 184 sig rs (λ xs=>f184 k xs.1 xs.2.1):=BQ (e:=(.int .i64)) Try.Kc Dn rfl rfl (Nat.succ_pos _) rfl
theorem vr:vT Try.prog 184:=λ args w=>by kernel_rfl
end f184
namespace f149
noncomputable def aC:Code:=Try.f149.body.getD .skip
abbrev sig:List PT:=[(false,MA)]
abbrev rs:List RT:=[.d false Ee]
abbrev ts:List RV:=[.tmp 2]
abbrev S:=St->Option (eP rs)
def Y:dY:=[]
noncomputable def E (k:Nat):Env:=[(184,.c (f184.aR k))]
def A:oK:={ loops:=[(0,{ slots:=[(0,.val false Ee),(3,.id),(9,.val false Ee),(10,.id),(11,.id)] }),(2,{ slots:=[(6,.id),(25,.val false Ee),(26,.id),(27,.id)],keys:=[(24,[])] })],conds:=[(7,{ slots:=[(0,.val false Ee),(3,.id),(9,.val false Ee),(10,.id),(11,.id)] })] }
def U:fD:=[(0,[.c 116 0,.r 0,.b 0,.c 15 0]),(29,[.b 1,.c 935 0,.r 0,.b 0,.c 15 0]),(8,[.c 500 2,.r 2,.b 2,.c 63 0])]
noncomputable abbrev fz (k:Nat) (R:Nat->S) (q:Nat):S:=cx T Y (E k) A k (zf T rs ts) aC U R q
noncomputable abbrev k5 (k:Nat) (rc:List Nat) (R:Nat->S):Nat->S:=ext T Y (E k) A k (zf T rs ts) aC U rc R
noncomputable abbrev zv (k:Nat) (R:Nat->S) (i n:Nat):S:=lx T Y (E k) A k (zf T rs ts) aC U R i n
noncomputable abbrev dc (k:Nat) (rc:List Nat) (G:Nat->S) (F:List PF):S:=λ σ=>ap T Y (E k) A k (zf T rs ts) (cD T Y (E k) A k (zf T rs ts) aC U rc G 9999 F) .nx σ
def DB (x0:GI) (Dq z1 dr:Int):St:=C9 36 112 [(0,aV Ee x0),(3,aI dr),(9,aV Ee x0),(10,aI Dq),(11,aI z1)] []
abbrev vi:=GI->Int->Int->Int->Option (ur×Unit)
abbrev uf (R:S):vi:=(λ x0 Dq z1 dr=>R (DB x0 Dq z1 dr))
def IE (x0:GI) (Dq z1 dr:Int):St:=C9 36 112 [(0,aV Ee x0),(3,aI dr),(9,aV Ee x0),(10,aI Dq),(11,aI z1)] []
abbrev Fo:=GI->Int->Int->Int->Option (ur×Unit)
abbrev EB (R:S):Fo:=(λ x0 Dq z1 dr=>R (IE x0 Dq z1 dr))
def EW (y24:ur) (x25:GI) (IX D0:Int):St:=C9 36 112 [(6,aO 24),(25,aV Ee x25),(26,aI IX),(27,aI D0)] [(24,.vec (.int .i64) y24)]
abbrev Du:=ur->GI->Int->Int->Option (ur×Unit)
abbrev Ad (R:S):Du:=(λ y24 x25 IX D0=>R (EW y24 x25 IX D0))
def sk (k:Nat) (xx:vi) (a0:K0):Option (ur×Unit):=(xx a0 (a0.length:Int) 0 0)
def u0 (k:Nat) (GA:Fo) (DT:Du) (x0:GI) (Dq z1 dr:Int):Option (ur×Unit):=(if z1 <Dq then (if 0<=z1 then (if z1 <(x0.length:Int) then (if (Ar (dr+((x0.getD (z1).toNat []).length:Int))) <0 then none else (GA x0 Dq z1 (Ar (dr+((x0.getD (z1).toNat []).length:Int))))) else none) else none) else ((f184 k none dr).bind λ r1=>(DT r1.1 x0 (x0.length:Int) 0)))
def FM (k:Nat) (xx:vi) (x0:GI) (Dq z1 dr:Int):Option (ur×Unit):=(xx x0 Dq (Ar (z1+1)) dr)
def Dl (k:Nat) (DT:Du) (y24:ur) (x25:GI) (IX D0:Int):Option (ur×Unit):=(if D0 <IX then (if 0<=D0 then (if D0 <(x25.length:Int) then (if (y24.length+(x25.getD (D0).toNat []).length) * 8<=140737488355328 then (DT (y24++(x25.getD (D0).toNat [])) x25 IX (Ar (D0+1))) else none) else none) else none) else some (y24,()))
theorem H6 (k:Nat) (G:Nat->S):EB (dc k [0] G (U.at 29))=FM k (uf (G 0)):=by kernel_rfl
def ox (k:Nat) (Dp:vi):Fo:=FM k Dp
theorem Hh (k:Nat) (R:Nat->S):EB (fz k R 29)=ox k (uf (R 0)):=
 Eq.trans (congrArg EB (BW [0] (by kernel_rfl))) ((H6 k _).trans (by kernel_rfl))
theorem EV (k:Nat) (G:Nat->S):Ad (dc k [8] G (U.at 8))=Dl k (Ad (G 8)):=by kernel_rfl
def l2 (k:Nat):Nat->Du
 | 0=>λ _ _ _ _=>none
 |n+1=>Dl k (l2 k n)
noncomputable abbrev DH (k:Nat) (R:Nat->S) (n:Nat):Nat->S:=up R 8 (zv k R 2 n)
theorem Eg (k:Nat) (R:Nat->S):∀n,Ad (zv k R 2 n)=l2 k n
 | 0=>by kernel_rfl
 |n+1=>
  Eq.trans (congrArg Ad (CE [] (by kernel_rfl))) ((EV k _).trans (Eq.trans (b:=Dl k (Ad ((DH k R n) 8))) (by kernel_rfl) (by rw [(show Ad (DH k R n 8)=_ from Eg k R n)]<;>kernel_rfl)))
theorem Dz (k:Nat) (G:Nat->S):uf (dc k [0] G (U.at 0))=u0 k (EB (G 29)) (Ad (G 8)):=by kernel_rfl
def l0 (k:Nat):Nat->vi
 | 0=>λ _ _ _ _=>none
 |n+1=>u0 k (ox k (l0 k n)) (l2 k k)
noncomputable abbrev wo (k:Nat) (R:Nat->S) (n:Nat):Nat->S:=up R 0 (zv k R 0 n)
theorem De (k:Nat) (R:Nat->S):∀n,uf (zv k R 0 n)=l0 k n
 | 0=>by kernel_rfl
 |n+1=>
  Eq.trans (congrArg uf (CE [] (by kernel_rfl))) ((Dz k _).trans (Eq.trans (b:=u0 k (EB (fz k (wo k R n) 29)) (Ad (zv k (wo k R n) 2 k))) (by kernel_rfl) (by rw [Hh k (wo k R n),Eg k (wo k R n) k,(show uf (wo k R n 0)=_ from De k R n)]<;>kernel_rfl)))
theorem uo (k:Nat) (G:Nat->S) (xs:DL sig):dc k [] G [.c 1 0] (uJ 36 112 sig xs)=sk k (uf (G 0)) xs.1:=by kernel_rfl
end f149
def f149 (k:Nat) (a0:K0):Option (ur×Unit):=f149.sk k (f149.l0 k k) a0
namespace f149
theorem eq (k:Nat) (xs:DL sig):den T Y (E k) A k aC 0 (uJ 36 112 sig xs) (zf T rs ts)=f149 k xs.1:=
 Eq.trans (BZ (R:=(λ _ _=>none)) (tb:=U)) ((uo k _ xs).trans (Eq.trans (b:=sk k (uf (zv k (λ _ _=>none) 0 k)) xs.1) (by kernel_rfl) (by rw [De k (λ _ _=>none) k]<;>kernel_rfl)))
noncomputable def aR (k:Nat):oL:=⟨sig,rs,λ xs=>f149 k xs.1⟩
theorem ok (k:Nat):cz Try.prog 149 sig rs (λ xs=>f149 k xs.1):=
 (Au (k:=k) (A:=A) (T:=T) (Y:=Y) (E:=E k) (M:=112) (ts:=ts) Dn ⟨f184.ok k,trivial⟩ ⟨f184.vr,trivial⟩ mixed (f:=149) (fn:=Try.f149) (c:=aC) (by kernel_rfl) (by kernel_rfl) (by kernel_rfl) (by decide) (by kernel_rfl)).congr λ xs=>(eq k xs).symm
theorem vr:vT Try.prog 149:=λ args w=>by kernel_rfl
end f149
namespace f99
noncomputable def aC:Code:=Try.f99.body.getD .skip
abbrev sig:List PT:=[(false,(.int .i64))]
abbrev rs:List RT:=[.d false (.int .i64)]
abbrev ts:List RV:=[.tmp 4]
abbrev ls:List LO:=[.box [.d FF,.d Ee,.o,.d K4],.rows DW]
abbrev S:=St->Option (cu ls×eP rs)
def Y:dY:=[(3,(.int .i64)),(22,Ee),(81,DW),(224,Fx),(2000038,DW),(3000084,(.int .i64)),(3000085,Ee)]
noncomputable def E (k:Nat):Env:=[(73,.c (f73.aR k)),(147,.b (f147.aR k)),(148,.c (f148.aR k)),(149,.c (f149.aR k))]
def A:oK:={ loops:=[(0,{ slots:=[(0,.id)],keys:=[(0,[.val false uv,.val false Dd,.val false uv,.val false (.int .i64),.id,.id]),(1,[]),(14,[])] }),(2,{ slots:=[(0,.id),(5,.id),(66,.id),(67,.id),(68,.id)],keys:=[(0,[.val false uv,.val false Dd,.val false uv,.val false (.int .i64),.id,.id]),(1,[]),(5,[.id,.val false (.int .i64),.id,.id]),(14,[]),(66,[])] })],qg:=[(1,{ slots:=[(0,.id)],keys:=[(0,[.val false uv,.val false Dd,.val false uv,.val false (.int .i64),.id,.id]),(1,[]),(14,[])] })],conds:=[(14,{ slots:=[(0,.id),(5,.id),(66,.id),(67,.id),(68,.id)],keys:=[(0,[.val false uv,.val false Dd,.val false uv,.val false (.int .i64),.id,.id]),(1,[]),(5,[.id,.val false (.int .i64),.id,.id]),(14,[]),(66,[])] })] }
def U:fD:=[(0,[.c 56 0,.r 0,.b 0,.c 15 0]),(6,[.r 0,.b 0,.c 15 0]),(8,[.c 29052 2,.r 2,.b 2,.b 1,.r 0,.b 0,.c 15 0]),(57,[.b 3,.c 232423 2,.r 2,.b 2,.b 1,.r 0,.b 0,.c 15 0])]
noncomputable abbrev fz (k:Nat) (R:Nat->S) (q:Nat):S:=cx T Y (E k) A k (yp T false ls rs ts) aC U R q
noncomputable abbrev k5 (k:Nat) (rc:List Nat) (R:Nat->S):Nat->S:=ext T Y (E k) A k (yp T false ls rs ts) aC U rc R
noncomputable abbrev zv (k:Nat) (R:Nat->S) (i n:Nat):S:=lx T Y (E k) A k (yp T false ls rs ts) aC U R i n
noncomputable abbrev dc (k:Nat) (rc:List Nat) (G:Nat->S) (F:List PF):S:=λ σ=>ap T Y (E k) A k (yp T false ls rs ts) (cD T Y (E k) A k (yp T false ls rs ts) aC U rc G 9999 F) .nx σ
def DB (Dr:sv) (Dx:wv) (DD:sv) (Dy:ur) (y1:Fc) (D3:Fb):St:=C9 125 385 [(0,aP 0)] [(0,.box [cV uv Dr,cV Dd Dx,cV uv DD,cV (.int .i64) Dy,.own 1,.own 14]),(1,.rows DW y1 none .bool 0 []),(14,.vec Fx D3)]
abbrev vi:=sv->wv->sv->ur->Fc->Fb->Option (((Df×ur×EU×Unit)×Fp×Unit)×(Int×Unit))
abbrev uf (R:S):vi:=(λ Dr Dx DD Dy y1 D3=>R (DB Dr Dx DD Dy y1 D3))
def M1 (Dr:sv) (Dx:wv) (DD:sv) (Dy:ur) (y1:Fc) (D3:Fb):St:=C9 125 385 [(0,aP 0)] [(0,.box [cV uv Dr,cV Dd Dx,cV uv DD,cV (.int .i64) Dy,.own 1,.own 14]),(1,.rows DW y1 none .bool 0 []),(14,.vec Fx D3)]
abbrev Jo:=sv->wv->sv->ur->Fc->Fb->Option (((Df×ur×EU×Unit)×Fp×Unit)×(Int×Unit))
abbrev GD (R:S):Jo:=(λ Dr Dx DD Dy y1 D3=>R (M1 Dr Dx DD Dy y1 D3))
def EW (Dr:sv) (Dx:wv) (DD:sv) (Dy:ur) (y1:Fc) (D3:Fb) (Ez:Int) (Ew:ur) (E7 E8:Int) (EF:ur) (FW EA:Int):St:=C9 125 385 [(0,aP 0),(5,aP 5),(66,aO 66),(67,aI FW),(68,aI EA)] [(0,.box [cV uv Dr,cV Dd Dx,cV uv DD,cV (.int .i64) Dy,.own 1,.own 14]),(1,.rows DW y1 none .bool 0 []),(5,.box [cI Ez,cV (.int .i64) Ew,cI E7,cI E8]),(14,.vec Fx D3),(66,.vec (.int .i64) EF)]
abbrev Du:=sv->wv->sv->ur->Fc->Fb->Int->ur->Int->Int->ur->Int->Int->Option (((Df×ur×EU×Unit)×Fp×Unit)×(Int×Unit))
abbrev Ad (R:S):Du:=(λ Dr Dx DD Dy y1 D3 Ez Ew E7 E8 EF FW EA=>R (EW Dr Dx DD Dy y1 D3 Ez Ew E7 E8 EF FW EA))
def L8 (Dr:sv) (Dx:wv) (DD:sv) (Dy:ur) (y1:Fc) (D3:Fb) (Ez:Int) (Ew:ur) (E7 E8:Int) (EF:ur) (FW EA:Int):St:=C9 125 385 [(0,aP 0),(5,aP 5),(66,aO 66),(67,aI FW),(68,aI EA)] [(0,.box [cV uv Dr,cV Dd Dx,cV uv DD,cV (.int .i64) Dy,.own 1,.own 14]),(1,.rows DW y1 none .bool 0 []),(5,.box [cI Ez,cV (.int .i64) Ew,cI E7,cI E8]),(14,.vec Fx D3),(66,.vec (.int .i64) EF)]
abbrev Jq:=sv->wv->sv->ur->Fc->Fb->Int->ur->Int->Int->ur->Int->Int->Option (((Df×ur×EU×Unit)×Fp×Unit)×(Int×Unit))
abbrev GU (R:S):Jq:=(λ Dr Dx DD Dy y1 D3 Ez Ew E7 E8 EF FW EA=>R (L8 Dr Dx DD Dy y1 D3 Ez Ew E7 E8 EF FW EA))
def sk (k:Nat) (xx:vi) (l0:Df) (l1:ur) (l2:EU) (l3:HV) (a0:Int):Option (((Df×ur×EU×Unit)×Fp×Unit)×(Int×Unit)):=(xx l0.1 l0.2.1 l0.2.2 l1 l3 ([(a0,([],(0,0)))]))
def u0 (k:Nat) (J7:Jo) (DT:Du) (Dr:sv) (Dx:wv) (DD:sv) (Dy:ur) (y1:Fc) (D3:Fb):Option (((Df×ur×EU×Unit)×Fp×Unit)×(Int×Unit)):=(if 0 <(D3.length:Int) then ((f147 k (Dr,(Dx,DD)) Dy y1 D3).bind λ r1=>((f148 k ((r1.1.1.1.1,(r1.1.1.1.2.1,r1.1.1.1.2.2)),(r1.1.1.2.1,(r1.1.2.1,r1.1.2.2.1))) r1.2.1.1 (r1.2.1.2.1,(r1.2.1.2.2.1,r1.2.1.2.2.2))).bind λ r2=>(if r2.1=true then (J7 r1.1.1.1.1 r1.1.1.1.2.1 r1.1.1.1.2.2 r1.1.1.2.1 r1.1.2.1 r1.1.2.2.1) else (if 0<=r1.2.1.1 then (if r1.2.1.1 <(r1.1.2.1.length:Int) then (if ((r1.1.2.1.getD ((r1.2.1.1).toNat) []).length:Int)=50 then some ((((r1.1.1.1.1,(r1.1.1.1.2.1,r1.1.1.1.2.2)),r1.1.1.2.1,r1.1.2.2.1,()),(r1.1.2.1,())),(2,())) else (if 0<=r1.2.1.1 then (if r1.2.1.1 <(r1.1.2.1.length:Int) then (if ((r1.1.2.1.getD ((r1.2.1.1).toNat) []).length+1) * 40<=140737488355328 then (if 0<=r1.2.1.1 then (if r1.2.1.1 <(r1.1.2.1.length:Int) then (if ((r1.2.1.1).toNat)=((r1.2.1.1).toNat) then ((f73 k (r1.1.1.1.1,(r1.1.1.1.2.1,r1.1.1.1.2.2)) r1.2.1.1).bind λ r3=>(DT r1.1.1.1.1 r1.1.1.1.2.1 r1.1.1.1.2.2 r1.1.1.2.1 (r1.1.2.1.set ((r1.2.1.1).toNat) ((r1.1.2.1.getD ((r1.2.1.1).toNat) [])++[(r1.2.1.2.1,(r1.2.1.2.2.1,r1.2.1.2.2.2))])) r1.1.2.2.1 r1.2.1.1 r1.2.1.2.1 r1.2.1.2.2.1 r1.2.1.2.2.2 r3.1 (r3.1.length:Int) 0)) else none) else none) else none) else none) else none) else none)) else none) else none)))) else some ((((Dr,(Dx,DD)),Dy,D3,()),(y1,())),(0,())))
def I1 (k:Nat) (xx:vi) (Dr:sv) (Dx:wv) (DD:sv) (Dy:ur) (y1:Fc) (D3:Fb):Option (((Df×ur×EU×Unit)×Fp×Unit)×(Int×Unit)):=(xx Dr Dx DD Dy y1 D3)
def Dl (k:Nat) (J7:Jo) (KA:Jq) (Dr:sv) (Dx:wv) (DD:sv) (Dy:ur) (y1:Fc) (D3:Fb) (Ez:Int) (Ew:ur) (E7 E8:Int) (EF:ur) (FW EA:Int):Option (((Df×ur×EU×Unit)×Fp×Unit)×(Int×Unit)):=(if EA <FW then (if 0<=EA then (if EA <(EF.length:Int) then (if 0<=(EF.getD ((EA).toNat) 0) then (if (EF.getD ((EA).toNat) 0) <(Dx.length:Int) then ((f149 k ([Ew,[(EF.getD ((EA).toNat) 0)]])).bind λ r1=>(if 0<=(EF.getD ((EA).toNat) 0) then (if (EF.getD ((EA).toNat) 0) <(Dy.length:Int) then ((f148 k ((Dr,(Dx,DD)),(Dy,(y1,D3))) (((Dx.getD ((EF.getD ((EA).toNat) 0)).toNat (0,(0,(0,0)))).2).1) (r1.1,(Ar (E7+((((Dx.getD ((EF.getD ((EA).toNat) 0)).toNat (0,(0,(0,0)))).2).2).1)),Ar (E8+(Dy.getD ((EF.getD ((EA).toNat) 0)).toNat 0))))).bind λ r2=>(if ¬(r2.1=true) then (if (D3.length+1) * 48<=140737488355328 then (KA Dr Dx DD Dy y1 (D3++[(((Dx.getD ((EF.getD ((EA).toNat) 0)).toNat (0,(0,(0,0)))).2).1,(r1.1,(Ar (E7+((((Dx.getD ((EF.getD ((EA).toNat) 0)).toNat (0,(0,(0,0)))).2).2).1)),Ar (E8+(Dy.getD ((EF.getD ((EA).toNat) 0)).toNat 0)))))]) Ez Ew E7 E8 EF FW EA) else none) else (KA Dr Dx DD Dy y1 D3 Ez Ew E7 E8 EF FW EA))) else none) else none)) else none) else none) else none) else none) else (J7 Dr Dx DD Dy y1 D3))
def HO (k:Nat) (DT:Du) (Dr:sv) (Dx:wv) (DD:sv) (Dy:ur) (y1:Fc) (D3:Fb) (Ez:Int) (Ew:ur) (E7 E8:Int) (EF:ur) (FW EA:Int):Option (((Df×ur×EU×Unit)×Fp×Unit)×(Int×Unit)):=(DT Dr Dx DD Dy y1 D3 Ez Ew E7 E8 EF FW (Ar (EA+1)))
theorem MD (k:Nat) (G:Nat->S):GD (dc k [0] G (U.at 6))=I1 k (uf (G 0)):=by kernel_rfl
def b1 (k:Nat) (Dp:vi):Jo:=I1 k Dp
theorem K7 (k:Nat) (R:Nat->S):GD (fz k R 6)=b1 k (uf (R 0)):=
 Eq.trans (congrArg GD (BW [0] (by kernel_rfl))) ((MD k _).trans (by kernel_rfl))
theorem Lz (k:Nat) (G:Nat->S):GU (dc k [8,0] G (U.at 57))=HO k (Ad (G 8)):=by kernel_rfl
def Kw (k:Nat) (Ey:Du) (Dp:vi):Jq:=HO k Ey
theorem Ly (k:Nat) (R:Nat->S):GU (fz k R 57)=Kw k (Ad (R 8)) (uf (R 0)):=
 Eq.trans (congrArg GU (BW [8,0] (by kernel_rfl))) ((Lz k _).trans (by kernel_rfl))
theorem EV (k:Nat) (G:Nat->S):Ad (dc k [8,0] G (U.at 8))=Dl k (GD (G 6)) (GU (G 57)):=by kernel_rfl
def l2 (k:Nat) (Dp:vi):Nat->Du
 | 0=>λ _ _ _ _ _ _ _ _ _ _ _ _ _=>none
 |n+1=>Dl k (b1 k Dp) (Kw k (l2 k Dp n) Dp)
noncomputable abbrev DH (k:Nat) (R:Nat->S) (n:Nat):Nat->S:=up R 8 (zv k R 2 n)
theorem Eg (k:Nat) (R:Nat->S):∀n,Ad (zv k R 2 n)=l2 k (uf (R 0)) n
 | 0=>by kernel_rfl
 |n+1=>
  Eq.trans (congrArg Ad (CE [0] (by kernel_rfl))) ((EV k _).trans (Eq.trans (b:=Dl k (GD (fz k (DH k R n) 6)) (GU (fz k (DH k R n) 57))) (by kernel_rfl) (by rw [K7 k (DH k R n),Ly k (DH k R n),(show Ad (DH k R n 8)=_ from Eg k R n)]<;>kernel_rfl)))
theorem Dz (k:Nat) (G:Nat->S):uf (dc k [0] G (U.at 0))=u0 k (GD (G 6)) (Ad (G 8)):=by kernel_rfl
def l0 (k:Nat):Nat->vi
 | 0=>λ _ _ _ _ _ _=>none
 |n+1=>u0 k (b1 k (l0 k n)) (l2 k (l0 k n) k)
noncomputable abbrev wo (k:Nat) (R:Nat->S) (n:Nat):Nat->S:=up R 0 (zv k R 0 n)
theorem De (k:Nat) (R:Nat->S):∀n,uf (zv k R 0 n)=l0 k n
 | 0=>by kernel_rfl
 |n+1=>
  Eq.trans (congrArg uf (CE [] (by kernel_rfl))) ((Dz k _).trans (Eq.trans (b:=u0 k (GD (fz k (wo k R n) 6)) (Ad (zv k (wo k R n) 2 k))) (by kernel_rfl) (by rw [K7 k (wo k R n),Eg k (wo k R n) k,(show uf (wo k R n 0)=_ from De k R n)]<;>kernel_rfl)))
theorem uo (k:Nat) (G:Nat->S) (x:cu ls) (xs:DL sig):dc k [] G [.c 1 0] (gR 125 385 0 ls x sig xs)=sk k (uf (G 0)) x.1.1 x.1.2.1 x.1.2.2.1 x.2.1 xs.1:=by kernel_rfl
end f99
def f99 (k:Nat) (l0:Df) (l1:ur) (l2:EU) (l3:HV) (a0:Int):Option (((Df×ur×EU×Unit)×Fp×Unit)×(Int×Unit)):=f99.sk k (f99.l0 k k) l0 l1 l2 l3 a0
namespace f99
theorem eq (k:Nat) (x:cu ls) (xs:DL sig):den T Y (E k) A k aC 0 (gR 125 385 0 ls x sig xs) (yp T false ls rs ts)=f99 k x.1.1 x.1.2.1 x.1.2.2.1 x.2.1 xs.1:=
 Eq.trans (BZ (R:=(λ _ _=>none)) (tb:=U)) ((uo k _ x xs).trans (Eq.trans (b:=sk k (uf (zv k (λ _ _=>none) 0 k)) x.1.1 x.1.2.1 x.1.2.2.1 x.2.1 xs.1) (by kernel_rfl) (by rw [De k (λ _ _=>none) k]<;>kernel_rfl)))
noncomputable def aR (k:Nat):kG:=⟨0,false,ls,sig,rs,λ x xs=>f99 k x.1.1 x.1.2.1 x.1.2.2.1 x.2.1 xs.1⟩
theorem ok (k:Nat):gT Try.prog 99 0 false ls sig rs (λ x xs=>f99 k x.1.1 x.1.2.1 x.1.2.2.1 x.2.1 xs.1):=
 (Av (k:=k) (A:=A) (T:=T) (Y:=Y) (E:=E k) (M:=385) (ts:=ts) Dn ⟨f73.ok k,f147.ok k,f148.ok k,f149.ok k,trivial⟩ ⟨f73.vr,f147.vr,f148.vr,f149.vr,trivial⟩ mixed (f:=99) (fn:=Try.f99) (c:=aC) (by kernel_rfl) (by kernel_rfl) (by kernel_rfl) (by decide) (by kernel_rfl) (by decide)).congr λ x xs=>(eq k x xs).symm
theorem vr:vT Try.prog 99:=λ args w=>by kernel_rfl
end f99
namespace f40
noncomputable def aC:Code:=Try.f40.body.getD .skip
abbrev sig:List PT:=[(true,FF),(false,Ee),(false,(.int .i64)),(false,(.int .i64))]
abbrev rs:List RT:=[.new DW,.d false (.int .i64)]
abbrev ts:List RV:=[.tmp 8,.tmp 9]
abbrev S:=St->Option (eP rs)
def Y:dY:=[(73,MB),(2000083,DW)]
noncomputable def E (k:Nat):Env:=[(71,.c (f71.aR k)),(99,.b (f99.aR k))]
def A:oK:={ loops:=[(0,{ slots:=[(1,.val false (.int .i64)),(2,.id),(3,.id),(4,.id),(30,.val false (.int .i64)),(31,.id),(32,.id)],keys:=[(4,[.val false uv,.val false Dd,.val false uv])] })],qA:=[(11,{ slots:=[(1,.val false (.int .i64)),(2,.id),(3,.id),(4,.id),(30,.val false (.int .i64)),(31,.id),(32,.id),(41,.bool)],keys:=[(4,[.val false uv,.val false Dd,.val false uv])] }),(14,{ slots:=[(1,.val false (.int .i64)),(2,.id),(3,.id),(4,.id),(62,.bool)],keys:=[(4,[.val false uv,.val false Dd,.val false uv])] })] }
def U:fD:=[(0,[.c 500 0,.r 0,.b 0,.c 63 0]),(47,[.c 32051 1,.b 1,.c 4007 0,.r 0,.b 0,.c 63 0]),(59,[.c 253 0,.c 127 0])]
noncomputable abbrev fz (k:Nat) (R:Nat->S) (q:Nat):S:=cx T Y (E k) A k (zf T rs ts) aC U R q
noncomputable abbrev k5 (k:Nat) (rc:List Nat) (R:Nat->S):Nat->S:=ext T Y (E k) A k (zf T rs ts) aC U rc R
noncomputable abbrev zv (k:Nat) (R:Nat->S) (i n:Nat):S:=lx T Y (E k) A k (zf T rs ts) aC U R i n
noncomputable abbrev dc (k:Nat) (rc:List Nat) (G:Nat->S) (F:List PF):S:=λ σ=>ap T Y (E k) A k (zf T rs ts) (cD T Y (E k) A k (zf T rs ts) aC U rc G 9999 F) .nx σ
def DB (D6:sv) (Ek:wv) (El:sv) (x1:ur) (x2 dr x31 x32:Int):St:=C9 93 288 [(1,aV (.int .i64) x1),(2,aI x2),(3,aI dr),(4,aP 4),(30,aV (.int .i64) x1),(31,aI x31),(32,aI x32)] [(4,.box [cV uv D6,cV Dd Ek,cV uv El])]
abbrev vi:=sv->wv->sv->ur->Int->Int->Int->Int->Option ((List DQ)×Int×Unit)
abbrev uf (R:S):vi:=(λ D6 Ek El x1 x2 dr x31 x32=>R (DB D6 Ek El x1 x2 dr x31 x32))
def Jl (D6:sv) (Ek:wv) (El:sv) (x1:ur) (x2 dr x31 x32:Int) (JP:Bool):St:=C9 93 288 [(1,aV (.int .i64) x1),(2,aI x2),(3,aI dr),(4,aP 4),(30,aV (.int .i64) x1),(31,aI x31),(32,aI x32),(41,aB JP)] [(4,.box [cV uv D6,cV Dd Ek,cV uv El])]
abbrev F5:=sv->wv->sv->ur->Int->Int->Int->Int->Bool->Option ((List DQ)×Int×Unit)
abbrev E4 (R:S):F5:=(λ D6 Ek El x1 x2 dr x31 x32 JP=>R (Jl D6 Ek El x1 x2 dr x31 x32 JP))
def Jm (D6:sv) (Ek:wv) (El:sv) (x1:ur) (x2 dr:Int) (JS:Bool):St:=C9 93 288 [(1,aV (.int .i64) x1),(2,aI x2),(3,aI dr),(4,aP 4),(62,aB JS)] [(4,.box [cV uv D6,cV Dd Ek,cV uv El])]
abbrev F6:=sv->wv->sv->ur->Int->Int->Bool->Option ((List DQ)×Int×Unit)
abbrev E5 (R:S):F6:=(λ D6 Ek El x1 x2 dr JS=>R (Jm D6 Ek El x1 x2 dr JS))
def sk (k:Nat) (xx:vi) (a0:Df) (a1:ur) (a2 a3:Int):Option ((List DQ)×Int×Unit):=((f71 k (a0.1,(a0.2.1,a0.2.2))).bind λ r1=>(if ¬(r1.1=0) then some ([],r1.1,()) else (if 0 <(a0.2.2.length:Int) then some ([],19,()) else (if ¬((a1.length:Int)=(a0.2.1.length:Int)) then some ([],3,()) else (xx a0.1 a0.2.1 a0.2.2 a1 a2 a3 (a1.length:Int) 0)))))
def u0 (k:Nat) (GO:F5) (Ft:F6) (D6:sv) (Ek:wv) (El:sv) (x1:ur) (x2 dr x31 x32:Int):Option ((List DQ)×Int×Unit):=(if x32 <x31 then (if 0<=x32 then (if x32 <(x1.length:Int) then (if (x1.getD (x32).toNat 0) <0 then (GO D6 Ek El x1 x2 dr x31 x32 true) else (GO D6 Ek El x1 x2 dr x31 x32 (decide (1099511627776 <(x1.getD (x32).toNat 0))))) else none) else none) else (if x2 <0 then (Ft D6 Ek El x1 x2 dr true) else (if dr <0 then (Ft D6 Ek El x1 x2 dr true) else (if (D6.length:Int)<=x2 then (Ft D6 Ek El x1 x2 dr true) else (Ft D6 Ek El x1 x2 dr (decide ((D6.length:Int)<=dr)))))))
def Fu (k:Nat) (xx:vi) (D6:sv) (Ek:wv) (El:sv) (x1:ur) (x2 dr x31 x32:Int) (JP:Bool):Option ((List DQ)×Int×Unit):=(if JP=true then some ([],1,()) else (xx D6 Ek El x1 x2 dr x31 (Ar (x32+1))))
def Fv (k:Nat) (D6:sv) (Ek:wv) (El:sv) (x1:ur) (x2 dr:Int) (JS:Bool):Option ((List DQ)×Int×Unit):=(if JS=true then some ([],1,()) else (if 0<=(D6.length:Int) then (if (D6.length:Int)<=1073741824 then ((f99 k (D6,(Ek,El)) x1 ([]) (List.replicate ((D6.length:Int)).toNat ([]:List (ur×(Int×Int)))) x2).bind λ r1=>(if ¬(r1.2.1=0) then some ([],r1.2.1,()) else (if 0<=dr then (if dr <(r1.1.2.1.length:Int) then (if ((r1.1.2.1.getD ((dr).toNat) []).length:Int)=0 then some ([],17,()) else (if 0<=dr then (if dr <(r1.1.2.1.length:Int) then some ((r1.1.2.1.getD ((dr).toNat) []),0,()) else none) else none)) else none) else none))) else none) else none))
theorem Jc (k:Nat) (G:Nat->S):E4 (dc k [0] G (U.at 47))=Fu k (uf (G 0)):=by kernel_rfl
def Gw (k:Nat) (Dp:vi):F5:=Fu k Dp
theorem Jb (k:Nat) (R:Nat->S):E4 (fz k R 47)=Gw k (uf (R 0)):=
 Eq.trans (congrArg E4 (BW [0] (by kernel_rfl))) ((Jc k _).trans (by kernel_rfl))
theorem Je (k:Nat) (G:Nat->S):E5 (dc k [] G (U.at 59))=Fv k:=by kernel_rfl
def FI (k:Nat):F6:=Fv k
theorem Jd (k:Nat) (R:Nat->S):E5 (fz k R 59)=FI k:=
 Eq.trans (congrArg E5 (BW [] (by kernel_rfl))) ((Je k _).trans (by kernel_rfl))
theorem Dz (k:Nat) (G:Nat->S):uf (dc k [0] G (U.at 0))=u0 k (E4 (G 47)) (E5 (G 59)):=by kernel_rfl
def l0 (k:Nat):Nat->vi
 | 0=>λ _ _ _ _ _ _ _ _=>none
 |n+1=>u0 k (Gw k (l0 k n)) (FI k)
noncomputable abbrev wo (k:Nat) (R:Nat->S) (n:Nat):Nat->S:=up R 0 (zv k R 0 n)
theorem De (k:Nat) (R:Nat->S):∀n,uf (zv k R 0 n)=l0 k n
 | 0=>by kernel_rfl
 |n+1=>
  Eq.trans (congrArg uf (CE [] (by kernel_rfl))) ((Dz k _).trans (Eq.trans (b:=u0 k (E4 (fz k (wo k R n) 47)) (E5 (fz k (wo k R n) 59))) (by kernel_rfl) (by rw [Jb k (wo k R n),Jd k (wo k R n),(show uf (wo k R n 0)=_ from De k R n)]<;>kernel_rfl)))
theorem uo (k:Nat) (G:Nat->S) (xs:DL sig):dc k [] G [.c 1 0] (uJ 93 288 sig xs)=sk k (uf (G 0)) xs.1 xs.2.1 xs.2.2.1 xs.2.2.2.1:=by kernel_rfl
end f40
def f40 (k:Nat) (a0:Df) (a1:ur) (a2 a3:Int):Option ((List DQ)×Int×Unit):=f40.sk k (f40.l0 k k) a0 a1 a2 a3
namespace f40
theorem eq (k:Nat) (xs:DL sig):den T Y (E k) A k aC 0 (uJ 93 288 sig xs) (zf T rs ts)=f40 k xs.1 xs.2.1 xs.2.2.1 xs.2.2.2.1:=
 Eq.trans (BZ (R:=(λ _ _=>none)) (tb:=U)) ((uo k _ xs).trans (Eq.trans (b:=sk k (uf (zv k (λ _ _=>none) 0 k)) xs.1 xs.2.1 xs.2.2.1 xs.2.2.2.1) (by kernel_rfl) (by rw [De k (λ _ _=>none) k]<;>kernel_rfl)))
noncomputable def aR (k:Nat):oL:=⟨sig,rs,λ xs=>f40 k xs.1 xs.2.1 xs.2.2.1 xs.2.2.2.1⟩
theorem ok (k:Nat):cz Try.prog 40 sig rs (λ xs=>f40 k xs.1 xs.2.1 xs.2.2.1 xs.2.2.2.1):=
 (Au (k:=k) (A:=A) (T:=T) (Y:=Y) (E:=E k) (M:=288) (ts:=ts) Dn ⟨f71.ok k,f99.ok k,trivial⟩ ⟨f71.vr,f99.vr,trivial⟩ mixed (f:=40) (fn:=Try.f40) (c:=aC) (by kernel_rfl) (by kernel_rfl) (by kernel_rfl) (by decide) (by kernel_rfl)).congr λ xs=>(eq k xs).symm
theorem vr:vT Try.prog 40:=λ args w=>by kernel_rfl
end f40
namespace f45
noncomputable def aC:Code:=Try.f45.body.getD .skip
abbrev sig:List PT:=[(true,FF),(false,Ee)]
abbrev rs:List RT:=[.new (.int .i64)]
abbrev ts:List RV:=[.tmp 4]
abbrev S:=St->Option (eP rs)
def Y:dY:=[(3,(.int .i64))]
noncomputable def E (k:Nat):Env:=[(51,.b (f51.aR k))]
def A:oK:={ loops:=[(0,{ slots:=[(5,.id),(6,.id),(16,.id),(17,.id)],keys:=[(10,[.val false (.int .i64)]),(14,[])] })] }
def U:fD:=[(0,[.c 244 0,.r 0,.b 0,.c 31 0])]
noncomputable abbrev fz (k:Nat) (R:Nat->S) (q:Nat):S:=cx T Y (E k) A k (zf T rs ts) aC U R q
noncomputable abbrev k5 (k:Nat) (rc:List Nat) (R:Nat->S):Nat->S:=ext T Y (E k) A k (zf T rs ts) aC U rc R
noncomputable abbrev zv (k:Nat) (R:Nat->S) (i n:Nat):S:=lx T Y (E k) A k (zf T rs ts) aC U R i n
noncomputable abbrev dc (k:Nat) (rc:List Nat) (G:Nat->S) (F:List PF):S:=λ σ=>ap T Y (E k) A k (zf T rs ts) (cD T Y (E k) A k (zf T rs ts) aC U rc G 9999 F) .nx σ
def DB (Hg D3:ur) (Eb DK:Int):St:=C9 27 96 [(5,aP 10),(6,aO 14),(16,aI Eb),(17,aI DK)] [(10,.box [cV (.int .i64) Hg]),(14,.vec (.int .i64) D3)]
abbrev vi:=ur->ur->Int->Int->Option (ur×Unit)
abbrev uf (R:S):vi:=(λ Hg D3 Eb DK=>R (DB Hg D3 Eb DK))
def sk (k:Nat) (xx:vi) (a0:Df) (a1:ur):Option (ur×Unit):=(if 0<=(a0.2.1.length:Int) then (if (a0.2.1.length:Int)<=1073741824 then (xx a1 (List.replicate ((a0.2.1.length:Int)).toNat (0:Int)) ((List.replicate ((a0.2.1.length:Int)).toNat (0:Int)).length:Int) 0) else none) else none)
def u0 (k:Nat) (xx:vi) (Hg D3:ur) (Eb DK:Int):Option (ur×Unit):=(if DK <Eb then ((f51 k Hg 12).bind λ r1=>(if 0<=DK then (if DK <(D3.length:Int) then (xx r1.1.1.1 (D3.set ((DK).toNat) r1.2.1) Eb (Ar (DK+1))) else none) else none)) else some (D3,()))
theorem Dz (k:Nat) (G:Nat->S):uf (dc k [0] G (U.at 0))=u0 k (uf (G 0)):=by kernel_rfl
def l0 (k:Nat):Nat->vi
 | 0=>λ _ _ _ _=>none
 |n+1=>u0 k (l0 k n)
noncomputable abbrev wo (k:Nat) (R:Nat->S) (n:Nat):Nat->S:=up R 0 (zv k R 0 n)
theorem De (k:Nat) (R:Nat->S):∀n,uf (zv k R 0 n)=l0 k n
 | 0=>by kernel_rfl
 |n+1=>
  Eq.trans (congrArg uf (CE [] (by kernel_rfl))) ((Dz k _).trans (Eq.trans (b:=u0 k (uf ((wo k R n) 0))) (by kernel_rfl) (by rw [(show uf (wo k R n 0)=_ from De k R n)]<;>kernel_rfl)))
theorem uo (k:Nat) (G:Nat->S) (xs:DL sig):dc k [] G [.c 1 0] (uJ 27 96 sig xs)=sk k (uf (G 0)) xs.1 xs.2.1:=by kernel_rfl
end f45
def f45 (k:Nat) (a0:Df) (a1:ur):Option (ur×Unit):=f45.sk k (f45.l0 k k) a0 a1
namespace f45
theorem eq (k:Nat) (xs:DL sig):den T Y (E k) A k aC 0 (uJ 27 96 sig xs) (zf T rs ts)=f45 k xs.1 xs.2.1:=
 Eq.trans (BZ (R:=(λ _ _=>none)) (tb:=U)) ((uo k _ xs).trans (Eq.trans (b:=sk k (uf (zv k (λ _ _=>none) 0 k)) xs.1 xs.2.1) (by kernel_rfl) (by rw [De k (λ _ _=>none) k]<;>kernel_rfl)))
noncomputable def aR (k:Nat):oL:=⟨sig,rs,λ xs=>f45 k xs.1 xs.2.1⟩
theorem ok (k:Nat):cz Try.prog 45 sig rs (λ xs=>f45 k xs.1 xs.2.1):=
 (Au (k:=k) (A:=A) (T:=T) (Y:=Y) (E:=E k) (M:=96) (ts:=ts) Dn ⟨f51.ok k,trivial⟩ ⟨f51.vr,trivial⟩ mixed (f:=45) (fn:=Try.f45) (c:=aC) (by kernel_rfl) (by kernel_rfl) (by kernel_rfl) (by decide) (by kernel_rfl)).congr λ xs=>(eq k xs).symm
theorem vr:vT Try.prog 45:=λ args w=>by kernel_rfl
end f45
namespace f49
noncomputable def aC:Code:=Try.f49.body.getD .skip
abbrev sig:List PT:=[(false,Fy),(false,Fy)]
abbrev rs:List RT:=[.d false .bool]
abbrev ts:List RV:=[.tmp 4]
abbrev S:=St->Option (eP rs)
def Y:dY:=[]
noncomputable def E (k:Nat):Env:=[]
def A:oK:={ loops:=[(0,{ slots:=[(0,.val false uv),(1,.val false uv),(12,.id),(13,.id)] })] }
def U:fD:=[(0,[.c 116 0,.r 0,.b 0,.c 15 0])]
noncomputable abbrev fz (k:Nat) (R:Nat->S) (q:Nat):S:=cx T Y (E k) A k (zf T rs ts) aC U R q
noncomputable abbrev k5 (k:Nat) (rc:List Nat) (R:Nat->S):Nat->S:=ext T Y (E k) A k (zf T rs ts) aC U rc R
noncomputable abbrev zv (k:Nat) (R:Nat->S) (i n:Nat):S:=lx T Y (E k) A k (zf T rs ts) aC U R i n
noncomputable abbrev dc (k:Nat) (rc:List Nat) (G:Nat->S) (F:List PF):S:=λ σ=>ap T Y (E k) A k (zf T rs ts) (cD T Y (E k) A k (zf T rs ts) aC U rc G 9999 F) .nx σ
def DB (x0 x1:sv) (Dw Dg:Int):St:=C9 26 80 [(0,aV uv x0),(1,aV uv x1),(12,aI Dw),(13,aI Dg)] []
abbrev vi:=sv->sv->Int->Int->Option (Bool×Unit)
abbrev uf (R:S):vi:=(λ x0 x1 Dw Dg=>R (DB x0 x1 Dw Dg))
def sk (k:Nat) (xx:vi) (a0 a1:D9):Option (Bool×Unit):=(if ¬((a0.length:Int)=(a1.length:Int)) then some (false,()) else (xx a0 a1 (a0.length:Int) 0))
def u0 (k:Nat) (xx:vi) (x0 x1:sv) (Dw Dg:Int):Option (Bool×Unit):=(if Dg <Dw then (if 0<=Dg then (if Dg <(x0.length:Int) then (if 0<=Dg then (if Dg <(x1.length:Int) then (if ¬((((x0.getD (Dg).toNat (0,0)).1)=((x1.getD (Dg).toNat (0,0)).1))/\(((x0.getD (Dg).toNat (0,0)).2)=((x1.getD (Dg).toNat (0,0)).2))) then some (false,()) else (xx x0 x1 Dw (Ar (Dg+1)))) else none) else none) else none) else none) else some (true,()))
theorem Dz (k:Nat) (G:Nat->S):uf (dc k [0] G (U.at 0))=u0 k (uf (G 0)):=by kernel_rfl
def l0 (k:Nat):Nat->vi
 | 0=>λ _ _ _ _=>none
 |n+1=>u0 k (l0 k n)
noncomputable abbrev wo (k:Nat) (R:Nat->S) (n:Nat):Nat->S:=up R 0 (zv k R 0 n)
theorem De (k:Nat) (R:Nat->S):∀n,uf (zv k R 0 n)=l0 k n
 | 0=>by kernel_rfl
 |n+1=>
  Eq.trans (congrArg uf (CE [] (by kernel_rfl))) ((Dz k _).trans (Eq.trans (b:=u0 k (uf ((wo k R n) 0))) (by kernel_rfl) (by rw [(show uf (wo k R n 0)=_ from De k R n)]<;>kernel_rfl)))
theorem uo (k:Nat) (G:Nat->S) (xs:DL sig):dc k [] G [.c 1 0] (uJ 26 80 sig xs)=sk k (uf (G 0)) xs.1 xs.2.1:=by kernel_rfl
end f49
def f49 (k:Nat) (a0 a1:D9):Option (Bool×Unit):=f49.sk k (f49.l0 k k) a0 a1
namespace f49
theorem eq (k:Nat) (xs:DL sig):den T Y (E k) A k aC 0 (uJ 26 80 sig xs) (zf T rs ts)=f49 k xs.1 xs.2.1:=
 Eq.trans (BZ (R:=(λ _ _=>none)) (tb:=U)) ((uo k _ xs).trans (Eq.trans (b:=sk k (uf (zv k (λ _ _=>none) 0 k)) xs.1 xs.2.1) (by kernel_rfl) (by rw [De k (λ _ _=>none) k]<;>kernel_rfl)))
noncomputable def aR (k:Nat):oL:=⟨sig,rs,λ xs=>f49 k xs.1 xs.2.1⟩
theorem ok (k:Nat):cz Try.prog 49 sig rs (λ xs=>f49 k xs.1 xs.2.1):=
 (Au (k:=k) (A:=A) (T:=T) (Y:=Y) (E:=E k) (M:=80) (ts:=ts) Dn trivial trivial mixed (f:=49) (fn:=Try.f49) (c:=aC) (by kernel_rfl) (by kernel_rfl) (by kernel_rfl) (by decide) (by kernel_rfl)).congr λ xs=>(eq k xs).symm
theorem vr:vT Try.prog 49:=λ args w=>by kernel_rfl
end f49
namespace f107
noncomputable def aC:Code:=Try.f107.body.getD .skip
abbrev sig:List PT:=[(true,uv),(false,(.ptr uv))]
abbrev rs:List RT:=[.d false .bool]
abbrev ts:List RV:=[.tmp 3]
abbrev S:=St->Option (eP rs)
def Y:dY:=[]
noncomputable def E (k:Nat):Env:=[(48,.c (f48.aR k))]
def A:oK:={ qA:=[(1,{ slots:=[(3,.bool)] })] }
def U:fD:=[(7,[.c 7 0])]
noncomputable abbrev fz (k:Nat) (R:Nat->S) (q:Nat):S:=cx T Y (E k) A k (zf T rs ts) aC U R q
noncomputable abbrev k5 (k:Nat) (rc:List Nat) (R:Nat->S):Nat->S:=ext T Y (E k) A k (zf T rs ts) aC U rc R
noncomputable abbrev dc (k:Nat) (rc:List Nat) (G:Nat->S) (F:List PF):S:=λ σ=>ap T Y (E k) A k (zf T rs ts) (cD T Y (E k) A k (zf T rs ts) aC U rc G 9999 F) .nx σ
def Fh (dr:Bool):St:=C9 12 48 [(3,aB dr)] []
abbrev D4:=Bool->Option (Bool×Unit)
abbrev DA (R:S):D4:=(λ dr=>R (Fh dr))
def sk (k:Nat) (Ef:D4) (a0 a1:(Int×Int)):Option (Bool×Unit):=(if ¬((a0.1=a1.1)/\(a0.2=a1.2)) then ((f48 k (a0.1,a0.2) (a1.1,a1.2)).bind λ r1=>(Ef (decide (r1.1=true)))) else (Ef false))
def DZ (k:Nat) (dr:Bool):Option (Bool×Unit):=some (decide (dr=true),())
theorem Fg (k:Nat) (G:Nat->S):DA (dc k [] G (U.at 7))=DZ k:=by kernel_rfl
def r1 (k:Nat):D4:=DZ k
theorem Ff (k:Nat) (R:Nat->S):DA (fz k R 7)=r1 k:=
 Eq.trans (congrArg DA (BW [] (by kernel_rfl))) ((Fg k _).trans (by kernel_rfl))
theorem uo (k:Nat) (G:Nat->S) (xs:DL sig):dc k [] G [.c 1 0] (uJ 12 48 sig xs)=sk k (DA (G 7)) xs.1 xs.2.1:=by kernel_rfl
end f107
def f107 (k:Nat) (a0 a1:(Int×Int)):Option (Bool×Unit):=f107.sk k (f107.r1 k) a0 a1
namespace f107
theorem eq (k:Nat) (xs:DL sig):den T Y (E k) A k aC 0 (uJ 12 48 sig xs) (zf T rs ts)=f107 k xs.1 xs.2.1:=
 Eq.trans (BZ (R:=(λ _ _=>none)) (tb:=U)) ((uo k _ xs).trans (Eq.trans (b:=sk k (DA (fz k (λ _ _=>none) 7)) xs.1 xs.2.1) (by kernel_rfl) (by rw [Ff k (λ _ _=>none)]<;>kernel_rfl)))
noncomputable def aR (k:Nat):oL:=⟨sig,rs,λ xs=>f107 k xs.1 xs.2.1⟩
theorem ok (k:Nat):cz Try.prog 107 sig rs (λ xs=>f107 k xs.1 xs.2.1):=
 (Au (k:=k) (A:=A) (T:=T) (Y:=Y) (E:=E k) (M:=48) (ts:=ts) Dn ⟨f48.ok k,trivial⟩ ⟨f48.vr,trivial⟩ mixed (f:=107) (fn:=Try.f107) (c:=aC) (by kernel_rfl) (by kernel_rfl) (by kernel_rfl) (by decide) (by kernel_rfl)).congr λ xs=>(eq k xs).symm
theorem vr:vT Try.prog 107:=λ args w=>by kernel_rfl
end f107
namespace f154
noncomputable def aC:Code:=Try.f154.body.getD .skip
abbrev sig:List PT:=[(false,Fy),(false,JZ)]
abbrev rs:List RT:=[.d false (.int .i64)]
abbrev ts:List RV:=[.tmp 4]
abbrev S:=St->Option (eP rs)
def Y:dY:=[]
noncomputable def E (k:Nat):Env:=[(107,.c (f107.aR k))]
def A:oK:={ loops:=[(0,{ slots:=[(0,.val false uv),(1,.id),(7,.id),(8,.id)] })] }
def U:fD:=[(0,[.c 52 0,.r 0,.b 0,.c 7 0])]
noncomputable abbrev fz (k:Nat) (R:Nat->S) (q:Nat):S:=cx T Y (E k) A k (zf T rs ts) aC U R q
noncomputable abbrev k5 (k:Nat) (rc:List Nat) (R:Nat->S):Nat->S:=ext T Y (E k) A k (zf T rs ts) aC U rc R
noncomputable abbrev zv (k:Nat) (R:Nat->S) (i n:Nat):S:=lx T Y (E k) A k (zf T rs ts) aC U R i n
noncomputable abbrev dc (k:Nat) (rc:List Nat) (G:Nat->S) (F:List PF):S:=λ σ=>ap T Y (E k) A k (zf T rs ts) (cD T Y (E k) A k (zf T rs ts) aC U rc G 9999 F) .nx σ
def DB (x0:sv) (x1:(Int×Int)) (gi ey:Int):St:=C9 19 64 [(0,aV uv x0),(1,.cp (.one (.dat JZ x1))),(7,aI gi),(8,aI ey)] []
abbrev vi:=sv->(Int×Int)->Int->Int->Option (Int×Unit)
abbrev uf (R:S):vi:=(λ x0 x1 gi ey=>R (DB x0 x1 gi ey))
def sk (k:Nat) (xx:vi) (a0:D9) (a1:(Int×Int)):Option (Int×Unit):=(xx a0 a1 (a0.length:Int) 0)
def u0 (k:Nat) (xx:vi) (x0:sv) (x1:(Int×Int)) (gi ey:Int):Option (Int×Unit):=(if ey <gi then (if 0<=ey then (if ey <(x0.length:Int) then ((f107 k ((x0.getD (ey).toNat (0,0)).1,(x0.getD (ey).toNat (0,0)).2) x1).bind λ r1=>(if r1.1=true then some (ey,()) else (xx x0 x1 gi (Ar (ey+1))))) else none) else none) else some ((-1),()))
theorem Dz (k:Nat) (G:Nat->S):uf (dc k [0] G (U.at 0))=u0 k (uf (G 0)):=by kernel_rfl
def l0 (k:Nat):Nat->vi
 | 0=>λ _ _ _ _=>none
 |n+1=>u0 k (l0 k n)
noncomputable abbrev wo (k:Nat) (R:Nat->S) (n:Nat):Nat->S:=up R 0 (zv k R 0 n)
theorem De (k:Nat) (R:Nat->S):∀n,uf (zv k R 0 n)=l0 k n
 | 0=>by kernel_rfl
 |n+1=>
  Eq.trans (congrArg uf (CE [] (by kernel_rfl))) ((Dz k _).trans (Eq.trans (b:=u0 k (uf ((wo k R n) 0))) (by kernel_rfl) (by rw [(show uf (wo k R n 0)=_ from De k R n)]<;>kernel_rfl)))
theorem uo (k:Nat) (G:Nat->S) (xs:DL sig):dc k [] G [.c 1 0] (uJ 19 64 sig xs)=sk k (uf (G 0)) xs.1 xs.2.1:=by kernel_rfl
end f154
def f154 (k:Nat) (a0:D9) (a1:(Int×Int)):Option (Int×Unit):=f154.sk k (f154.l0 k k) a0 a1
namespace f154
theorem eq (k:Nat) (xs:DL sig):den T Y (E k) A k aC 0 (uJ 19 64 sig xs) (zf T rs ts)=f154 k xs.1 xs.2.1:=
 Eq.trans (BZ (R:=(λ _ _=>none)) (tb:=U)) ((uo k _ xs).trans (Eq.trans (b:=sk k (uf (zv k (λ _ _=>none) 0 k)) xs.1 xs.2.1) (by kernel_rfl) (by rw [De k (λ _ _=>none) k]<;>kernel_rfl)))
noncomputable def aR (k:Nat):oL:=⟨sig,rs,λ xs=>f154 k xs.1 xs.2.1⟩
theorem ok (k:Nat):cz Try.prog 154 sig rs (λ xs=>f154 k xs.1 xs.2.1):=
 (Au (k:=k) (A:=A) (T:=T) (Y:=Y) (E:=E k) (M:=64) (ts:=ts) Dn ⟨f107.ok k,trivial⟩ ⟨f107.vr,trivial⟩ mixed (f:=154) (fn:=Try.f154) (c:=aC) (by kernel_rfl) (by kernel_rfl) (by kernel_rfl) (by decide) (by kernel_rfl)).congr λ xs=>(eq k xs).symm
theorem vr:vT Try.prog 154:=λ args w=>by kernel_rfl
end f154
namespace f106
noncomputable def aC:Code:=Try.f106.body.getD .skip
abbrev sig:List PT:=[(false,Fy),(false,JZ)]
abbrev rs:List RT:=[.d false .bool]
abbrev ts:List RV:=[.tmp 4]
abbrev S:=St->Option (eP rs)
def Y:dY:=[]
noncomputable def E (k:Nat):Env:=[(154,.c (f154.aR k))]
def A:oK:={}
def U:fD:=[]
noncomputable abbrev dc (k:Nat) (rc:List Nat) (G:Nat->S) (F:List PF):S:=λ σ=>ap T Y (E k) A k (zf T rs ts) (cD T Y (E k) A k (zf T rs ts) aC U rc G 9999 F) .nx σ
def sk (k:Nat) (a0:D9) (a1:(Int×Int)):Option (Bool×Unit):=((f154 k a0 a1).bind λ r1=>some (decide (0<=r1.1),()))
theorem uo (k:Nat) (G:Nat->S) (xs:DL sig):dc k [] G [.c 1 0] (uJ 9 32 sig xs)=sk k xs.1 xs.2.1:=by kernel_rfl
end f106
def f106 (k:Nat) (a0:D9) (a1:(Int×Int)):Option (Bool×Unit):=f106.sk k a0 a1
namespace f106
theorem eq (k:Nat) (xs:DL sig):den T Y (E k) A k aC 0 (uJ 9 32 sig xs) (zf T rs ts)=f106 k xs.1 xs.2.1:=
 Eq.trans (BZ (R:=(λ _ _=>none)) (tb:=U)) ((uo k _ xs).trans (by kernel_rfl))
noncomputable def aR (k:Nat):oL:=⟨sig,rs,λ xs=>f106 k xs.1 xs.2.1⟩
theorem ok (k:Nat):cz Try.prog 106 sig rs (λ xs=>f106 k xs.1 xs.2.1):=
 (Au (k:=k) (A:=A) (T:=T) (Y:=Y) (E:=E k) (M:=32) (ts:=ts) Dn ⟨f154.ok k,trivial⟩ ⟨f154.vr,trivial⟩ mixed (f:=106) (fn:=Try.f106) (c:=aC) (by kernel_rfl) (by kernel_rfl) (by kernel_rfl) (by decide) (by kernel_rfl)).congr λ xs=>(eq k xs).symm
theorem vr:vT Try.prog 106:=λ args w=>by kernel_rfl
end f106
namespace f109
noncomputable def aC:Code:=Try.f109.body.getD .skip
abbrev sig:List PT:=[(true,uv),(true,uv)]
abbrev rs:List RT:=[.d false (.int .i64)]
abbrev ts:List RV:=[.tmp 4]
abbrev S:=St->Option (eP rs)
def Y:dY:=[(88,uv)]
noncomputable def E (k:Nat):Env:=[(110,.c (f110.aR k))]
def A:oK:={}
def U:fD:=[]
noncomputable abbrev dc (k:Nat) (rc:List Nat) (G:Nat->S) (F:List PF):S:=λ σ=>ap T Y (E k) A k (zf T rs ts) (cD T Y (E k) A k (zf T rs ts) aC U rc G 9999 F) .nx σ
def sk (k:Nat) (a0 a1:(Int×Int)):Option (Int×Unit):=((f110 k ([a0.1,a0.2]) ([a1.1,a1.2])).bind λ r1=>some (r1.1,()))
theorem uo (k:Nat) (G:Nat->S) (xs:DL sig):dc k [] G [.c 1 0] (uJ 8 32 sig xs)=sk k xs.1 xs.2.1:=by kernel_rfl
end f109
def f109 (k:Nat) (a0 a1:(Int×Int)):Option (Int×Unit):=f109.sk k a0 a1
namespace f109
theorem eq (k:Nat) (xs:DL sig):den T Y (E k) A k aC 0 (uJ 8 32 sig xs) (zf T rs ts)=f109 k xs.1 xs.2.1:=
 Eq.trans (BZ (R:=(λ _ _=>none)) (tb:=U)) ((uo k _ xs).trans (by kernel_rfl))
noncomputable def aR (k:Nat):oL:=⟨sig,rs,λ xs=>f109 k xs.1 xs.2.1⟩
theorem ok (k:Nat):cz Try.prog 109 sig rs (λ xs=>f109 k xs.1 xs.2.1):=
 (Au (k:=k) (A:=A) (T:=T) (Y:=Y) (E:=E k) (M:=32) (ts:=ts) Dn ⟨f110.ok k,trivial⟩ ⟨f110.vr,trivial⟩ mixed (f:=109) (fn:=Try.f109) (c:=aC) (by kernel_rfl) (by kernel_rfl) (by kernel_rfl) (by decide) (by kernel_rfl)).congr λ xs=>(eq k xs).symm
theorem vr:vT Try.prog 109:=λ args w=>by kernel_rfl
end f109
namespace f108
abbrev sig:List PT:=[(false,.fn 109)]
abbrev rs:List RT:=[]
abbrev ls:List LO:=[.row uv]
end f108
def f108 (k:Nat) (a:sv) (a0:Unit):Option ((sv×Unit)×Unit):=qa (e:=uv) (λ x y=>f109 k x y) a
namespace f108
noncomputable def aR (k:Nat):kG:=⟨0,true,ls,sig,rs,λ x xs=>f108 k x.1 xs.1⟩
theorem ok (k:Nat):gT Try.prog 108 0 true ls sig rs (λ x xs=>f108 k x.1 xs.1):=Bg (e:=uv) (f:=λ x y=>f109 k x y) Try.Kb rfl (λ w=>by kernel_rfl) (λ w=>by kernel_rfl) (f109.ok k) f109.vr
theorem vr:vT Try.prog 108:=λ args w=>by kernel_rfl
end f108
namespace f111
noncomputable def aC:Code:=Try.f111.body.getD .skip
abbrev sig:List PT:=[]
abbrev rs:List RT:=[]
abbrev ts:List RV:=[.tmp 2]
abbrev ls:List LO:=[.row uv]
abbrev S:=St->Option (cu ls×eP rs)
def Y:dY:=[(1000059,uv)]
noncomputable def E (k:Nat):Env:=[]
def A:oK:={ loops:=[(0,{ slots:=[(0,.id),(3,.id)],keys:=[(0,[])] }),(2,{ slots:=[(0,.id),(3,.id),(4,.id),(5,.id)],keys:=[(0,[])] })],conds:=[(7,{ slots:=[(0,.id),(3,.id)],keys:=[(0,[])] }),(12,{ slots:=[(0,.id),(3,.id),(4,.id),(5,.id)],keys:=[(0,[])] })] }
def U:fD:=[(0,[.c 116 0,.r 0,.b 0,.c 15 0]),(8,[.c 119380 2,.r 2,.b 2,.c 14923 1,.d 7,.b 1,.c 467 0,.r 0,.b 0,.c 15 0]),(29,[.b 1,.c 467 0,.r 0,.b 0,.c 15 0]),(49,[.b 3,.c 477523 2,.r 2,.b 2,.c 14923 1,.d 7,.b 1,.c 467 0,.r 0,.b 0,.c 15 0])]
noncomputable abbrev fz (k:Nat) (R:Nat->S) (q:Nat):S:=cx T Y (E k) A k (yp T false ls rs ts) aC U R q
noncomputable abbrev k5 (k:Nat) (rc:List Nat) (R:Nat->S):Nat->S:=ext T Y (E k) A k (yp T false ls rs ts) aC U rc R
noncomputable abbrev zv (k:Nat) (R:Nat->S) (i n:Nat):S:=lx T Y (E k) A k (yp T false ls rs ts) aC U R i n
noncomputable abbrev dc (k:Nat) (rc:List Nat) (G:Nat->S) (F:List PF):S:=λ σ=>ap T Y (E k) A k (yp T false ls rs ts) (cD T Y (E k) A k (yp T false ls rs ts) aC U rc G 9999 F) .nx σ
def DB (y0:sv) (dr:Int):St:=C9 61 192 [(0,aO 0),(3,aI dr)] [(0,.vec uv y0)]
abbrev vi:=sv->Int->Option ((sv×Unit)×(Unit))
abbrev uf (R:S):vi:=(λ y0 dr=>R (DB y0 dr))
def EW (y0:sv) (dr:Int) (Ej ER:Nat) (k6:Int):St:=C9 61 192 [(0,aO 0),(3,aI dr),(4,.cp (.one (.part 0 2 Ej ER))),(5,aI k6)] [(0,.vec uv y0)]
abbrev Du:=sv->Int->Nat->Nat->Int->Option ((sv×Unit)×(Unit))
abbrev Ad (R:S):Du:=(λ y0 dr Ej ER k6=>R (EW y0 dr Ej ER k6))
def IE (y0:sv) (dr:Int):St:=C9 61 192 [(0,aO 0),(3,aI dr)] [(0,.vec uv y0)]
abbrev Fo:=sv->Int->Option ((sv×Unit)×(Unit))
abbrev EB (R:S):Fo:=(λ y0 dr=>R (IE y0 dr))
def G9 (y0:sv) (dr:Int) (Ej ER:Nat) (k6:Int):St:=C9 61 192 [(0,aO 0),(3,aI dr),(4,.cp (.one (.part 0 2 Ej ER))),(5,aI k6)] [(0,.vec uv y0)]
abbrev E6:=sv->Int->Nat->Nat->Int->Option ((sv×Unit)×(Unit))
abbrev En (R:S):E6:=(λ y0 dr Ej ER k6=>R (G9 y0 dr Ej ER k6))
def sk (k:Nat) (xx:vi) (a:D9):Option ((sv×Unit)×(Unit)):=(if (a.length:Int) <2 then some ((a,()),(())) else (xx a 1))
def u0 (k:Nat) (DT:Du) (GA:Fo) (y0:sv) (dr:Int):Option ((sv×Unit)×(Unit)):=(if dr <(y0.length:Int) then (if 0<=dr then (if dr <(y0.length:Int) then (if 0<=(Ar (dr - 1)) then (if (Ar (dr - 1)) <(y0.length:Int) then (if (((y0.getD ((dr).toNat) (0,0)).1)=((y0.getD ((Ar (dr - 1)).toNat) (0,0)).1))/\(((y0.getD ((dr).toNat) (0,0)).2)=((y0.getD ((Ar (dr - 1)).toNat) (0,0)).2)) then (if 0<=dr then (if dr<=(y0.length:Int) then (DT y0 dr ((dr).toNat) ((y0.length:Int).toNat - (dr).toNat) 1) else none) else none) else (GA y0 dr)) else none) else none) else none) else none) else some ((y0,()),(())))
def Dl (k:Nat) (F1:E6) (y0:sv) (dr:Int) (Ej ER:Nat) (k6:Int):Option ((sv×Unit)×(Unit)):=(if k6 <(ER:Int) then (if 0<=k6 then (if k6 <(ER:Int) then (if 0<=(Ar (k6 - 1)) then (if (Ar (k6 - 1)) <(ER:Int) then (if ¬((((y0.getD (Ej+(k6).toNat) (0,0)).1)=((y0.getD (Ej+(Ar (k6 - 1)).toNat) (0,0)).1))/\(((y0.getD (Ej+(k6).toNat) (0,0)).2)=((y0.getD (Ej+(Ar (k6 - 1)).toNat) (0,0)).2))) then (if 0<=k6 then (if k6 <(ER:Int) then (if 0<=dr then (if dr <(y0.length:Int) then (F1 (y0.set ((dr).toNat) ((y0.getD (Ej+(k6).toNat) (0,0)).1,(y0.getD (Ej+(k6).toNat) (0,0)).2)) (Ar (dr+1)) Ej ER k6) else none) else none) else none) else none) else (F1 y0 dr Ej ER k6)) else none) else none) else none) else none) else (if 0<=dr then (if dr<=(y0.length:Int) then (if 0<=dr then (if dr<=((xK y0 ((0,0):(Int×Int)) ((dr).toNat) ((y0.length:Int).toNat - (dr).toNat)).length:Int) then some ((((xK y0 ((0,0):(Int×Int)) ((dr).toNat) ((y0.length:Int).toNat - (dr).toNat)).take (dr).toNat),()),(())) else none) else none) else none) else none))
def FM (k:Nat) (xx:vi) (y0:sv) (dr:Int):Option ((sv×Unit)×(Unit)):=(xx y0 (Ar (dr+1)))
def EL (k:Nat) (DT:Du) (y0:sv) (dr:Int) (Ej ER:Nat) (k6:Int):Option ((sv×Unit)×(Unit)):=(DT y0 dr Ej ER (Ar (k6+1)))
theorem GK (k:Nat) (G:Nat->S):En (dc k [8,0] G (U.at 49))=EL k (Ad (G 8)):=by kernel_rfl
def F7 (k:Nat) (Ey:Du) (Dp:vi):E6:=EL k Ey
theorem GJ (k:Nat) (R:Nat->S):En (fz k R 49)=F7 k (Ad (R 8)) (uf (R 0)):=
 Eq.trans (congrArg En (BW [8,0] (by kernel_rfl))) ((GK k _).trans (by kernel_rfl))
theorem EV (k:Nat) (G:Nat->S):Ad (dc k [8,0] G (U.at 8))=Dl k (En (G 49)):=by kernel_rfl
def l2 (k:Nat) (Dp:vi):Nat->Du
 | 0=>λ _ _ _ _ _=>none
 |n+1=>Dl k (F7 k (l2 k Dp n) Dp)
noncomputable abbrev DH (k:Nat) (R:Nat->S) (n:Nat):Nat->S:=up R 8 (zv k R 2 n)
theorem Eg (k:Nat) (R:Nat->S):∀n,Ad (zv k R 2 n)=l2 k (uf (R 0)) n
 | 0=>by kernel_rfl
 |n+1=>
  Eq.trans (congrArg Ad (CE [0] (by kernel_rfl))) ((EV k _).trans (Eq.trans (b:=Dl k (En (fz k (DH k R n) 49))) (by kernel_rfl) (by rw [GJ k (DH k R n),(show Ad (DH k R n 8)=_ from Eg k R n)]<;>kernel_rfl)))
theorem H6 (k:Nat) (G:Nat->S):EB (dc k [0] G (U.at 29))=FM k (uf (G 0)):=by kernel_rfl
def ox (k:Nat) (Dp:vi):Fo:=FM k Dp
theorem Hh (k:Nat) (R:Nat->S):EB (fz k R 29)=ox k (uf (R 0)):=
 Eq.trans (congrArg EB (BW [0] (by kernel_rfl))) ((H6 k _).trans (by kernel_rfl))
theorem Dz (k:Nat) (G:Nat->S):uf (dc k [0] G (U.at 0))=u0 k (Ad (G 8)) (EB (G 29)):=by kernel_rfl
def l0 (k:Nat):Nat->vi
 | 0=>λ _ _=>none
 |n+1=>u0 k (l2 k (l0 k n) k) (ox k (l0 k n))
noncomputable abbrev wo (k:Nat) (R:Nat->S) (n:Nat):Nat->S:=up R 0 (zv k R 0 n)
theorem De (k:Nat) (R:Nat->S):∀n,uf (zv k R 0 n)=l0 k n
 | 0=>by kernel_rfl
 |n+1=>
  Eq.trans (congrArg uf (CE [] (by kernel_rfl))) ((Dz k _).trans (Eq.trans (b:=u0 k (Ad (zv k (wo k R n) 2 k)) (EB (fz k (wo k R n) 29))) (by kernel_rfl) (by rw [Eg k (wo k R n) k,Hh k (wo k R n),(show uf (wo k R n 0)=_ from De k R n)]<;>kernel_rfl)))
theorem uo (k:Nat) (G:Nat->S) (x:cu ls) (xs:DL sig):dc k [] G [.c 1 0] (gR 61 192 0 ls x sig xs)=sk k (uf (G 0)) x.1:=by kernel_rfl
end f111
def f111 (k:Nat) (a:D9):Option ((sv×Unit)×(Unit)):=f111.sk k (f111.l0 k k) a
namespace f111
theorem eq (k:Nat) (x:cu ls) (xs:DL sig):den T Y (E k) A k aC 0 (gR 61 192 0 ls x sig xs) (yp T false ls rs ts)=f111 k x.1:=
 Eq.trans (BZ (R:=(λ _ _=>none)) (tb:=U)) ((uo k _ x xs).trans (Eq.trans (b:=sk k (uf (zv k (λ _ _=>none) 0 k)) x.1) (by kernel_rfl) (by rw [De k (λ _ _=>none) k]<;>kernel_rfl)))
noncomputable def aR (k:Nat):kG:=⟨0,false,ls,sig,rs,λ x xs=>f111 k x.1⟩
theorem ok (k:Nat):gT Try.prog 111 0 false ls sig rs (λ x xs=>f111 k x.1):=
 (Av (k:=k) (A:=A) (T:=T) (Y:=Y) (E:=E k) (M:=192) (ts:=ts) Dn trivial trivial mixed (f:=111) (fn:=Try.f111) (c:=aC) (by kernel_rfl) (by kernel_rfl) (by kernel_rfl) (by decide) (by kernel_rfl) (by decide)).congr λ x xs=>(eq k x xs).symm
theorem vr:vT Try.prog 111:=λ args w=>by kernel_rfl
end f111
namespace f50
noncomputable def aC:Code:=Try.f50.body.getD .skip
abbrev sig:List PT:=[(false,Fy)]
abbrev rs:List RT:=[.new uv]
abbrev ts:List RV:=[.tmp 2]
abbrev S:=St->Option (eP rs)
def Y:dY:=[(88,uv)]
noncomputable def E (k:Nat):Env:=[(106,.c (f106.aR k)),(108,.b (f108.aR k)),(111,.b (f111.aR k))]
def A:oK:={ loops:=[(0,{ Bc:=[(3,19,uv)],slots:=[(0,.val false uv),(3,.id),(6,.val false uv),(7,.id),(8,.id)],keys:=[(19,[])] })],conds:=[(6,{ Bc:=[(3,19,uv)],slots:=[(0,.val false uv),(3,.id),(6,.val false uv),(7,.id),(8,.id)],keys:=[(19,[])] })] }
def U:fD:=[(0,[.c 116 0,.r 0,.b 0,.c 15 0]),(25,[.b 1,.c 935 0,.r 0,.b 0,.c 15 0])]
noncomputable abbrev fz (k:Nat) (R:Nat->S) (q:Nat):S:=cx T Y (E k) A k (zf T rs ts) aC U R q
noncomputable abbrev k5 (k:Nat) (rc:List Nat) (R:Nat->S):Nat->S:=ext T Y (E k) A k (zf T rs ts) aC U rc R
noncomputable abbrev zv (k:Nat) (R:Nat->S) (i n:Nat):S:=lx T Y (E k) A k (zf T rs ts) aC U R i n
noncomputable abbrev dc (k:Nat) (rc:List Nat) (G:Nat->S) (F:List PF):S:=λ σ=>ap T Y (E k) A k (zf T rs ts) (cD T Y (E k) A k (zf T rs ts) aC U rc G 9999 F) .nx σ
def DB (FK x0:sv) (gi ey:Int):St:=C9 25 80 [(0,aV uv x0),(3,aO 19),(6,aV uv x0),(7,aI gi),(8,aI ey)] [(19,.vec uv FK)]
abbrev vi:=sv->sv->Int->Int->Option (sv×Unit)
abbrev uf (R:S):vi:=(λ FK x0 gi ey=>R (DB FK x0 gi ey))
def ID (FK x0:sv) (gi ey:Int):St:=C9 25 80 [(0,aV uv x0),(3,aO 19),(6,aV uv x0),(7,aI gi),(8,aI ey)] [(19,.vec uv FK)]
abbrev FD:=sv->sv->Int->Int->Option (sv×Unit)
abbrev EG (R:S):FD:=(λ FK x0 gi ey=>R (ID FK x0 gi ey))
def sk (k:Nat) (xx:vi) (a0:D9):Option (sv×Unit):=(xx ([]:List (Int×Int)) a0 (a0.length:Int) 0)
def u0 (k:Nat) (Ge:FD) (FK x0:sv) (gi ey:Int):Option (sv×Unit):=(if ey <gi then (if 0<=ey then (if ey <(x0.length:Int) then ((f106 k x0 ((x0.getD (ey).toNat (0,0)).1,(x0.getD (ey).toNat (0,0)).2)).bind λ r1=>(if ¬(r1.1=true) then (if (FK.length+1) * 16<=140737488355328 then (Ge (FK++[((x0.getD (ey).toNat (0,0)).1,(x0.getD (ey).toNat (0,0)).2)]) x0 gi ey) else none) else (Ge FK x0 gi ey))) else none) else none) else ((f108 k FK ()).bind λ r2=>((f111 k r2.1.1).bind λ r3=>some (r3.1.1,()))))
def E1 (k:Nat) (xx:vi) (FK x0:sv) (gi ey:Int):Option (sv×Unit):=(xx FK x0 gi (Ar (ey+1)))
theorem HZ (k:Nat) (G:Nat->S):EG (dc k [0] G (U.at 25))=E1 k (uf (G 0)):=by kernel_rfl
def mm (k:Nat) (Dp:vi):FD:=E1 k Dp
theorem HY (k:Nat) (R:Nat->S):EG (fz k R 25)=mm k (uf (R 0)):=
 Eq.trans (congrArg EG (BW [0] (by kernel_rfl))) ((HZ k _).trans (by kernel_rfl))
theorem Dz (k:Nat) (G:Nat->S):uf (dc k [0] G (U.at 0))=u0 k (EG (G 25)):=by kernel_rfl
def l0 (k:Nat):Nat->vi
 | 0=>λ _ _ _ _=>none
 |n+1=>u0 k (mm k (l0 k n))
noncomputable abbrev wo (k:Nat) (R:Nat->S) (n:Nat):Nat->S:=up R 0 (zv k R 0 n)
theorem De (k:Nat) (R:Nat->S):∀n,uf (zv k R 0 n)=l0 k n
 | 0=>by kernel_rfl
 |n+1=>
  Eq.trans (congrArg uf (CE [] (by kernel_rfl))) ((Dz k _).trans (Eq.trans (b:=u0 k (EG (fz k (wo k R n) 25))) (by kernel_rfl) (by rw [HY k (wo k R n),(show uf (wo k R n 0)=_ from De k R n)]<;>kernel_rfl)))
theorem uo (k:Nat) (G:Nat->S) (xs:DL sig):dc k [] G [.c 1 0] (uJ 25 80 sig xs)=sk k (uf (G 0)) xs.1:=by kernel_rfl
end f50
def f50 (k:Nat) (a0:D9):Option (sv×Unit):=f50.sk k (f50.l0 k k) a0
namespace f50
theorem eq (k:Nat) (xs:DL sig):den T Y (E k) A k aC 0 (uJ 25 80 sig xs) (zf T rs ts)=f50 k xs.1:=
 Eq.trans (BZ (R:=(λ _ _=>none)) (tb:=U)) ((uo k _ xs).trans (Eq.trans (b:=sk k (uf (zv k (λ _ _=>none) 0 k)) xs.1) (by kernel_rfl) (by rw [De k (λ _ _=>none) k]<;>kernel_rfl)))
noncomputable def aR (k:Nat):oL:=⟨sig,rs,λ xs=>f50 k xs.1⟩
theorem ok (k:Nat):cz Try.prog 50 sig rs (λ xs=>f50 k xs.1):=
 (Au (k:=k) (A:=A) (T:=T) (Y:=Y) (E:=E k) (M:=80) (ts:=ts) Dn ⟨f106.ok k,f108.ok k,f111.ok k,trivial⟩ ⟨f106.vr,f108.vr,f111.vr,trivial⟩ mixed (f:=50) (fn:=Try.f50) (c:=aC) (by kernel_rfl) (by kernel_rfl) (by kernel_rfl) (by decide) (by kernel_rfl)).congr λ xs=>(eq k xs).symm
theorem vr:vT Try.prog 50:=λ args w=>by kernel_rfl
end f50
namespace f46
noncomputable def aC:Code:=Try.f46.body.getD .skip
abbrev sig:List PT:=[]
abbrev rs:List RT:=[.d false .bool]
abbrev ts:List RV:=[.tmp 0]
abbrev S:=St->Option (eP rs)
def Y:dY:=[(88,uv)]
noncomputable def E (k:Nat):Env:=[(49,.c (f49.aR k)),(50,.c (f50.aR k))]
def A:oK:={}
def U:fD:=[]
noncomputable abbrev dc (k:Nat) (rc:List Nat) (G:Nat->S) (F:List PF):S:=λ σ=>ap T Y (E k) A k (zf T rs ts) (cD T Y (E k) A k (zf T rs ts) aC U rc G 9999 F) .nx σ
def sk (k:Nat)  :Option (Bool×Unit):=((f50 k ([(2,2),(1,1)])).bind λ r1=>((f49 k r1.1 ([(1,1)])).bind λ r2=>some (decide (r2.1=true),())))
theorem uo (k:Nat) (G:Nat->S) (xs:DL sig):dc k [] G [.c 1 0] (uJ 8 32 sig xs)=sk k  :=by kernel_rfl
end f46
def f46 (k:Nat)  :Option (Bool×Unit):=f46.sk k
namespace f46
theorem eq (k:Nat) (xs:DL sig):den T Y (E k) A k aC 0 (uJ 8 32 sig xs) (zf T rs ts)=f46 k  :=
 Eq.trans (BZ (R:=(λ _ _=>none)) (tb:=U)) ((uo k _ xs).trans (by kernel_rfl))
noncomputable def aR (k:Nat):oL:=⟨sig,rs,λ xs=>f46 k ⟩
theorem ok (k:Nat):cz Try.prog 46 sig rs (λ xs=>f46 k ):=
 (Au (k:=k) (A:=A) (T:=T) (Y:=Y) (E:=E k) (M:=32) (ts:=ts) Dn ⟨f49.ok k,f50.ok k,trivial⟩ ⟨f49.vr,f50.vr,trivial⟩ mixed (f:=46) (fn:=Try.f46) (c:=aC) (by kernel_rfl) (by kernel_rfl) (by kernel_rfl) (by decide) (by kernel_rfl)).congr λ xs=>(eq k xs).symm
theorem vr:vT Try.prog 46:=λ args w=>by kernel_rfl
end f46
namespace f47
noncomputable def aC:Code:=Try.f47.body.getD .skip
abbrev sig:List PT:=[(true,FF),(false,(.int .i64)),(false,Ee)]
abbrev rs:List RT:=[.d false Ee,.d false (.int .i64),.d false (.int .i64)]
abbrev ts:List RV:=[.tmp 6,.tmp 7,.tmp 8]
abbrev S:=St->Option (eP rs)
def Y:dY:=[(3,(.int .i64))]
noncomputable def E (k:Nat):Env:=[(15,.c (f15.aR k)),(105,.c (f105.aR k))]
def A:oK:={ loops:=[(0,{ Bc:=[(9,74,(.int .i64))],slots:=[(3,.id),(9,.id),(10,.id),(11,.id),(19,.val false (.int .i64)),(20,.id),(21,.id)],keys:=[(3,[.val false uv,.val false Dd,.val false uv]),(74,[])] }),(2,{ Bc:=[(9,74,(.int .i64)),(14,59,(.int .i64))],slots:=[(3,.id),(9,.id),(10,.id),(11,.id),(13,.id),(14,.id),(19,.val false (.int .i64)),(20,.id),(21,.id),(26,.val false Dd),(27,.id),(28,.id)],keys:=[(3,[.val false uv,.val false Dd,.val false uv]),(59,[]),(74,[])] })],qg:=[(0,{ Bc:=[(9,74,(.int .i64))],slots:=[(9,.id),(10,.id),(11,.id)],keys:=[(74,[])] })],qA:=[(10,{ Bc:=[(9,74,(.int .i64)),(14,59,(.int .i64))],slots:=[(3,.id),(9,.id),(10,.id),(11,.id),(13,.id),(14,.id),(15,.id),(19,.val false (.int .i64)),(20,.id),(21,.id),(26,.val false Dd),(27,.id),(28,.id),(55,.bool)],keys:=[(3,[.val false uv,.val false Dd,.val false uv]),(59,[]),(74,[])] })],conds:=[(11,{ Bc:=[(9,74,(.int .i64)),(14,59,(.int .i64))],slots:=[(3,.id),(9,.id),(10,.id),(11,.id),(13,.id),(14,.id),(19,.val false (.int .i64)),(20,.id),(21,.id),(26,.val false Dd),(27,.id),(28,.id)],keys:=[(3,[.val false uv,.val false Dd,.val false uv]),(59,[]),(74,[])] })] }
def U:fD:=[(0,[.c 244 0,.r 0,.b 0,.c 31 0]),(8,[.c 250676 2,.r 2,.b 2,.c 31335 1,.b 1,.c 1959 0,.r 0,.b 0,.c 31 0]),(2,[.c 31 0]),(43,[.c 16043315 3,.b 3,.c 2005415 2,.r 2,.b 2,.c 31335 1,.b 1,.c 1959 0,.r 0,.b 0,.c 31 0]),(45,[.b 3,.c 2005415 2,.r 2,.b 2,.c 31335 1,.b 1,.c 1959 0,.r 0,.b 0,.c 31 0])]
noncomputable abbrev fz (k:Nat) (R:Nat->S) (q:Nat):S:=cx T Y (E k) A k (zf T rs ts) aC U R q
noncomputable abbrev k5 (k:Nat) (rc:List Nat) (R:Nat->S):Nat->S:=ext T Y (E k) A k (zf T rs ts) aC U rc R
noncomputable abbrev zv (k:Nat) (R:Nat->S) (i n:Nat):S:=lx T Y (E k) A k (zf T rs ts) aC U R i n
noncomputable abbrev dc (k:Nat) (rc:List Nat) (G:Nat->S) (F:List PF):S:=λ σ=>ap T Y (E k) A k (zf T rs ts) (cD T Y (E k) A k (zf T rs ts) aC U rc G 9999 F) .nx σ
def DB (DE:sv) (Ds:wv) (D2:sv) (DS:ur) (Dq z1:Int) (Er:ur) (Ex DP:Int):St:=C9 93 288 [(3,aP 3),(9,aO 74),(10,aI Dq),(11,aI z1),(19,aV (.int .i64) Er),(20,aI Ex),(21,aI DP)] [(3,.box [cV uv DE,cV Dd Ds,cV uv D2]),(74,.vec (.int .i64) DS)]
abbrev vi:=sv->wv->sv->ur->Int->Int->ur->Int->Int->Option (ur×Int×Int×Unit)
abbrev uf (R:S):vi:=(λ DE Ds D2 DS Dq z1 Er Ex DP=>R (DB DE Ds D2 DS Dq z1 Er Ex DP))
def EW (DE:sv) (Ds:wv) (D2:sv) (Ei DS:ur) (Dq z1 Dg:Int) (Er:ur) (Ex DP D0 x28:Int):St:=C9 93 288 [(3,aP 3),(9,aO 74),(10,aI Dq),(11,aI z1),(13,aI Dg),(14,aO 59),(19,aV (.int .i64) Er),(20,aI Ex),(21,aI DP),(26,aV Dd Ds),(27,aI D0),(28,aI x28)] [(3,.box [cV uv DE,cV Dd Ds,cV uv D2]),(59,.vec (.int .i64) Ei),(74,.vec (.int .i64) DS)]
abbrev Du:=sv->wv->sv->ur->ur->Int->Int->Int->ur->Int->Int->Int->Int->Option (ur×Int×Int×Unit)
abbrev Ad (R:S):Du:=(λ DE Ds D2 Ei DS Dq z1 Dg Er Ex DP D0 x28=>R (EW DE Ds D2 Ei DS Dq z1 Dg Er Ex DP D0 x28))
def M0 (DS:ur) (Dq z1:Int):St:=C9 93 288 [(9,aO 74),(10,aI Dq),(11,aI z1)] [(74,.vec (.int .i64) DS)]
abbrev Jn:=ur->Int->Int->Option (ur×Int×Int×Unit)
abbrev GC (R:S):Jn:=(λ DS Dq z1=>R (M0 DS Dq z1))
def Jk (DE:sv) (Ds:wv) (D2:sv) (Ei DS:ur) (Dq z1 Dg FJ:Int) (Er:ur) (Ex DP D0:Int) (JQ:Bool):St:=C9 93 288 [(3,aP 3),(9,aO 74),(10,aI Dq),(11,aI z1),(13,aI Dg),(14,aO 59),(15,aI FJ),(19,aV (.int .i64) Er),(20,aI Ex),(21,aI DP),(26,aV Dd Ds),(27,aI D0),(28,aI FJ),(55,aB JQ)] [(3,.box [cV uv DE,cV Dd Ds,cV uv D2]),(59,.vec (.int .i64) Ei),(74,.vec (.int .i64) DS)]
abbrev F4:=sv->wv->sv->ur->ur->Int->Int->Int->Int->ur->Int->Int->Int->Bool->Option (ur×Int×Int×Unit)
abbrev E3 (R:S):F4:=(λ DE Ds D2 Ei DS Dq z1 Dg FJ Er Ex DP D0 JQ=>R (Jk DE Ds D2 Ei DS Dq z1 Dg FJ Er Ex DP D0 JQ))
def L7 (DE:sv) (Ds:wv) (D2:sv) (Ei DS:ur) (Dq z1 Dg:Int) (Er:ur) (Ex DP D0 x28:Int):St:=C9 93 288 [(3,aP 3),(9,aO 74),(10,aI Dq),(11,aI z1),(13,aI Dg),(14,aO 59),(19,aV (.int .i64) Er),(20,aI Ex),(21,aI DP),(26,aV Dd Ds),(27,aI D0),(28,aI x28)] [(3,.box [cV uv DE,cV Dd Ds,cV uv D2]),(59,.vec (.int .i64) Ei),(74,.vec (.int .i64) DS)]
abbrev Jp:=sv->wv->sv->ur->ur->Int->Int->Int->ur->Int->Int->Int->Int->Option (ur×Int×Int×Unit)
abbrev GS (R:S):Jp:=(λ DE Ds D2 Ei DS Dq z1 Dg Er Ex DP D0 x28=>R (L7 DE Ds D2 Ei DS Dq z1 Dg Er Ex DP D0 x28))
def sk (k:Nat) (xx:vi) (a0:Df) (a1:Int) (a2:ur):Option (ur×Int×Int×Unit):=(xx a0.1 a0.2.1 a0.2.2 ([]:List Int) 0 a1 a2 (a2.length:Int) 0)
def u0 (k:Nat) (DT:Du) (J6:Jn) (DE:sv) (Ds:wv) (D2:sv) (DS:ur) (Dq z1:Int) (Er:ur) (Ex DP:Int):Option (ur×Int×Int×Unit):=(if DP <Ex then (if 0<=DP then (if DP <(Er.length:Int) then (DT DE Ds D2 ([]:List Int) DS Dq z1 (Er.getD (DP).toNat 0) Er Ex DP (Ds.length:Int) 0) else none) else none) else (J6 DS Dq z1))
def Dl (k:Nat) (xx:vi) (J6:Jn) (Gq:F4) (DE:sv) (Ds:wv) (D2:sv) (Ei DS:ur) (Dq z1 Dg:Int) (Er:ur) (Ex DP D0 x28:Int):Option (ur×Int×Int×Unit):=(if x28 <D0 then (if 0<=x28 then (if x28 <(Ds.length:Int) then (if ((Ds.getD (x28).toNat (0,(0,(0,0)))).1)=z1 then (if (DS.length:Int)=0 then (Gq DE Ds D2 Ei DS Dq z1 Dg x28 Er Ex DP D0 true) else (if 0<=(Ar ((DS.length:Int) - 1)) then (if (Ar ((DS.length:Int) - 1)) <(DS.length:Int) then ((f105 k D2 ((DS.getD ((Ar ((DS.length:Int) - 1)).toNat) 0),x28)).bind λ r1=>(Gq DE Ds D2 Ei DS Dq z1 Dg x28 Er Ex DP D0 (decide (¬(r1.1=true))))) else none) else none)) else (Gq DE Ds D2 Ei DS Dq z1 Dg x28 Er Ex DP D0 false)) else none) else none) else (if (Ei.length:Int)=0 then (J6 DS Dq z1) else ((f15 k Dg (Ei.length:Int)).bind λ r2=>(if 0<=r2.1 then (if r2.1 <(Ei.length:Int) then (if (DS.length+1) * 8<=140737488355328 then (if 0<=(Ei.getD ((r2.1).toNat) 0) then (if (Ei.getD ((r2.1).toNat) 0) <(Ds.length:Int) then (if 0<=(Ei.getD ((r2.1).toNat) 0) then (if (Ei.getD ((r2.1).toNat) 0) <(Ds.length:Int) then (xx DE Ds D2 (DS++[(Ei.getD ((r2.1).toNat) 0)]) (Ar (Dq+((((Ds.getD ((Ei.getD ((r2.1).toNat) 0)).toNat (0,(0,(0,0)))).2).2).1))) (((Ds.getD ((Ei.getD ((r2.1).toNat) 0)).toNat (0,(0,(0,0)))).2).1) Er Ex (Ar (DP+1))) else none) else none) else none) else none) else none) else none) else none))))
def IZ (k:Nat) (DS:ur) (Dq z1:Int):Option (ur×Int×Int×Unit):=some (DS,Dq,z1,())
def ET (k:Nat) (Kz:Jp) (DE:sv) (Ds:wv) (D2:sv) (Ei DS:ur) (Dq z1 Dg FJ:Int) (Er:ur) (Ex DP D0:Int) (JQ:Bool):Option (ur×Int×Int×Unit):=(if JQ=true then (if (Ei.length+1) * 8<=140737488355328 then (Kz DE Ds D2 (Ei++[FJ]) DS Dq z1 Dg Er Ex DP D0 FJ) else none) else (Kz DE Ds D2 Ei DS Dq z1 Dg Er Ex DP D0 FJ))
def HN (k:Nat) (DT:Du) (DE:sv) (Ds:wv) (D2:sv) (Ei DS:ur) (Dq z1 Dg:Int) (Er:ur) (Ex DP D0 x28:Int):Option (ur×Int×Int×Unit):=(DT DE Ds D2 Ei DS Dq z1 Dg Er Ex DP D0 (Ar (x28+1)))
theorem MC (k:Nat) (G:Nat->S):GC (dc k [] G (U.at 2))=IZ k:=by kernel_rfl
def b0 (k:Nat):Jn:=IZ k
theorem K6 (k:Nat) (R:Nat->S):GC (fz k R 2)=b0 k:=
 Eq.trans (congrArg GC (BW [] (by kernel_rfl))) ((MC k _).trans (by kernel_rfl))
theorem Lx (k:Nat) (G:Nat->S):GS (dc k [8,0] G (U.at 45))=HN k (Ad (G 8)):=by kernel_rfl
def Kv (k:Nat) (Ey:Du) (Dp:vi):Jp:=HN k Ey
theorem Lw (k:Nat) (R:Nat->S):GS (fz k R 45)=Kv k (Ad (R 8)) (uf (R 0)):=
 Eq.trans (congrArg GS (BW [8,0] (by kernel_rfl))) ((Lx k _).trans (by kernel_rfl))
theorem Ja (k:Nat) (G:Nat->S):E3 (dc k [8,0] G (U.at 43))=ET k (GS (G 45)):=by kernel_rfl
def F9 (k:Nat) (Ey:Du) (Dp:vi):F4:=ET k (Kv k Ey Dp)
theorem I9 (k:Nat) (R:Nat->S):E3 (fz k R 43)=F9 k (Ad (R 8)) (uf (R 0)):=
 Eq.trans (congrArg E3 (BW [8,0] (by kernel_rfl))) ((Ja k _).trans (Eq.trans (b:=ET k (GS (fz k R 45))) (by kernel_rfl) (by rw [Lw k R]<;>kernel_rfl)))
theorem EV (k:Nat) (G:Nat->S):Ad (dc k [8,0] G (U.at 8))=Dl k (uf (G 0)) (GC (G 2)) (E3 (G 43)):=by kernel_rfl
def l2 (k:Nat) (Dp:vi):Nat->Du
 | 0=>λ _ _ _ _ _ _ _ _ _ _ _ _ _=>none
 |n+1=>Dl k Dp (b0 k) (F9 k (l2 k Dp n) Dp)
noncomputable abbrev DH (k:Nat) (R:Nat->S) (n:Nat):Nat->S:=up R 8 (zv k R 2 n)
theorem Eg (k:Nat) (R:Nat->S):∀n,Ad (zv k R 2 n)=l2 k (uf (R 0)) n
 | 0=>by kernel_rfl
 |n+1=>
  Eq.trans (congrArg Ad (CE [0] (by kernel_rfl))) ((EV k _).trans (Eq.trans (b:=Dl k (uf ((DH k R n) 0)) (GC (fz k (DH k R n) 2)) (E3 (fz k (DH k R n) 43))) (by kernel_rfl) (by rw [K6 k (DH k R n),I9 k (DH k R n),(show Ad (DH k R n 8)=_ from Eg k R n)]<;>kernel_rfl)))
theorem Dz (k:Nat) (G:Nat->S):uf (dc k [0] G (U.at 0))=u0 k (Ad (G 8)) (GC (G 2)):=by kernel_rfl
def l0 (k:Nat):Nat->vi
 | 0=>λ _ _ _ _ _ _ _ _ _=>none
 |n+1=>u0 k (l2 k (l0 k n) k) (b0 k)
noncomputable abbrev wo (k:Nat) (R:Nat->S) (n:Nat):Nat->S:=up R 0 (zv k R 0 n)
theorem De (k:Nat) (R:Nat->S):∀n,uf (zv k R 0 n)=l0 k n
 | 0=>by kernel_rfl
 |n+1=>
  Eq.trans (congrArg uf (CE [] (by kernel_rfl))) ((Dz k _).trans (Eq.trans (b:=u0 k (Ad (zv k (wo k R n) 2 k)) (GC (fz k (wo k R n) 2))) (by kernel_rfl) (by rw [Eg k (wo k R n) k,K6 k (wo k R n),(show uf (wo k R n 0)=_ from De k R n)]<;>kernel_rfl)))
theorem uo (k:Nat) (G:Nat->S) (xs:DL sig):dc k [] G [.c 1 0] (uJ 93 288 sig xs)=sk k (uf (G 0)) xs.1 xs.2.1 xs.2.2.1:=by kernel_rfl
end f47
def f47 (k:Nat) (a0:Df) (a1:Int) (a2:ur):Option (ur×Int×Int×Unit):=f47.sk k (f47.l0 k k) a0 a1 a2
namespace f47
theorem eq (k:Nat) (xs:DL sig):den T Y (E k) A k aC 0 (uJ 93 288 sig xs) (zf T rs ts)=f47 k xs.1 xs.2.1 xs.2.2.1:=
 Eq.trans (BZ (R:=(λ _ _=>none)) (tb:=U)) ((uo k _ xs).trans (Eq.trans (b:=sk k (uf (zv k (λ _ _=>none) 0 k)) xs.1 xs.2.1 xs.2.2.1) (by kernel_rfl) (by rw [De k (λ _ _=>none) k]<;>kernel_rfl)))
noncomputable def aR (k:Nat):oL:=⟨sig,rs,λ xs=>f47 k xs.1 xs.2.1 xs.2.2.1⟩
theorem ok (k:Nat):cz Try.prog 47 sig rs (λ xs=>f47 k xs.1 xs.2.1 xs.2.2.1):=
 (Au (k:=k) (A:=A) (T:=T) (Y:=Y) (E:=E k) (M:=288) (ts:=ts) Dn ⟨f15.ok k,f105.ok k,trivial⟩ ⟨f15.vr,f105.vr,trivial⟩ mixed (f:=47) (fn:=Try.f47) (c:=aC) (by kernel_rfl) (by kernel_rfl) (by kernel_rfl) (by decide) (by kernel_rfl)).congr λ xs=>(eq k xs).symm
theorem vr:vT Try.prog 47:=λ args w=>by kernel_rfl
end f47
namespace f9
noncomputable def aC:Code:=Try.f9.body.getD .skip
abbrev sig:List PT:=[(false,Ee),(false,Ee),(false,Ee)]
abbrev rs:List RT:=[.d false .bool]
abbrev ts:List RV:=[.tmp 6]
abbrev S:=St->Option (eP rs)
def Y:dY:=[(88,uv)]
noncomputable def E (k:Nat):Env:=[(14,.c (f14.aR k)),(32,.c (f32.aR k)),(40,.c (f40.aR k)),(45,.c (f45.aR k)),(46,.c (f46.aR k)),(47,.c (f47.aR k)),(48,.c (f48.aR k)),(49,.c (f49.aR k)),(50,.c (f50.aR k))]
def A:oK:={ loops:=[(0,{ slots:=[(7,.id),(8,.id),(11,.id),(12,.id),(44,.val false (.int .i64)),(45,.id),(46,.id)],keys:=[(7,[.val false uv,.val false Dd,.val false uv]),(12,[]),(30,[])] }),(2,{ Bc:=[(17,136,uv)],slots:=[(7,.id),(8,.val false (.int .i64)),(12,.id),(17,.id),(18,.bool),(80,.id),(81,.id),(82,.id)],keys:=[(7,[.val false uv,.val false Dd,.val false uv]),(12,[]),(63,[]),(136,[])] }),(4,{ Bc:=[(17,136,uv)],slots:=[(7,.id),(8,.val false (.int .i64)),(12,.id),(17,.id),(18,.bool),(20,.id),(21,.id),(22,.id),(23,.id),(80,.id),(81,.id),(82,.id),(94,.val false (.int .i64)),(95,.id),(96,.id)],keys:=[(7,[.val false uv,.val false Dd,.val false uv]),(12,[]),(20,[.val false (.int .i64),.id,.id]),(63,[]),(136,[])] })],qA:=[(11,{ slots:=[(7,.id),(8,.val false (.int .i64)),(12,.id),(15,.id),(16,.id),(70,.bool)],keys:=[(7,[.val false uv,.val false Dd,.val false uv]),(12,[]),(63,[])] }),(13,{ slots:=[(7,.id),(8,.val false (.int .i64)),(12,.id),(15,.id),(79,.bool)],keys:=[(7,[.val false uv,.val false Dd,.val false uv]),(12,[]),(63,[])] }),(34,{ slots:=[(6,.bool)] }),(25,{ Bc:=[(17,136,uv)],slots:=[(7,.id),(8,.val false (.int .i64)),(12,.id),(17,.id),(18,.bool),(20,.id),(21,.id),(22,.id),(23,.id),(25,.id),(80,.id),(81,.id),(82,.id),(94,.val false (.int .i64)),(95,.id),(96,.id),(107,.bool)],keys:=[(7,[.val false uv,.val false Dd,.val false uv]),(12,[]),(20,[.val false (.int .i64),.id,.id]),(63,[]),(136,[])] }),(29,{ Bc:=[(17,136,uv)],slots:=[(7,.id),(8,.val false (.int .i64)),(12,.id),(17,.id),(18,.bool),(20,.id),(80,.id),(81,.id),(82,.id),(128,.bool)],keys:=[(7,[.val false uv,.val false Dd,.val false uv]),(12,[]),(20,[.val false (.int .i64),.id,.id]),(63,[]),(136,[])] }),(32,{ slots:=[(7,.id),(8,.val false (.int .i64)),(12,.id),(17,.id),(18,.bool),(80,.id),(81,.id),(82,.id)],keys:=[(7,[.val false uv,.val false Dd,.val false uv]),(12,[]),(63,[]),(136,[])] })] }
def U:fD:=[(0,[.c 1012 0,.r 0,.b 0,.c 127 0]),(47,[.c 1021 0,.c 511 0]),(55,[.c 2045 0,.c 1023 0]),(8,[.c 65524 2,.r 2,.b 2,.c 8191 0]),(16,[.c 134194804 4,.r 4,.b 4,.c 16774351 3,.b 3,.c 524199 2,.r 2,.b 2,.c 8191 0]),(139,[.c 16383 0]),(103,[.c 17176935013 5,.c 8588467507 5,.b 5,.c 1073558439 4,.r 4,.b 4,.c 16774351 3,.b 3,.c 524199 2,.r 2,.b 2,.c 8191 0]),(119,[.c 67097405 3,.c 33548703 3,.b 3,.c 524199 2,.r 2,.b 2,.c 8191 0]),(131,[.b 3,.c 524199 2,.r 2,.b 2,.c 8191 0])]
noncomputable abbrev fz (k:Nat) (R:Nat->S) (q:Nat):S:=cx T Y (E k) A k (zf T rs ts) aC U R q
noncomputable abbrev k5 (k:Nat) (rc:List Nat) (R:Nat->S):Nat->S:=ext T Y (E k) A k (zf T rs ts) aC U rc R
noncomputable abbrev zv (k:Nat) (R:Nat->S) (i n:Nat):S:=lx T Y (E k) A k (zf T rs ts) aC U R i n
noncomputable abbrev dc (k:Nat) (rc:List Nat) (G:Nat->S) (F:List PF):S:=λ σ=>ap T Y (E k) A k (zf T rs ts) (cD T Y (E k) A k (zf T rs ts) aC U rc G 9999 F) .nx σ
def DB (Bl Cl:Int) (Gx:ur) (Di:sv) (Dj:wv) (Dk:sv) (z1:Int) (Hf:ur) (EO DC:Int):St:=C9 155 480 [(7,aP 7),(8,aO 30),(11,aI z1),(12,aP 12),(44,aV (.int .i64) Hf),(45,aI EO),(46,aI DC)] [(7,.box [cV uv Di,cV Dd Dj,cV uv Dk]),(12,.box [cI Bl,cI Cl]),(30,.vec (.int .i64) Gx)]
abbrev vi:=Int->Int->ur->sv->wv->sv->Int->ur->Int->Int->Option (Bool×Unit)
abbrev uf (R:S):vi:=(λ Bl Cl Gx Di Dj Dk z1 Hf EO DC=>R (DB Bl Cl Gx Di Dj Dk z1 Hf EO DC))
def Jl (Bl Cl:Int) (DF:ED) (Di:sv) (Dj:wv) (Dk:sv) (Eb:Int) (JT:Bool) (ey:ur):St:=C9 155 480 [(7,aP 7),(8,aV (.int .i64) ey),(12,aP 12),(15,aO 63),(16,aI Eb),(70,aB JT)] [(7,.box [cV uv Di,cV Dd Dj,cV uv Dk]),(12,.box [cI Bl,cI Cl]),(63,.vec DW DF)]
abbrev F5:=Int->Int->ED->sv->wv->sv->Int->Bool->ur->Option (Bool×Unit)
abbrev E4 (R:S):F5:=(λ Bl Cl DF Di Dj Dk Eb JT ey=>R (Jl Bl Cl DF Di Dj Dk Eb JT ey))
def Mc (Bl Cl:Int) (DF:ED) (Di:sv) (Dj:wv) (Dk:sv) (JW:Bool) (ey:ur):St:=C9 155 480 [(7,aP 7),(8,aV (.int .i64) ey),(12,aP 12),(15,aO 63),(79,aB JW)] [(7,.box [cV uv Di,cV Dd Dj,cV uv Dk]),(12,.box [cI Bl,cI Cl]),(63,.vec DW DF)]
abbrev Ju:=Int->Int->ED->sv->wv->sv->Bool->ur->Option (Bool×Unit)
abbrev GY (R:S):Ju:=(λ Bl Cl DF Di Dj Dk JW ey=>R (Mc Bl Cl DF Di Dj Dk JW ey))
def EW (Bl Cl:Int) (DJ:sv) (DF:ED) (Di:sv) (Dj:wv) (Dk:sv) (Ea:Bool) (ey:ur) (DI DR:Int):St:=C9 155 480 [(7,aP 7),(8,aV (.int .i64) ey),(12,aP 12),(17,aO 136),(18,aB Ea),(80,aO 63),(81,aI DI),(82,aI DR)] [(7,.box [cV uv Di,cV Dd Dj,cV uv Dk]),(12,.box [cI Bl,cI Cl]),(63,.vec DW DF),(136,.vec uv DJ)]
abbrev Du:=Int->Int->sv->ED->sv->wv->sv->Bool->ur->Int->Int->Option (Bool×Unit)
abbrev Ad (R:S):Du:=(λ Bl Cl DJ DF Di Dj Dk Ea ey DI DR=>R (EW Bl Cl DJ DF Di Dj Dk Ea ey DI DR))
def IG (Bl Cl:Int) (DJ:sv) (DO:ur) (DU DV:Int) (DF:ED) (Di:sv) (Dj:wv) (Dk:sv) (Ea:Bool) (DP FR FT:Int) (ey:ur) (DI DR x95 x96:Int):St:=C9 155 480 [(7,aP 7),(8,aV (.int .i64) ey),(12,aP 12),(17,aO 136),(18,aB Ea),(20,aP 20),(21,aI DP),(22,aI FR),(23,aI FT),(80,aO 63),(81,aI DI),(82,aI DR),(94,aV (.int .i64) DO),(95,aI x95),(96,aI x96)] [(7,.box [cV uv Di,cV Dd Dj,cV uv Dk]),(12,.box [cI Bl,cI Cl]),(20,.box [cV (.int .i64) DO,cI DU,cI DV]),(63,.vec DW DF),(136,.vec uv DJ)]
abbrev EI:=Int->Int->sv->ur->Int->Int->ED->sv->wv->sv->Bool->Int->Int->Int->ur->Int->Int->Int->Int->Option (Bool×Unit)
abbrev D7 (R:S):EI:=(λ Bl Cl DJ DO DU DV DF Di Dj Dk Ea DP FR FT ey DI DR x95 x96=>R (IG Bl Cl DJ DO DU DV DF Di Dj Dk Ea DP FR FT ey DI DR x95 x96))
def Mk (oy:Bool):St:=C9 155 480 [(6,aB oy)] []
abbrev JC:=Bool->Option (Bool×Unit)
abbrev G6 (R:S):JC:=(λ oy=>R (Mk oy))
def Mh (Bl Cl:Int) (DJ:sv) (DO:ur) (DU DV:Int) (DF:ED) (Di:sv) (Dj:wv) (Dk:sv) (IL Ea:Bool) (DP FR FT x25:Int) (ey:ur) (DI DR x95 x96:Int):St:=C9 155 480 [(7,aP 7),(8,aV (.int .i64) ey),(12,aP 12),(17,aO 136),(18,aB Ea),(20,aP 20),(21,aI DP),(22,aI FR),(23,aI FT),(25,aI x25),(80,aO 63),(81,aI DI),(82,aI DR),(94,aV (.int .i64) DO),(95,aI x95),(96,aI x96),(107,aB IL)] [(7,.box [cV uv Di,cV Dd Dj,cV uv Dk]),(12,.box [cI Bl,cI Cl]),(20,.box [cV (.int .i64) DO,cI DU,cI DV]),(63,.vec DW DF),(136,.vec uv DJ)]
abbrev Jz:=Int->Int->sv->ur->Int->Int->ED->sv->wv->sv->Bool->Bool->Int->Int->Int->Int->ur->Int->Int->Int->Int->Option (Bool×Unit)
abbrev G3 (R:S):Jz:=(λ Bl Cl DJ DO DU DV DF Di Dj Dk IL Ea DP FR FT x25 ey DI DR x95 x96=>R (Mh Bl Cl DJ DO DU DV DF Di Dj Dk IL Ea DP FR FT x25 ey DI DR x95 x96))
def Mi (Bl Cl:Int) (DJ:sv) (DO:ur) (DU DV:Int) (DF:ED) (Di:sv) (Dj:wv) (Dk:sv) (IM Ea:Bool) (ey:ur) (DI DR:Int):St:=C9 155 480 [(7,aP 7),(8,aV (.int .i64) ey),(12,aP 12),(17,aO 136),(18,aB Ea),(20,aP 20),(80,aO 63),(81,aI DI),(82,aI DR),(128,aB IM)] [(7,.box [cV uv Di,cV Dd Dj,cV uv Dk]),(12,.box [cI Bl,cI Cl]),(20,.box [cV (.int .i64) DO,cI DU,cI DV]),(63,.vec DW DF),(136,.vec uv DJ)]
abbrev JA:=Int->Int->sv->ur->Int->Int->ED->sv->wv->sv->Bool->Bool->ur->Int->Int->Option (Bool×Unit)
abbrev G4 (R:S):JA:=(λ Bl Cl DJ DO DU DV DF Di Dj Dk IM Ea ey DI DR=>R (Mi Bl Cl DJ DO DU DV DF Di Dj Dk IM Ea ey DI DR))
def Mj (Bl Cl:Int) (DJ:sv) (DF:ED) (Di:sv) (Dj:wv) (Dk:sv) (Ea:Bool) (ey:ur) (DI DR:Int):St:=C9 155 480 [(7,aP 7),(8,aV (.int .i64) ey),(12,aP 12),(17,aO 136),(18,aB Ea),(80,aO 63),(81,aI DI),(82,aI DR)] [(7,.box [cV uv Di,cV Dd Dj,cV uv Dk]),(12,.box [cI Bl,cI Cl]),(63,.vec DW DF),(136,.vec uv DJ)]
abbrev JB:=Int->Int->sv->ED->sv->wv->sv->Bool->ur->Int->Int->Option (Bool×Unit)
abbrev G5 (R:S):JB:=(λ Bl Cl DJ DF Di Dj Dk Ea ey DI DR=>R (Mj Bl Cl DJ DF Di Dj Dk Ea ey DI DR))
def sk (k:Nat) (xx:vi) (a0 a1 a2:ur):Option (Bool×Unit):=((f14 k a0).bind λ r1=>((f45 k (r1.1.1,(r1.1.2.1,r1.1.2.2)) a1).bind λ r2=>(if 0<=(uB false (a2.length:Int) 10) then (if (uB false (a2.length:Int) 10)<=(a2.length:Int) then ((f47 k (r1.1.1,(r1.1.2.1,r1.1.2.2)) 0 (a2.take ((uB false (a2.length:Int) 10)).toNat)).bind λ r3=>(xx r3.2.1 0 r2.1 r1.1.1 r1.1.2.1 r1.1.2.2 r3.2.2.1 r3.1 (r3.1.length:Int) 0)) else none) else none)))
def u0 (k:Nat) (xx:vi) (GO:F5) (Bl Cl:Int) (Gx:ur) (Di:sv) (Dj:wv) (Dk:sv) (z1:Int) (Hf:ur) (EO DC:Int):Option (Bool×Unit):=(if DC <EO then (if 0<=DC then (if DC <(Hf.length:Int) then (if 0<=(Hf.getD (DC).toNat 0) then (if (Hf.getD (DC).toNat 0) <(Gx.length:Int) then (xx Bl (Ar (Cl+(Gx.getD (((Hf.getD (DC).toNat 0)).toNat) 0))) Gx Di Dj Dk z1 Hf EO (Ar (DC+1))) else none) else none) else none) else none) else ((f40 k (Di,(Dj,Dk)) Gx 0 z1).bind λ r1=>((f46 k ).bind λ r2=>(if r2.1=true then (GO Bl Cl r1.1 Di Dj Dk r1.2.1 (decide (r1.2.1=2)) Gx) else (GO Bl Cl r1.1 Di Dj Dk r1.2.1 false Gx)))))
def Fu (k:Nat) (KD:Ju) (Bl Cl:Int) (DF:ED) (Di:sv) (Dj:wv) (Dk:sv) (Eb:Int) (JT:Bool) (ey:ur):Option (Bool×Unit):=(if JT=true then some (decide ((DF.length:Int)=0),()) else ((f46 k ).bind λ r1=>(if ¬(r1.1=true) then (KD Bl Cl DF Di Dj Dk true ey) else (KD Bl Cl DF Di Dj Dk (decide (¬(Eb=0))) ey))))
def HQ (k:Nat) (DT:Du) (Bl Cl:Int) (DF:ED) (Di:sv) (Dj:wv) (Dk:sv) (JW:Bool) (ey:ur):Option (Bool×Unit):=(if JW=true then some (false,()) else (DT Bl Cl ([]:List (Int×Int)) DF Di Dj Dk false ey (DF.length:Int) 0))
def Dl (k:Nat) (FB:EI) (KJ:JC) (Bl Cl:Int) (DJ:sv) (DF:ED) (Di:sv) (Dj:wv) (Dk:sv) (Ea:Bool) (ey:ur) (DI DR:Int):Option (Bool×Unit):=(if DR <DI then (if 0<=DR then (if DR <(DF.length:Int) then ((f32 k (Di,(Dj,Dk)) ((DF.getD ((DR).toNat) ([],(0,0))).1)).bind λ r1=>(FB Bl Cl DJ ((DF.getD ((DR).toNat) ([],(0,0))).1) (((DF.getD ((DR).toNat) ([],(0,0))).2).1) (((DF.getD ((DR).toNat) ([],(0,0))).2).2) DF Di Dj Dk (decide (Ea=true)) r1.1 r1.2.1 0 ey DI DR (((DF.getD ((DR).toNat) ([],(0,0))).1).length:Int) 0)) else none) else none) else (if Ea=true then ((f50 k DJ).bind λ r2=>((f49 k r2.1 DJ).bind λ r3=>(KJ (decide (r3.1=true))))) else (KJ false)))
def Es (k:Nat) (KH:Jz) (I5:JA) (Bl Cl:Int) (DJ:sv) (DO:ur) (DU DV:Int) (DF:ED) (Di:sv) (Dj:wv) (Dk:sv) (Ea:Bool) (DP FR FT:Int) (ey:ur) (DI DR x95 x96:Int):Option (Bool×Unit):=(if x96 <x95 then (if 0<=x96 then (if x96 <(DO.length:Int) then (if (DO.getD (x96).toNat 0) <0 then (KH Bl Cl DJ DO DU DV DF Di Dj Dk true (decide (Ea=true)) DP FR FT (DO.getD (x96).toNat 0) ey DI DR x95 x96) else (KH Bl Cl DJ DO DU DV DF Di Dj Dk (decide ((ey.length:Int)<=(DO.getD (x96).toNat 0))) (decide (Ea=true)) DP FR FT (DO.getD (x96).toNat 0) ey DI DR x95 x96)) else none) else none) else (if ¬(FR=0) then (I5 Bl Cl DJ DO DU DV DF Di Dj Dk true (decide (Ea=true)) ey DI DR) else (if ¬(DP=DU) then (I5 Bl Cl DJ DO DU DV DF Di Dj Dk true (decide (Ea=true)) ey DI DR) else (I5 Bl Cl DJ DO DU DV DF Di Dj Dk (decide (¬(FT=DV))) (decide (Ea=true)) ey DI DR))))
def Ji (k:Nat) (oy:Bool):Option (Bool×Unit):=some (decide (oy=true),())
def Jg (k:Nat) (FB:EI) (Bl Cl:Int) (DJ:sv) (DO:ur) (DU DV:Int) (DF:ED) (Di:sv) (Dj:wv) (Dk:sv) (IL Ea:Bool) (DP FR FT x25:Int) (ey:ur) (DI DR x95 x96:Int):Option (Bool×Unit):=(if IL=true then some (false,()) else (if 0<=x25 then (if x25 <(ey.length:Int) then (FB Bl Cl DJ DO DU DV DF Di Dj Dk (decide (Ea=true)) DP FR (Ar (FT+(ey.getD (x25).toNat 0))) ey DI DR x95 (Ar (x96+1))) else none) else none))
def HR (k:Nat) (KI:JB) (Bl Cl:Int) (DJ:sv) (DO:ur) (DU DV:Int) (DF:ED) (Di:sv) (Dj:wv) (Dk:sv) (IM Ea:Bool) (ey:ur) (DI DR:Int):Option (Bool×Unit):=(if IM=true then some (false,()) else (if (DJ.length+1) * 16<=140737488355328 then (if Ea=true then (KI Bl Cl (DJ++[(DU,DV)]) DF Di Dj Dk true ey DI DR) else ((f48 k (DU,DV) (Bl,Cl)).bind λ r1=>(KI Bl Cl (DJ++[(DU,DV)]) DF Di Dj Dk (decide (r1.1=true)) ey DI DR))) else none))
def Jh (k:Nat) (DT:Du) (Bl Cl:Int) (DJ:sv) (DF:ED) (Di:sv) (Dj:wv) (Dk:sv) (Ea:Bool) (ey:ur) (DI DR:Int):Option (Bool×Unit):=(DT Bl Cl DJ DF Di Dj Dk (decide (Ea=true)) ey DI (Ar (DR+1)))
theorem LZ (k:Nat) (G:Nat->S):G3 (dc k [16,8] G (U.at 103))=Jg k (D7 (G 16)):=by kernel_rfl
def Lr (k:Nat) (IA:EI) (Ey:Du):Jz:=Jg k IA
theorem LY (k:Nat) (R:Nat->S):G3 (fz k R 103)=Lr k (D7 (R 16)) (Ad (R 8)):=
 Eq.trans (congrArg G3 (BW [16,8] (by kernel_rfl))) ((LZ k _).trans (by kernel_rfl))
theorem L4 (k:Nat) (G:Nat->S):G5 (dc k [8] G (U.at 131))=Jh k (Ad (G 8)):=by kernel_rfl
def r32 (k:Nat) (Ey:Du):JB:=Jh k Ey
theorem L3 (k:Nat) (R:Nat->S):G5 (fz k R 131)=r32 k (Ad (R 8)):=
 Eq.trans (congrArg G5 (BW [8] (by kernel_rfl))) ((L4 k _).trans (by kernel_rfl))
theorem L1 (k:Nat) (G:Nat->S):G4 (dc k [8] G (U.at 119))=HR k (G5 (G 131)):=by kernel_rfl
def Ls (k:Nat) (Ey:Du):JA:=HR k (r32 k Ey)
theorem L0 (k:Nat) (R:Nat->S):G4 (fz k R 119)=Ls k (Ad (R 8)):=
 Eq.trans (congrArg G4 (BW [8] (by kernel_rfl))) ((L1 k _).trans (Eq.trans (b:=HR k (G5 (fz k R 131))) (by kernel_rfl) (by rw [L3 k R]<;>kernel_rfl)))
theorem Ik (k:Nat) (G:Nat->S):D7 (dc k [16,8] G (U.at 16))=Es k (G3 (G 103)) (G4 (G 119)):=by kernel_rfl
def l4 (k:Nat) (Ey:Du):Nat->EI
 | 0=>λ _ _ _ _ _ _ _ _ _ _ _ _ _ _ _ _ _ _ _=>none
 |n+1=>Es k (Lr k (l4 k Ey n) Ey) (Ls k Ey)
noncomputable abbrev EX (k:Nat) (R:Nat->S) (n:Nat):Nat->S:=up R 16 (zv k R 4 n)
theorem Gh (k:Nat) (R:Nat->S):∀n,D7 (zv k R 4 n)=l4 k (Ad (R 8)) n
 | 0=>by kernel_rfl
 |n+1=>
  Eq.trans (congrArg D7 (CE [8] (by kernel_rfl))) ((Ik k _).trans (Eq.trans (b:=Es k (G3 (fz k (EX k R n) 103)) (G4 (fz k (EX k R n) 119))) (by kernel_rfl) (by rw [LY k (EX k R n),L0 k (EX k R n),(show D7 (EX k R n 16)=_ from Gh k R n)]<;>kernel_rfl)))
theorem L6 (k:Nat) (G:Nat->S):G6 (dc k [] G (U.at 139))=Ji k:=by kernel_rfl
def Lt (k:Nat):JC:=Ji k
theorem L5 (k:Nat) (R:Nat->S):G6 (fz k R 139)=Lt k:=
 Eq.trans (congrArg G6 (BW [] (by kernel_rfl))) ((L6 k _).trans (by kernel_rfl))
theorem EV (k:Nat) (G:Nat->S):Ad (dc k [8] G (U.at 8))=Dl k (D7 (G 16)) (G6 (G 139)):=by kernel_rfl
def l2 (k:Nat):Nat->Du
 | 0=>λ _ _ _ _ _ _ _ _ _ _ _=>none
 |n+1=>Dl k (l4 k (l2 k n) k) (Lt k)
noncomputable abbrev DH (k:Nat) (R:Nat->S) (n:Nat):Nat->S:=up R 8 (zv k R 2 n)
theorem Eg (k:Nat) (R:Nat->S):∀n,Ad (zv k R 2 n)=l2 k n
 | 0=>by kernel_rfl
 |n+1=>
  Eq.trans (congrArg Ad (CE [] (by kernel_rfl))) ((EV k _).trans (Eq.trans (b:=Dl k (D7 (zv k (DH k R n) 4 k)) (G6 (fz k (DH k R n) 139))) (by kernel_rfl) (by rw [Gh k (DH k R n) k,L5 k (DH k R n),(show Ad (DH k R n 8)=_ from Eg k R n)]<;>kernel_rfl)))
theorem LN (k:Nat) (G:Nat->S):GY (dc k [] G (U.at 55))=HQ k (Ad (G 8)):=by kernel_rfl
def Lq (k:Nat):Ju:=HQ k (l2 k k)
theorem LM (k:Nat) (R:Nat->S):GY (fz k R 55)=Lq k:=
 Eq.trans (congrArg GY (BW [] (by kernel_rfl))) ((LN k _).trans (Eq.trans (b:=HQ k (Ad (zv k R 2 k))) (by kernel_rfl) (by rw [Eg k R k]<;>kernel_rfl)))
theorem Jc (k:Nat) (G:Nat->S):E4 (dc k [] G (U.at 47))=Fu k (GY (G 55)):=by kernel_rfl
def Gw (k:Nat):F5:=Fu k (Lq k)
theorem Jb (k:Nat) (R:Nat->S):E4 (fz k R 47)=Gw k:=
 Eq.trans (congrArg E4 (BW [] (by kernel_rfl))) ((Jc k _).trans (Eq.trans (b:=Fu k (GY (fz k R 55))) (by kernel_rfl) (by rw [LM k R]<;>kernel_rfl)))
theorem Dz (k:Nat) (G:Nat->S):uf (dc k [0] G (U.at 0))=u0 k (uf (G 0)) (E4 (G 47)):=by kernel_rfl
def l0 (k:Nat):Nat->vi
 | 0=>λ _ _ _ _ _ _ _ _ _ _=>none
 |n+1=>u0 k (l0 k n) (Gw k)
noncomputable abbrev wo (k:Nat) (R:Nat->S) (n:Nat):Nat->S:=up R 0 (zv k R 0 n)
theorem De (k:Nat) (R:Nat->S):∀n,uf (zv k R 0 n)=l0 k n
 | 0=>by kernel_rfl
 |n+1=>
  Eq.trans (congrArg uf (CE [] (by kernel_rfl))) ((Dz k _).trans (Eq.trans (b:=u0 k (uf ((wo k R n) 0)) (E4 (fz k (wo k R n) 47))) (by kernel_rfl) (by rw [Jb k (wo k R n),(show uf (wo k R n 0)=_ from De k R n)]<;>kernel_rfl)))
theorem uo (k:Nat) (G:Nat->S) (xs:DL sig):dc k [] G [.c 1 0] (uJ 155 480 sig xs)=sk k (uf (G 0)) xs.1 xs.2.1 xs.2.2.1:=by kernel_rfl
end f9
def f9 (k:Nat) (a0 a1 a2:ur):Option (Bool×Unit):=f9.sk k (f9.l0 k k) a0 a1 a2
namespace f9
theorem eq (k:Nat) (xs:DL sig):den T Y (E k) A k aC 0 (uJ 155 480 sig xs) (zf T rs ts)=f9 k xs.1 xs.2.1 xs.2.2.1:=
 Eq.trans (BZ (R:=(λ _ _=>none)) (tb:=U)) ((uo k _ xs).trans (Eq.trans (b:=sk k (uf (zv k (λ _ _=>none) 0 k)) xs.1 xs.2.1 xs.2.2.1) (by kernel_rfl) (by rw [De k (λ _ _=>none) k]<;>kernel_rfl)))
noncomputable def aR (k:Nat):oL:=⟨sig,rs,λ xs=>f9 k xs.1 xs.2.1 xs.2.2.1⟩
theorem ok (k:Nat):cz Try.prog 9 sig rs (λ xs=>f9 k xs.1 xs.2.1 xs.2.2.1):=
 (Au (k:=k) (A:=A) (T:=T) (Y:=Y) (E:=E k) (M:=480) (ts:=ts) Dn ⟨f14.ok k,f32.ok k,f40.ok k,f45.ok k,f46.ok k,f47.ok k,f48.ok k,f49.ok k,f50.ok k,trivial⟩ ⟨f14.vr,f32.vr,f40.vr,f45.vr,f46.vr,f47.vr,f48.vr,f49.vr,f50.vr,trivial⟩ mixed (f:=9) (fn:=Try.f9) (c:=aC) (by kernel_rfl) (by kernel_rfl) (by kernel_rfl) (by decide) (by kernel_rfl)).congr λ xs=>(eq k xs).symm
theorem vr:vT Try.prog 9:=λ args w=>by kernel_rfl
end f9
def Gy:Prop:=∀xs:DL f9.sig,Bi f9.sig xs->∃k,f9 k xs.1 xs.2.1 xs.2.2.1=some (true,())
end
end Go.Proofs.Ythfjdcdbimjkjaa.Rw
