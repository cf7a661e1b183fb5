/- The numbers of the kit's shelf at this program. No condition. -/
import Derived.Shelf.SlSortCmp.NoneTotal
import Derived.Shelf.Spec.SlicesGrow
import Derived.Test.YthfjdcdbimjkjaaProg
set_option linter.unusedVariables false
set_option linter.unusedSimpArgs false
set_option linter.unusedSectionVars false
namespace Go.Proofs
open Go.Shelf
def Try.Il:Go.Shelf.Ren:=⟨λ| 6=>108| 15=>145| 14=>155| 28=>180| 29=>181| 20=>185| 21=>186| 22=>187| 23=>188| 24=>189| 25=>190| 26=>191| 27=>192| 46=>223| 47=>219| 48=>220| 49=>224| 50=>225| 57=>241|n=>n,λ| 22=>89| 24=>88| 25=>171| 3=>3| 39=>210| 0=>0| 53=>245| 55=>248| 4=>4| 46=>254| 45=>253| 50=>216| 5=>5| 9=>9| 66=>280| 70=>284| 76=>299| 77=>300|n=>n,λ|n=>n⟩
theorem Try.Kb:Go.Proofs.SlLaysF0.n6 Try.prog Try.Il:={
 mixed:=by kernel_rfl
 f6:=⟨Try.f108.name,by decide,Try.func108.trans (congrArg some (by kernel_rfl))⟩
 f14:=⟨Try.f155.name,by decide,Try.func155.trans (congrArg some (by kernel_rfl))⟩
 f15:=Try.func145.trans (congrArg some (by kernel_rfl))
 f20:=⟨Try.f185.name,by decide,Try.func185.trans (congrArg some (by kernel_rfl))⟩
 f21:=⟨Try.f186.name,by decide,Try.func186.trans (congrArg some (by kernel_rfl))⟩
 f22:=⟨Try.f187.name,by decide,Try.func187.trans (congrArg some (by kernel_rfl))⟩
 f23:=⟨Try.f188.name,by decide,Try.func188.trans (congrArg some (by kernel_rfl))⟩
 f24:=⟨Try.f189.name,by decide,Try.func189.trans (congrArg some (by kernel_rfl))⟩
 f25:=⟨Try.f190.name,by decide,Try.func190.trans (congrArg some (by kernel_rfl))⟩
 f26:=⟨Try.f191.name,by decide,Try.func191.trans (congrArg some (by kernel_rfl))⟩
 f27:=⟨Try.f192.name,by decide,Try.func192.trans (congrArg some (by kernel_rfl))⟩
 f28:=Try.func180.trans (congrArg some (by kernel_rfl))
 f29:=Try.func181.trans (congrArg some (by kernel_rfl))
 f46:=⟨Try.f223.name,by decide,Try.func223.trans (congrArg some (by kernel_rfl))⟩
 f47:=Try.func219.trans (congrArg some (by kernel_rfl))
 f48:=Try.func220.trans (congrArg some (by kernel_rfl))
 f49:=⟨Try.f224.name,by decide,Try.func224.trans (congrArg some (by kernel_rfl))⟩
 f50:=⟨Try.f225.name,by decide,Try.func225.trans (congrArg some (by kernel_rfl))⟩
 f57:=⟨Try.f241.name,by decide,Try.func241.trans (congrArg some (by kernel_rfl))⟩
 t0:=Try.underlying0
 a0:=Try.isAgg0
 z0:=Try.sizeOf0
 v0:=Try.zeroValue0
 t3:=Try.underlying3
 a3:=Try.isAgg3
 z3:=Try.sizeOf3
 v3:=Try.zeroValue3
 t4:=Try.underlying4
 a4:=Try.isAgg4
 z4:=Try.sizeOf4
 v4:=Try.zeroValue4
 t5:=Try.underlying5
 a5:=Try.isAgg5
 z5:=Try.sizeOf5
 v5:=Try.zeroValue5
 t9:=Try.underlying9
 a9:=Try.isAgg9
 z9:=Try.sizeOf9
 v9:=Try.zeroValue9
 t22:=Try.underlying89
 a22:=Try.isAgg89
 z22:=Try.sizeOf89
 v22:=Try.zeroValue89
 t25:=Try.underlying171
 a25:=Try.isAgg171
 z25:=Try.sizeOf171
 v25:=Try.zeroValue171
 t39:=Try.underlying210
 a39:=Try.isAgg210
 z39:=Try.sizeOf210
 v39:=Try.zeroValue210
 t45:=Try.underlying253
 a45:=Try.isAgg253
 z45:=Try.sizeOf253
 v45:=Try.zeroValue253
 t46:=Try.underlying254
 a46:=Try.isAgg254
 z46:=Try.sizeOf254
 v46:=Try.zeroValue254
 t50:=Try.underlying216
 a50:=Try.isAgg216
 z50:=Try.sizeOf216
 v50:=Try.zeroValue216
 t53:=Try.underlying245
 a53:=Try.isAgg245
 z53:=Try.sizeOf245
 v53:=Try.zeroValue245
 t55:=Try.underlying248
 a55:=Try.isAgg248
 z55:=Try.sizeOf248
 v55:=Try.zeroValue248
 t66:=Try.underlying280
 a66:=Try.isAgg280
 z66:=Try.sizeOf280
 v66:=Try.zeroValue280
 t70:=Try.underlying284
 a70:=Try.isAgg284
 z70:=Try.sizeOf284
 v70:=Try.zeroValue284
 t76:=Try.underlying299
 a76:=Try.isAgg299
 z76:=Try.sizeOf299
 v76:=Try.zeroValue299
 t77:=Try.underlying300
 a77:=Try.isAgg300
 z77:=Try.sizeOf300
 v77:=Try.zeroValue300 }
def Try.Im:Go.Shelf.Ren:=⟨λ| 4=>184|n=>n,λ| 22=>22| 25=>3| 3=>3| 4=>4| 9=>9| 20=>20| 0=>0|n=>n,λ|n=>n⟩
theorem Try.Kc:Go.Proofs.Lays8.n4 Try.prog Try.Im:={
 mixed:=by kernel_rfl
 f4:=⟨Try.f184.name,by decide,Try.func184.trans (congrArg some (by kernel_rfl))⟩
 t0:=Try.underlying0
 a0:=Try.isAgg0
 z0:=Try.sizeOf0
 v0:=Try.zeroValue0
 t3:=Try.underlying3
 a3:=Try.isAgg3
 z3:=Try.sizeOf3
 v3:=Try.zeroValue3
 t4:=Try.underlying4
 a4:=Try.isAgg4
 z4:=Try.sizeOf4
 v4:=Try.zeroValue4
 t9:=Try.underlying9
 a9:=Try.isAgg9
 z9:=Try.sizeOf9
 v9:=Try.zeroValue9
 t20:=Try.underlying20
 a20:=Try.isAgg20
 z20:=Try.sizeOf20
 v20:=Try.zeroValue20
 t22:=Try.underlying22
 a22:=Try.isAgg22
 z22:=Try.sizeOf22
 v22:=Try.zeroValue22 }
end Go.Proofs
