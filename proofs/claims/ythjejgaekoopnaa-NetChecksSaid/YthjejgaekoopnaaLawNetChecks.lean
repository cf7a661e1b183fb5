/- The law NetChecks holds for every input: the row, out of its plain statement and the walk. No condition. -/
import Derived.Test.YthjejgaekoopnaaRows
import Derived.Test.YthjejgaekoopnaaWalkNetChecks
import Derived.Test.YthjejgaekoopnaaOpens
import Derived.WalkKit
import Derived.ProofKit
import Derived.OpenShut
import Derived.ShutString
import Derived.ChangeOld
import Derived.Below
import Derived.SizedLaws
namespace Go.Proofs.Ythjejgaekoopnaa.netChecks
open Go.ChangeShapes Go.WideShapes Go.ChangeAt Go.RowKit Go.Proofs.Ythjejgaekoopnaa.PNetChecks Go.Proofs.Ythjejgaekoopnaa
open Go.ChangeMaps (open_string shut_string)
set_option linter.unusedVariables false
set_option linter.unusedSimpArgs false
theorem own : ownKnob Try.prog.godebug = none := by kernel_rfl
theorem laidOut : laidOutB Try.prog = true := by kernel_rfl
def wfS46 (x : S46) : Prop := (Lit.int .i64 x.f0).wf = true ∧ (Lit.int .i64 x.f1).wf = true
theorem opensS46 : Opn.Opens Try.prog 46 k46 wfS46 := by
  refine Opn.opens_wf (Opn.opens_iso (fun a => ⟨a.1, a.2⟩) (fun a => rfl) (Opn.opens_fields Try.underlying46 (by kernel_rfl) (Opn.opens_cons rfl (by kernel_rfl) (Opn.opens_int Try.underlying3) (Opn.opens_last rfl (by kernel_rfl) (Opn.opens_int Try.underlying3))))) ?_
  intro a h
  simp only [wfS46]
  simp only [and_assoc, true_and, and_true] at h ⊢
  exact h
def wfS55 (x : S55) : Prop := (Lit.int .i64 x.f0).wf = true ∧ (Lit.int .i64 x.f1).wf = true ∧ (Lit.int .i64 x.f2).wf = true ∧ (Lit.int .i64 x.f3).wf = true
theorem opensS55 : Opn.Opens Try.prog 55 k55 wfS55 := by
  refine Opn.opens_wf (Opn.opens_iso (fun a => ⟨a.1, a.2.1, a.2.2.1, a.2.2.2⟩) (fun a => rfl) (Opn.opens_fields Try.underlying55 (by kernel_rfl) (Opn.opens_cons rfl (by kernel_rfl) (Opn.opens_int Try.underlying3) (Opn.opens_cons rfl (by kernel_rfl) (Opn.opens_int Try.underlying3) (Opn.opens_cons rfl (by kernel_rfl) (Opn.opens_int Try.underlying3) (Opn.opens_last rfl (by kernel_rfl) (Opn.opens_int Try.underlying3))))))) ?_
  intro a h
  simp only [wfS55]
  simp only [and_assoc, true_and, and_true] at h ⊢
  exact h
def wfS66 (x : S66) : Prop := (Lit.int .i64 x.f0).wf = true ∧ (Lit.int .i64 x.f1).wf = true
theorem opensS66 : Opn.Opens Try.prog 66 k66 wfS66 := by
  refine Opn.opens_wf (Opn.opens_iso (fun a => ⟨a.1, a.2⟩) (fun a => rfl) (Opn.opens_fields Try.underlying66 (by kernel_rfl) (Opn.opens_cons rfl (by kernel_rfl) (Opn.opens_int Try.underlying3) (Opn.opens_last rfl (by kernel_rfl) (Opn.opens_int Try.underlying3))))) ?_
  intro a h
  simp only [wfS66]
  simp only [and_assoc, true_and, and_true] at h ⊢
  exact h
set_option maxRecDepth 100000 in
theorem lifted (os : Os) (started : os.Started) (H : Type) (enc : TypeId × Value → H) :
    ReturnsInHanded {} Try.checked os 8 .any (Rows.netChecksSpec.pre6 enc Try.prog Try.f8 Rows.netChecksRow.domain false) (Rows.netChecksSpec.post enc Try.prog Try.f8 false true false false) := by
  refine returnsInHanded_of_change_sized (C := Try.checked) own started (by kernel_rfl) Try.func8
    (ChangeSpec.witness6 (enc := enc) (C := Try.checked) false ⟨#[], #[.agg #[.slice none 0 0, .slice none 0 0, .slice none 0 0], .int .i64 0, .int .i64 0, .int .i64 0], []⟩ 8 (by kernel_rfl) (by kernel_rfl) (by kernel_rfl) (by kernel_rfl)) ?_
  intro W base args ds gs before hval0 hW hcnd hsz0 _
  have hsz : (DataW.weightsEach Try.prog (Try.f8.params.toList ++ Rows.netChecksSpec.plain.varTypes Try.prog) (ds ++ gs)).all (· ≤ reachBytes) = true := hsz0
  have hval : ∀ (j : Nat) t v, Try.f8.params[j]? = some t → args[j]? = some v → Value.okWide Try.prog W .any base t v := hval0
  have hW' := hW
  obtain ⟨p, q, hA0, hV, rfl, hfz, hnd⟩ := hW
  have hA : DataW.TrodAll enc Try.prog W 0 (fun _ => true) true Try.f8.params.toList args.toList ds p := hA0
  rw [Try.params8] at hA hval hsz
  obtain ⟨v0, vs0, d0, ds0, p0, q0, hargs, rfl, rfl, h0, r0⟩ := trodAll_cons hA
  obtain ⟨v1, vs1, d1, ds1, p1, q1, rfl, rfl, rfl, h1, r1⟩ := trodAll_cons r0
  obtain ⟨v2, vs2, d2, ds2, p2, q2, rfl, rfl, rfl, h2, r2⟩ := trodAll_cons r1
  obtain ⟨v3, vs3, d3, ds3, p3, q3, rfl, rfl, rfl, h3, r3⟩ := trodAll_cons r2
  obtain ⟨rfl, rfl, rfl⟩ := trodAll_nil r3
  obtain rfl : args = #[v0, v1, v2, v3] := by cases args; simp_all
  obtain ⟨rfl, rfl⟩ := trodVars_none hV
  have k0 := h0
  have lt0 : ∀ x ∈ p0, x.block < W.heap.size := by obtain ⟨m, hm⟩ := k0; exact DataW.trod_lt m _ _ _ hm
  obtain ⟨cs0, rfl, hn0⟩ := okWide_struct Try.underlying53 (hval 0 53 v0 rfl rfl)
  obtain ⟨x0, hK0, hw0⟩ := Opn.opened (Opn.opens_fields Try.underlying53 (by kernel_rfl) (Opn.opens_cons rfl (by kernel_rfl) (Opn.opens_slice Try.underlying49 opensS46 (by kernel_rfl) (by kernel_rfl)) (Opn.opens_cons rfl (by kernel_rfl) (Opn.opens_slice Try.underlying50 opensS55 (by kernel_rfl) (by kernel_rfl)) (Opn.opens_last rfl (by kernel_rfl) (Opn.opens_slice Try.underlying51 opensS66 (by kernel_rfl) (by kernel_rfl)))))) hsz (j := 0) (t := 53) rfl rfl h0
  obtain ⟨x0_0, ⟨x0_1, x0_2⟩⟩ := x0
  obtain ⟨g0_0, t0_0, e0_0, K0_0, ⟨g0_1, t0_1, e0_1, K0_1, K0_2⟩⟩ := hK0
  obtain ⟨A0_0, c0_0, E0_0, hc0_0, hr0_0⟩ := K0_0
  obtain ⟨A0_1, c0_1, E0_1, hc0_1, hr0_1⟩ := K0_1
  obtain ⟨A0_2, c0_2, E0_2, hc0_2, hr0_2⟩ := K0_2
  obtain rfl : cs0 = #[.slice A0_0 x0_0.length c0_0, .slice A0_1 x0_1.length c0_1, .slice A0_2 x0_2.length c0_2] := by
    apply Array.ext'
    have z : cs0.toList = [.slice A0_0 x0_0.length c0_0, .slice A0_1 x0_1.length c0_1, .slice A0_2 x0_2.length c0_2] := by
      have y : cs0.toList = (Value.agg cs0).cells.toList := rfl
      rw [y, e0_0, e0_1]
      rw [show _ = _ from E0_0]
      rw [show _ = _ from E0_1]
      rw [show _ = _ from E0_2]
      rfl
    simpa using z
  obtain ⟨a1, rfl, rfl, rfl, w1⟩ := open_int Try.underlying3 (hval 1 3 v1 rfl rfl) h1
  obtain ⟨a2, rfl, rfl, rfl, w2⟩ := open_int Try.underlying3 (hval 2 3 v2 rfl rfl) h2
  obtain ⟨a3, rfl, rfl, rfl, w3⟩ := open_int Try.underlying3 (hval 3 3 v3 rfl rfl) h3
  refine (PNetChecks.walk _ _ x0_0 _ _ x0_1 _ _ x0_2 a1 a2 a3 W hr0_0 hc0_0 hr0_1 hc0_1 hr0_2 hc0_2 hw0.1.1 hw0.1.2 hw0.2.1.1 hw0.2.1.2 hw0.2.2.1 hw0.2.2.2 w1 w2 w3).mono ?_
  rintro e W' ⟨he, bel0⟩
  have bel : Below W.heap.size W W' := bel0
  subst he
  exact ⟨_, rfl, _, _, _, [], _, [], hW', trodAll_mk1 (shut_bool Try.underlying4 _), (trodAll_cons_mk (Below.trod laidOut (by kernel_rfl) (of_decide_eq_true (by kernel_rfl)) k0 bel lt0) (trodAll_cons_mk (shut_int Try.underlying3 w1) (trodAll_cons_mk (shut_int Try.underlying3 w2) (trodAll_cons_mk (shut_int Try.underlying3 w3) trodAll_mk0)))), rfl, bel.frame _, fun h => by cases h⟩
theorem over : Rows.netChecksRow.holds Try.pinned (OpenSpec.ofChange Rows.netChecksSpec) :=
  OpenClaim.holds_of_wide 8 Try.f8 rfl rfl rfl rfl rfl rfl rfl ⟨rfl, rfl, rfl, rfl, rfl⟩ rfl rfl rfl rfl rfl (by kernel_rfl) Try.func8 (by kernel_rfl)
    (of_decide_eq_true (by kernel_rfl)) (by unfold Func.isWrapper; first | (rw [if_pos (by decide +kernel)]; kernel_rfl) | (rw [if_neg (by decide +kernel)]; exact ⟨rfl, rfl⟩))
    (fun os started H enc _ => lifted os started H enc)
theorem proved : Rows.NetChecksSaid := over
#print axioms proved
end Go.Proofs.Ythjejgaekoopnaa.netChecks
namespace Go.Proofs.Ythjejgaekoopnaa
/-- The row, under a short name, for the claim. -/
theorem netChecks_holds : Rows.NetChecksSaid := netChecks.proved
end Go.Proofs.Ythjejgaekoopnaa
