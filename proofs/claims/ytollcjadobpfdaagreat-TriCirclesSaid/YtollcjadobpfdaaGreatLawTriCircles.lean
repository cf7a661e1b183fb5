/- The law TriCircles holds for every input: the row, out of its plain statement and what its text comes to. No condition. -/
import Derived.Test.YtollcjadobpfdaaGreatPlTriCirclese
import Derived.Test.YtollcjadobpfdaaGreatRows
import Derived.WalkKit
import Derived.ProofKit
import Derived.OpenShut
import Derived.ShutString
import Derived.ChangeOld
import Derived.Below
import Derived.SizedLaws
set_option linter.unusedVariables false
set_option linter.unusedSimpArgs false
set_option linter.unusedSectionVars false
namespace Go.Proofs.YtollcjadobpfdaaGreat.triCircles
open Go.ChangeShapes Go.WideShapes Go.ChangeAt Go.RowKit Go.Rx Go.Proofs.YtollcjadobpfdaaGreat
theorem own : ownKnob Tryz.prog.godebug = none := by kernel_rfl
theorem laidOut : laidOutB Tryz.prog = true := by kernel_rfl
set_option maxRecDepth 100000 in
theorem lifted (os : Os) (started : os.Started) (H : Type) (enc : TypeId × Value → H) :
    ReturnsInHanded {} Tryz.checked os 5 .any (Rows.triCirclesSpec.pre6 enc Tryz.prog Tryz.f5 Rows.triCirclesRow.domain false) (Rows.triCirclesSpec.post enc Tryz.prog Tryz.f5 false true false false) := by
  refine returnsInHanded_of_change_sized (C := Tryz.checked) own started (by kernel_rfl) Tryz.func5
    (ChangeSpec.witness6 (enc := enc) (C := Tryz.checked) false ⟨#[], #[.agg #[.int .i64 0, .int .i64 0], .agg #[.int .i64 0, .int .i64 0], .agg #[.int .i64 0, .int .i64 0], .agg #[.int .i64 0, .int .i64 0], .slice none 0 0], []⟩ 8 (by kernel_rfl) (by kernel_rfl) (by kernel_rfl) (by kernel_rfl)) ?_
  intro W base args ds gs before hval0 hW hcnd hsz0 _
  have hsz : (DataW.weightsEach Tryz.prog (Tryz.f5.params.toList ++ Rows.triCirclesSpec.plain.varTypes Tryz.prog) (ds ++ gs)).all (· ≤ reachBytes) = true := hsz0
  have hval : ∀ (j : Nat) t v, Tryz.f5.params[j]? = some t → args[j]? = some v → Value.okWide Tryz.prog W .any base t v := hval0
  have hW' := hW
  obtain ⟨p, q, hA0, hV, rfl, hfz, hnd⟩ := hW
  have hA : DataW.TrodAll enc Tryz.prog W 0 (fun _ => true) true Tryz.f5.params.toList args.toList ds p := hA0
  obtain ⟨rfl, rfl⟩ := trodVars_none hV
  have hB : argsB Tryz.prog Rw.f5.sig Tryz.f5.params.toList = true := by kernel_rfl
  obtain ⟨xs, hx, hwf⟩ := args_open hB hA (fun j t v h1 h2 => hval j t v (by simpa using h1) (by simpa using h2)) (fun j t d h1 h2 m hm => of_decide_eq_true (List.all_eq_true.1 hsz m (DataW.weights_mem_each (app_some h1) (app_some h2) m hm)))
  have hlen : ds.length = 5 := (trodAll_len hA).trans (by kernel_rfl)
  obtain ⟨d0, d1, d2, d3, d4, rfl⟩ : ∃ d0 d1 d2 d3 d4, ds = [d0, d1, d2, d3, d4] := by match ds, hlen with | [d0, d1, d2, d3, d4], _ => exact ⟨d0, d1, d2, d3, d4, rfl⟩
  obtain ⟨k, hk⟩ := Rw.pure_TriCircles xs hwf
  have hc := law_walk (Rw.f5.ok k) hk hx
  rw [Array.toArray_toList] at hc
  refine hc.mono ?_
  rintro e W' ⟨he, bel⟩
  subst he
  exact ⟨_, rfl, _, _, _, [], _, [], hW', trodAll_mk1 (shut_bool Tryz.underlying4 _), args_stay laidOut bel hB hA, rfl, bel.frame _, fun h => by cases h⟩
theorem over : Rows.triCirclesRow.holds Tryz.pinned (OpenSpec.ofChange Rows.triCirclesSpec) :=
  OpenClaim.holds_of_wide 5 Tryz.f5 rfl rfl rfl rfl rfl rfl rfl ⟨rfl, rfl, rfl, rfl, rfl⟩ rfl rfl rfl rfl rfl (by kernel_rfl) Tryz.func5 (by kernel_rfl)
    (of_decide_eq_true (by kernel_rfl)) (by unfold Func.isWrapper; first | (rw [if_pos (by decide +kernel)]; kernel_rfl) | (rw [if_neg (by decide +kernel)]; exact ⟨rfl, rfl⟩))
    (fun os started H enc _ => lifted os started H enc)
theorem proved : Rows.TriCirclesSaid := over
#print axioms proved
end Go.Proofs.YtollcjadobpfdaaGreat.triCircles
namespace Go.Proofs.YtollcjadobpfdaaGreat
/-- The row, under a short name, for the claim. -/
theorem triCircles_holds : Rows.TriCirclesSaid := triCircles.proved
end Go.Proofs.YtollcjadobpfdaaGreat
