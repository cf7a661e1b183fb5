/- The law NetChecks in plain words: Check, Out, In and Turn return what the reference says for all networks. No condition. -/
import Derived.Test.YthjejgaekoopnaaStatNetChecks
import Derived.Test.YthjejgaekoopnaaNetChecksNetA
namespace Go.Proofs.Ythjejgaekoopnaa.Pure
open Go.RowKit Go.Proofs.Ythjejgaekoopnaa.PNetChecks Go.Proofs.YthjejgaekoopnaaW.PrintWords Go.Proofs.YthjejgaekoopnaaW.PrintLast Go.Proofs.YthjejgaekoopnaaW.PrintMore Go.Proofs.Ythjejgaekoopnaa.Evs
set_option linter.unusedVariables false
theorem netted_ev : Ev (fun k => terrlaw4_netted.f k) true := Ev.of (fun k => by exact terrlaw4_netted.mono k) (k := 60) (by kernel_rfl)
theorem law_l0 (N : List S46) (E : List S55) (B : List S66) (x a b : Int) (hE : E.length < 17592186044416) (hB : B.length < 17592186044416) (hq : NetWf N B) :
    ∀ (r : List S55) (n : Nat) (u v : List Int), E.drop n = r → u.length ≤ n → v.length ≤ n → u ++ idxs (·.f0) x n r = idxs (·.f0) x 0 E → v ++ idxs (·.f1) x n r = idxs (·.f1) x 0 E →
    Ev (fun k => terrlaw4_NetChecks.l0 k x a b u v E (E.length : Int) (n : Int) N E B) true := by
  intro r
  induction r with
  | nil =>
    intro n u v hd hu hv e1 e2
    have hn := drop_nil hd
    simp only [idxs, List.append_nil] at e1 e2
    have l1 := idxs_len (·.f0) x E 0
    have l2 := idxs_len (·.f1) x E 0
    refine Ev.step (fun k => by rw [terrlaw4_NetChecks.l0]) ?_
    refine ifn (by omega) ?_
    refine Ev.bind netted_ev (ifp rfl ?_)
    refine Ev.bind (check_ev N E B) ?_
    refine bindc (x := netChk N E B) (if_pos hq) (ifp rfl ?_)
    refine Ev.bind (out_ev N E B hE x) ?_
    rw [e1]
    refine Ev.bind (eqI_ev _ (by omega)) (ifp rfl ?_)
    refine Ev.bind (in_ev N E B hE x) ?_
    rw [e2]
    refine Ev.bind (eqI_ev _ (by omega)) (ifp rfl ?_)
    refine Ev.bind (turn_ev N E B (by omega) a b) ?_
    refine Ev.bind (turnOK_ev N E B (by omega) a b) (some_ ?_)
    simp
  | cons s r ih =>
    intro n u v hd hu hv e1 e2
    obtain ⟨hn, hs, hr⟩ := drop_cons z55 hd
    have hrd : rd_T55 E (n : Int) = s := hs
    refine Ev.step (fun k => by rw [terrlaw4_NetChecks.l0]) ?_
    refine ifp (by omega) (ifp (by omega) (ifp (by omega) ?_))
    rw [hrd, wrap_succ (by omega)]
    by_cases h0 : s.f0 = x
    · simp only [idxs, if_pos h0] at e1
      refine ifp h0 (ifp (by omega) ?_)
      refine bindc (x := u ++ [(n : Int)]) rfl ?_
      by_cases h1 : s.f1 = x
      · simp only [idxs, if_pos h1] at e2
        refine ifp h1 (ifp (by omega) ?_)
        exact ih (n + 1) _ _ hr (by simp; omega) (by simp; omega) (by simpa using e1) (by simpa using e2)
      · simp only [idxs, if_neg h1] at e2
        refine ifn h1 ?_
        exact ih (n + 1) _ _ hr (by simp; omega) (by omega) (by simpa using e1) e2
    · simp only [idxs, if_neg h0] at e1
      refine ifn h0 ?_
      by_cases h1 : s.f1 = x
      · simp only [idxs, if_pos h1] at e2
        refine ifp h1 (ifp (by omega) ?_)
        exact ih (n + 1) _ _ hr (by omega) (by simp; omega) e1 (by simpa using e2)
      · simp only [idxs, if_neg h1] at e2
        refine ifn h1 ?_
        exact ih (n + 1) _ _ hr (by omega) (by omega) e1 e2
theorem NetChecks : terrlaw4_NetChecks.Pure := by
  intro N E B x a b _ q0 hE _ hB q2 _ _ _
  refine Ev.rounds ?_
  unfold terrlaw4_NetChecks.f
  exact law_l0 N E B x a b (by omega) (by omega) ⟨q0, q2⟩ E 0 [] [] rfl (Nat.le_refl _) (Nat.le_refl _) rfl rfl
end Go.Proofs.Ythjejgaekoopnaa.Pure
