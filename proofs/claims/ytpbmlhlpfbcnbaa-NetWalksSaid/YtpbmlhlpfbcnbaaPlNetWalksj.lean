/- The cost of a way is the sum over its parts, and every two neighbours are a turn. No condition. -/
import Derived.Test.YtpbmlhlpfbcnbaaPlNetWalksi
namespace Go.Proofs.Ytpbmlhlpfbcnbaa.Rw
open Go.Rx
set_option linter.unusedVariables false
set_option linter.unusedSimpArgs false

theorem netted4_true (j : Nat) : f64 (j + 60) = some (true, ()) := by kernel_rfl
theorem walks_loop {N : List Pt} {E : List Ed} {B : List Pt} (hB : B.length ≤ 600) {way : List Int} (hl : way.length ≤ 12) (hc : chainW E B none way) (b c s : Int) (hbc : w64 (b + c) = s) : ∀ (d i : Nat), i + 1 + d = way.length →
    Ev2 (fun k n => f12_l0 k n N E B s 0 b 0 c 0 ((i + 1 : Nat) : Int) way s) (true, ())
  | 0, i, hi => by
    refine Ev2.step (g := fun k _ => (f64 k).bind fun r2 => if r2.1 = true then some (true, ()) else some (false, ())) (fun k n => ?_) (Ev.two ((Ev.off 60 netted4_true : Ev (fun k => f64 k) (true, ())).bind (Ev.pure _)))
    rw [f12_l0, f12_l0_B, if_neg (by omega)]
    congr 1
    funext r2
    by_cases h : r2.1 = true
    · rw [if_pos h, if_pos h, if_pos rfl, if_pos rfl, if_pos rfl, if_pos rfl, f12_r12, f12_r12_B, hbc]; simp
    · rw [if_neg h, if_neg h, f12_r12, f12_r12_B]; simp
  | d + 1, i, hi => by
    have ih := walks_loop (N := N) hB hl hc b c s hbc d (i + 1) (by omega)
    have hw : w64 (((i + 1 : Nat) : Int) + 1) = ((i + 1 + 1 : Nat) : Int) := by rw [w64_id (by omega) (by omega)]; omega
    have hw1 : w64 (((i + 1 : Nat) : Int) - 1) = (i : Int) := by rw [w64_id (by omega) (by omega)]; omega
    obtain ⟨K, hK⟩ := turn_ev N E B (by omega) (way.getD i 0) (way.getD (i + 1) 0)
    rw [chainW_turn way i none hc (by omega)] at hK
    refine Ev2.stepE K (fun k n hk => ?_) ih
    have hk' := hK k hk; simp only at hk'
    rw [f12_l0, f12_l0_B, if_pos (by omega), hw1, if_pos (by omega), if_pos (by omega), if_pos (by omega), if_pos (by omega), hw]
    simp only [Int.toNat_natCast, hk', Option.bind_some, not_true_eq_false, if_false]
theorem walks_law (a m : List Int) (cut : Int) : Ev (fun k => f12 k a m cut) (true, ()) := by
  obtain ⟨N, E, B, n1, n2, n3, e1, e2, b1, b2, hnet⟩ := net_ev a
  have hmx : mx2 false (m.length : Int) 12 = ((min m.length 12 : Nat) : Int) := by rw [mx2_min]; omega
  have hml : (m.take (min m.length 12)).length ≤ 12 := by rw [List.length_take]; omega
  obtain ⟨way, sum, at_, hW, hwl, hwalk⟩ := walk_ev (N := N) (B := B) e1 (by omega) (by omega) 0 hml
  have hval := made_valid n1 n3 e1 e2 b1 b2
  have hwl' : way.length ≤ 12 := by omega
  have hlow := below_lt (x := cut) (n := (way.length : Int) + 1) (by omega)
  obtain ⟨c, hc⟩ : ∃ c : Nat, belowF cut ((way.length : Int) + 1) = (c : Int) := ⟨(belowF cut ((way.length : Int) + 1)).toNat, by omega⟩
  have hcost : ∀ w : List Int, chainW E B none w → w.length ≤ 12 → Ev (fun k => f54 k (N, (E, B)) w) (sumW E w, 0, ()) := fun w hw hl => by
    have h := cost_ev (N, (E, B)) w (by omega)
    unfold costF at h
    rw [if_pos hval, costL_chain e1 w none 0 hw (by omega) (by omega)] at h
    simpa using h
  simp only [f12, f12_entry_B]
  refine hnet.bind ?_
  simp only [hmx]
  refine Ev.of (fun k => by rw [if_pos (by omega), if_pos (by omega), Int.toNat_natCast]) ?_
  refine hwalk.bind ?_
  have hw1 : w64 ((way.length : Int) + 1) = (way.length : Int) + 1 := w64_id (by omega) (by omega)
  simp only [hw1]
  refine Ev.of (fun k => by rw [below_eq k cut _ (by omega) (by omega), Option.bind_some]) ?_
  simp only [hc, Int.toNat_natCast]
  refine (hcost way hW.ch hwl').bind ?_
  have hct := chainW_take way c none hW.ch
  have hcd := chainW_drop way c none hW.ch
  refine Ev.of (fun k => by rw [if_pos (by omega), if_pos (by omega)]) ?_
  refine (hcost _ hct (by rw [List.length_take]; omega)).bind ?_
  refine Ev.of (fun k => by rw [if_pos (by omega), if_pos (by omega)]) ?_
  refine (hcost _ hcd (by rw [List.length_drop]; omega)).bind ?_
  have hle := hW.le
  have hsum := hW.sm
  have hparts := sumW_parts (E := E) way c
  have hbc : w64 (sumW E (way.take c) + sumW E (way.drop c)) = sum := by rw [hparts, ← hsum]; exact w64_id (by omega) (by omega)
  simp only [← hsum]
  by_cases h0 : way.length = 0
  · have : way = [] := List.length_eq_zero_iff.1 h0
    subst this
    refine Ev2.diag (f := fun k n => f12_l0 k n N E B sum 0 (sumW E (List.take c [])) 0 (sumW E (List.drop c [])) 0 1 [] sum) ?_
    refine Ev2.step (g := fun k _ => (f64 k).bind fun r2 => if r2.1 = true then some (true, ()) else some (false, ())) (fun k n => ?_) (Ev.two ((Ev.off 60 netted4_true : Ev (fun k => f64 k) (true, ())).bind (Ev.pure _)))
    rw [f12_l0, f12_l0_B, if_neg (by simp)]
    congr 1
    funext r2
    by_cases h : r2.1 = true
    · rw [if_pos h, if_pos h, if_pos rfl, if_pos rfl, if_pos rfl, if_pos rfl, f12_r12, f12_r12_B, hbc]; simp
    · rw [if_neg h, if_neg h, f12_r12, f12_r12_B]; simp
  · exact (walks_loop (N := N) (by omega) hwl' hW.ch _ _ sum hbc (way.length - 1) 0 (by omega)).diag
/-- **The cost of a way is the sum over its parts.** -/
theorem pure_NetWalks : Pure_NetWalks := by
  rintro ⟨a, m, c, u⟩ hwf
  exact (walks_law a m c).get
end Go.Proofs.Ytpbmlhlpfbcnbaa.Rw
