/- The law NetLongs in plain words: the cost of an edge is the same in both directions, and not greater at a greater speed. No condition. -/
import Derived.Test.YthjejgaekoopnaaStatNetLongs
import Derived.Test.YthjejgaekoopnaaNetLongsLong
import Derived.Test.YthjejgaekoopnaaStream
namespace Go.Proofs.Ythjejgaekoopnaa.Pure
open Go.RowKit Go.Proofs.Ythjejgaekoopnaa.PNetLongs Go.Proofs.YthjejgaekoopnaaW.PrintWords Go.Proofs.YthjejgaekoopnaaW.PrintLast Go.Proofs.YthjejgaekoopnaaW.PrintMore Go.Proofs.Ythjejgaekoopnaa.Evs
set_option linter.unusedVariables false
theorem netted_ev : Ev (fun k => terrkeep4_netted.f k) true := Ev.of (fun k => by exact terrkeep4_netted.mono k) (k := 60) (by kernel_rfl)
theorem point_eq (l : List Int) : ∃ x y, terrmake_Point.f l = some (x, y) ∧ -40 ≤ x ∧ x ≤ 40 ∧ -40 ≤ y ∧ y ≤ 40 := by
  have h1 := Strm.nxt_range l (n := 81) (by omega)
  have h2 := Strm.nxt_range (Strm.rest l 81) (n := 81) (by omega)
  refine ⟨Strm.nxt l 81 - 40, Strm.nxt (Strm.rest l 81) 81 - 40, ?_, by omega, by omega, by omega, by omega⟩
  have e : wrap64 (Strm.nxt l 81 - 40) = Strm.nxt l 81 - 40 := wrap_in (by omega) (by omega)
  have e2 : wrap64 (Strm.nxt (Strm.rest l 81) 81 - 40) = Strm.nxt (Strm.rest l 81) 81 - 40 := wrap_in (by omega) (by omega)
  rw [← e, ← e2]
  rfl
theorem below_eq (x n : Int) (h0 : 0 < n) (h1 : n ≤ 4611686018427387904) : terrmake_Below.f x n = some (x % n) := by
  obtain ⟨t1, t2⟩ := Strm.tmod_eq (x := x) h0
  have b1 := Int.tmod_lt_of_pos x h0
  have b2 := Int.lt_tmod_of_pos x h0
  unfold terrmake_Below.f
  rw [if_neg (by omega)]
  by_cases h : x.tmod n < 0
  · rw [if_pos h, wrap_in (by omega) (by omega), t1 h]
  · rw [if_neg h, t2 h]
theorem NetLongs : terrkeep4_NetLongs.Pure := by
  intro l a b _ _ _ _
  refine Ev.rounds ?_
  obtain ⟨px, py, hp, p1, p2, p3, p4⟩ := point_eq l
  obtain ⟨qx, qy, hq, q1, q2, q3, q4⟩ := point_eq (l.drop ((mn (l.length : Int) 2) : Int).toNat)
  have va := Int.emod_nonneg a (b := 1000) (by omega)
  have va2 := Int.emod_lt_of_pos a (b := 1000) (by omega)
  have ev : wrap64 (1 + a % 1000) = 1 + a % 1000 := wrap_in (by omega) (by omega)
  have em : wrap64 (wrap64 (1000 - (1 + a % 1000)) + 1) = 1000 - a % 1000 := by
    rw [wrap_in (x := 1000 - (1 + a % 1000)) (by omega) (by omega), wrap_in (by omega) (by omega)]; omega
  have vb := Int.emod_nonneg b (b := 1000 - a % 1000) (by omega)
  have vb2 := Int.emod_lt_of_pos b (b := 1000 - a % 1000) (by omega)
  have ew : wrap64 (1 + a % 1000 + b % (1000 - a % 1000)) = 1 + a % 1000 + b % (1000 - a % 1000) := wrap_in (by omega) (by omega)
  obtain ⟨r1, hr1, e1⟩ := long_ev px py qx qy (1 + a % 1000)
  obtain ⟨r2, hr2, e2⟩ := long_ev qx qy px py (1 + a % 1000)
  obtain ⟨r3, hr3, e3⟩ := long_ev px py qx qy (1 + a % 1000 + b % (1000 - a % 1000))
  rw [← sqOf_comm px py qx qy] at hr2
  have s2 := root_one hr2 hr1
  have s3 := root_one hr3 hr1
  subst s2 s3
  have hs1 : speedOf (1 + a % 1000) = 1 + a % 1000 := if_neg (by omega)
  have hs2 : speedOf (1 + a % 1000 + b % (1000 - a % 1000)) = 1 + a % 1000 + b % (1000 - a % 1000) := if_neg (by omega)
  rw [hs1] at e1 e2
  rw [hs2] at e3
  unfold terrkeep4_NetLongs.f
  refine bindc hp ?_
  have hm : 0 ≤ mn (l.length : Int) 2 ∧ mn (l.length : Int) 2 ≤ (l.length : Int) := by unfold mn; split <;> omega
  refine ifp hm.1 (ifp hm.2 ?_)
  refine bindc hq ?_
  refine bindc (below_eq a 1000 (by omega) (by omega)) ?_
  (try dsimp only)
  rw [ev, em]
  refine bindc (below_eq b _ (by omega) (by omega)) ?_
  (try dsimp only)
  rw [ew]
  refine Ev.bind e1 ?_
  refine Ev.bind netted_ev ?_
  refine ifp rfl ?_
  refine Ev.bind e2 ?_
  refine ifp rfl ?_
  refine Ev.bind e3 ?_
  refine ifp (price_mono hr1.1 (by omega) (by omega)) (some_ ?_)
  have hz := price_zero (r := r3) (v := 1 + a % 1000) hr1.1 (by omega)
  have hz2 := root_zero hr1
  have hz3 := sqOf_zero px py qx qy
  rw [cut_in (by omega) (by omega), cut_in (by omega) (by omega), cut_in (by omega) (by omega), cut_in (by omega) (by omega)] at hz3
  have hall : price r3 (1 + a % 1000) = 0 ↔ px = qx ∧ py = qy := by rw [hz, hz2, hz3]
  by_cases h : px = qx ∧ py = qy
  · have := hall.2 h
    rw [this, h.1, h.2]
    simp
  · have h0 : ¬ price r3 (1 + a % 1000) = 0 := fun k => h (hall.1 k)
    have b1 : (price r3 (1 + a % 1000) == 0) = false := beq_eq_false_iff_ne.mpr h0
    have b2 : (px == qx && py == qy) = false := by
      rw [Bool.and_eq_false_iff]
      by_cases hx : px = qx
      · exact Or.inr (beq_eq_false_iff_ne.mpr fun hy => h ⟨hx, hy⟩)
      · exact Or.inl (beq_eq_false_iff_ne.mpr hx)
    rw [b1, b2]
    rfl
end Go.Proofs.Ythjejgaekoopnaa.Pure
