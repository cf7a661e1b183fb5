/- Plain laws for ReliefContours. No condition. -/
import Derived.Test.YtollcjadobpfdaaRwReliefContoursb
namespace Go.Proofs.Ytollcjadobpfdaa.Rw
set_option linter.unusedVariables false
set_option linter.unusedSimpArgs false
def dotH (h v : Int × Int × Int) : Int := h.1 * v.1 + h.2.1 * v.2.1 + h.2.2 * v.2.2
theorem sq_nonneg (a : Int) : 0 ≤ a * a := by
 rcases Int.le_total 0 a with h | h
 · exact Int.mul_nonneg h h
 · exact Int.mul_nonneg_of_nonpos_of_nonpos h h
theorem sum_pos4 {p1 p2 p3 p4 d1 d2 d3 d4 : Int} (h1 : 0 ≤ p1) (h2 : 0 ≤ p2) (h3 : 0 ≤ p3) (h4 : 0 ≤ p4) (g1 : p1 = 0 ∨ 0 < d1) (g2 : p2 = 0 ∨ 0 < d2) (g3 : p3 = 0 ∨ 0 < d3) (g4 : p4 = 0 ∨ 0 < d4)
 (h : 0 < p1 ∨ 0 < p2 ∨ 0 < p3 ∨ 0 < p4) : 0 < p1 * d1 + p2 * d2 + p3 * d3 + p4 * d4 := by
 have key : ∀ {p d : Int}, 0 ≤ p → (p = 0 ∨ 0 < d) → 0 ≤ p * d ∧ (0 < p → 0 < p * d) := fun {p d} a b => by
  rcases b with rfl | b
  · simp
  · exact ⟨Int.mul_nonneg a (by omega), fun c => Int.mul_pos c b⟩
 have a1 := key h1 g1; have a2 := key h2 g2; have a3 := key h3 g3; have a4 := key h4 g4
 rcases h with h | h | h | h
 · have := a1.2 h; omega
 · have := a2.2 h; omega
 · have := a3.2 h; omega
 · have := a4.2 h; omega
theorem depend3 (a1 b1 a2 b2 a3 b3 : Int) : ∃ m1 m2 m3 : Int, (m1 ≠ 0 ∨ m2 ≠ 0 ∨ m3 ≠ 0) ∧ m1 * a1 + m2 * a2 + m3 * a3 = 0 ∧ m1 * b1 + m2 * b2 + m3 * b3 = 0 := by
 by_cases h : a2 * b3 - a3 * b2 = 0 ∧ a3 * b1 - a1 * b3 = 0 ∧ a1 * b2 - a2 * b1 = 0
 · by_cases g : a1 = 0 ∧ b1 = 0
   · obtain ⟨rfl, rfl⟩ := g
     exact ⟨1, 0, 0, .inl (by decide), by simp, by simp⟩
   · refine ⟨a2 * a1 + b2 * b1, -(a1 * a1 + b1 * b1), 0, .inr (.inl ?_), ?_, ?_⟩
     · have h1 := sq_nonneg a1
       have h2 := sq_nonneg b1
       intro z
       have e1 : a1 * a1 = 0 := by omega
       have e2 : b1 * b1 = 0 := by omega
       exact g ⟨(Int.mul_eq_zero.1 e1).elim id id, (Int.mul_eq_zero.1 e2).elim id id⟩
     · have := h.2.2; grind
     · have := h.2.2; grind
 · refine ⟨a2 * b3 - a3 * b2, a3 * b1 - a1 * b3, a1 * b2 - a2 * b1, ?_, by grind, by grind⟩
   omega
theorem split_pm (l : Int) : ∃ a b : Int, l = a - b ∧ 0 ≤ a ∧ 0 ≤ b ∧ (a = 0 ∨ b = 0) ∧ (0 < l → 0 < a) ∧ (0 < -l → 0 < b) := ⟨max l 0, max (-l) 0, by omega, by omega, by omega, by omega, by omega, by omega⟩
def meetsH (L : List (Int × Int × Int)) : Prop := ∃ v : Int × Int × Int, 0 < v.2.2 ∧ ∀ h ∈ L, 0 < dotH h v
theorem helly_step {A B C D : Int × Int × Int} {R : List (Int × Int × Int)} (m1 : meetsH (B :: C :: D :: R)) (m2 : meetsH (A :: C :: D :: R)) (m3 : meetsH (A :: B :: D :: R)) (m4 : meetsH (A :: B :: C :: R)) : meetsH (A :: B :: C :: D :: R) := by
 obtain ⟨⟨x1, y1, w1⟩, p1, q1⟩ := m1
 obtain ⟨⟨x2, y2, w2⟩, p2, q2⟩ := m2
 obtain ⟨⟨x3, y3, w3⟩, p3, q3⟩ := m3
 obtain ⟨⟨x4, y4, w4⟩, p4, q4⟩ := m4
 simp only [List.mem_cons, forall_eq_or_imp] at q1 q2 q3 q4
 simp only at p1 p2 p3 p4
 obtain ⟨m1, m2, m3, hm, e1, e2⟩ := depend3 (w4 * x1 - w1 * x4) (w4 * y1 - w1 * y4) (w4 * x2 - w2 * x4) (w4 * y2 - w2 * y4) (w4 * x3 - w3 * x4) (w4 * y3 - w3 * y4)
 obtain ⟨l1, l2, l3, l4, hl, r1, r2, r3⟩ : ∃ l1 l2 l3 l4 : Int, (l1 ≠ 0 ∨ l2 ≠ 0 ∨ l3 ≠ 0 ∨ l4 ≠ 0) ∧ l1 * x1 + l2 * x2 + l3 * x3 + l4 * x4 = 0 ∧ l1 * y1 + l2 * y2 + l3 * y3 + l4 * y4 = 0 ∧ l1 * w1 + l2 * w2 + l3 * w3 + l4 * w4 = 0 := by
  refine ⟨m1 * w4, m2 * w4, m3 * w4, -(m1 * w1 + m2 * w2 + m3 * w3), ?_, by grind, by grind, by grind⟩
  have hz : ∀ m : Int, m ≠ 0 → m * w4 ≠ 0 := fun m h z => (Int.mul_eq_zero.1 z).elim h (by omega)
  rcases hm with h | h | h
  · exact .inl (hz _ h)
  · exact .inr (.inl (hz _ h))
  · exact .inr (.inr (.inl (hz _ h)))
 have hpos : 0 < l1 ∨ 0 < l2 ∨ 0 < l3 ∨ 0 < l4 := by
  apply Classical.byContradiction
  intro z
  have := sum_pos4 (p1 := -l1) (p2 := -l2) (p3 := -l3) (p4 := -l4) (d1 := w1) (d2 := w2) (d3 := w3) (d4 := w4) (by omega) (by omega) (by omega) (by omega) (.inr p1) (.inr p2) (.inr p3) (.inr p4) (by omega)
  grind
 have hneg : 0 < -l1 ∨ 0 < -l2 ∨ 0 < -l3 ∨ 0 < -l4 := by
  apply Classical.byContradiction
  intro z
  have := sum_pos4 (p1 := l1) (p2 := l2) (p3 := l3) (p4 := l4) (d1 := w1) (d2 := w2) (d3 := w3) (d4 := w4) (by omega) (by omega) (by omega) (by omega) (.inr p1) (.inr p2) (.inr p3) (.inr p4) (by omega)
  omega
 obtain ⟨a1, b1, s1, a10, b10, ab1, u1, t1⟩ := split_pm l1
 obtain ⟨a2, b2, s2, a20, b20, ab2, u2, t2⟩ := split_pm l2
 obtain ⟨a3, b3, s3, a30, b30, ab3, u3, t3⟩ := split_pm l3
 obtain ⟨a4, b4, s4, a40, b40, ab4, u4, t4⟩ := split_pm l4
 have pa : 0 < a1 ∨ 0 < a2 ∨ 0 < a3 ∨ 0 < a4 := hpos.imp u1 (Or.imp u2 (Or.imp u3 u4))
 have pb : 0 < b1 ∨ 0 < b2 ∨ 0 < b3 ∨ 0 < b4 := hneg.imp t1 (Or.imp t2 (Or.imp t3 t4))
 clear u1 u2 u3 u4 t1 t2 t3 t4 hpos hneg hl hm e1 e2
 subst s1 s2 s3 s4
 have dA : ∀ h : Int × Int × Int, dotH h (a1 * x1 + a2 * x2 + a3 * x3 + a4 * x4, a1 * y1 + a2 * y2 + a3 * y3 + a4 * y4, a1 * w1 + a2 * w2 + a3 * w3 + a4 * w4) = a1 * dotH h (x1, y1, w1) + a2 * dotH h (x2, y2, w2) + a3 * dotH h (x3, y3, w3) + a4 * dotH h (x4, y4, w4) := fun h => by
  simp only [dotH]; grind
 have dB : ∀ h : Int × Int × Int, dotH h (a1 * x1 + a2 * x2 + a3 * x3 + a4 * x4, a1 * y1 + a2 * y2 + a3 * y3 + a4 * y4, a1 * w1 + a2 * w2 + a3 * w3 + a4 * w4) = b1 * dotH h (x1, y1, w1) + b2 * dotH h (x2, y2, w2) + b3 * dotH h (x3, y3, w3) + b4 * dotH h (x4, y4, w4) := fun h => by
  simp only [dotH]; grind
 have one : ∀ {h : Int × Int × Int}, (a1 = 0 ∨ 0 < dotH h (x1, y1, w1)) → (a2 = 0 ∨ 0 < dotH h (x2, y2, w2)) → (a3 = 0 ∨ 0 < dotH h (x3, y3, w3)) → (a4 = 0 ∨ 0 < dotH h (x4, y4, w4)) → 0 < dotH h (a1 * x1 + a2 * x2 + a3 * x3 + a4 * x4, a1 * y1 + a2 * y2 + a3 * y3 + a4 * y4, a1 * w1 + a2 * w2 + a3 * w3 + a4 * w4) := fun {h} c1 c2 c3 c4 => by
  rw [dA]; exact sum_pos4 a10 a20 a30 a40 c1 c2 c3 c4 pa
 have two : ∀ {h : Int × Int × Int}, (b1 = 0 ∨ 0 < dotH h (x1, y1, w1)) → (b2 = 0 ∨ 0 < dotH h (x2, y2, w2)) → (b3 = 0 ∨ 0 < dotH h (x3, y3, w3)) → (b4 = 0 ∨ 0 < dotH h (x4, y4, w4)) → 0 < dotH h (a1 * x1 + a2 * x2 + a3 * x3 + a4 * x4, a1 * y1 + a2 * y2 + a3 * y3 + a4 * y4, a1 * w1 + a2 * w2 + a3 * w3 + a4 * w4) := fun {h} c1 c2 c3 c4 => by
  rw [dB]; exact sum_pos4 b10 b20 b30 b40 c1 c2 c3 c4 pb
 refine ⟨(a1 * x1 + a2 * x2 + a3 * x3 + a4 * x4, a1 * y1 + a2 * y2 + a3 * y3 + a4 * y4, a1 * w1 + a2 * w2 + a3 * w3 + a4 * w4), sum_pos4 a10 a20 a30 a40 (.inr p1) (.inr p2) (.inr p3) (.inr p4) pa, ?_⟩
 simp only [List.mem_cons, forall_eq_or_imp]
 refine ⟨?_, ?_, ?_, ?_, fun h hh => one (.inr (q1.2.2.2 h hh)) (.inr (q2.2.2.2 h hh)) (.inr (q3.2.2.2 h hh)) (.inr (q4.2.2.2 h hh))⟩
 · exact ab1.elim (fun z => one (.inl z) (.inr q2.1) (.inr q3.1) (.inr q4.1)) fun z => two (.inl z) (.inr q2.1) (.inr q3.1) (.inr q4.1)
 · exact ab2.elim (fun z => one (.inr q1.1) (.inl z) (.inr q3.2.1) (.inr q4.2.1)) fun z => two (.inr q1.1) (.inl z) (.inr q3.2.1) (.inr q4.2.1)
 · exact ab3.elim (fun z => one (.inr q1.2.1) (.inr q2.2.1) (.inl z) (.inr q4.2.2.1)) fun z => two (.inr q1.2.1) (.inr q2.2.1) (.inl z) (.inr q4.2.2.1)
 · exact ab4.elim (fun z => one (.inr q1.2.2.1) (.inr q2.2.2.1) (.inr q3.2.2.1) (.inl z)) fun z => two (.inr q1.2.2.1) (.inr q2.2.2.1) (.inr q3.2.2.1) (.inl z)
theorem helly : ∀ (n : Nat) (L : List (Int × Int × Int)), L.length = n → (∀ a ∈ L, ∀ b ∈ L, ∀ c ∈ L, meetsH [a, b, c]) → meetsH L
 | _, [], _, _ => ⟨(0, 0, 1), by decide, fun h hh => by cases hh⟩
 | _, [a], _, h => by
   obtain ⟨v, h1, h2⟩ := h a (by simp) a (by simp) a (by simp)
   exact ⟨v, h1, fun x hx => h2 x (by simp at hx; simp [hx])⟩
 | _, [a, b], _, h => by
   obtain ⟨v, h1, h2⟩ := h a (by simp) b (by simp) b (by simp)
   exact ⟨v, h1, fun x hx => h2 x (by simp at hx; simp [hx])⟩
 | _, [a, b, c], _, h => h a (by simp) b (by simp) c (by simp)
 | 0, _ :: _ :: _ :: _ :: _, hn, _ => by cases hn
 | n + 1, A :: B :: C :: D :: R, hn, h => by
   have sub : ∀ L' : List (Int × Int × Int), L'.length = n → (∀ x ∈ L', x ∈ A :: B :: C :: D :: R) → meetsH L' := fun L' h1 h2 => helly n L' h1 fun a ha b hb c hc => h a (h2 a ha) b (h2 b hb) c (h2 c hc)
   simp only [List.length_cons] at hn
   refine helly_step (sub _ (by simp; omega) ?_) (sub _ (by simp; omega) ?_) (sub _ (by simp; omega) ?_) (sub _ (by simp; omega) ?_) <;> · intro x hx; simp only [List.mem_cons] at hx ⊢; grind
end Go.Proofs.Ytollcjadobpfdaa.Rw
namespace Go.Proofs.Ytollcjadobpfdaa.Rw
set_option linter.unusedVariables false
set_option linter.unusedSimpArgs false
def crossI (a b c : Int × Int) : Int := (b.1 - a.1) * (c.2 - a.2) - (c.1 - a.1) * (b.2 - a.2)
def sideH (a b : Int × Int) : Int × Int × Int := (a.2 - b.2, b.1 - a.1, a.1 * b.2 - a.2 * b.1)
theorem side_dot (a b c : Int × Int) : dotH (sideH a b) (c.1, c.2, 1) = crossI a b c := by
 simp only [dotH, sideH, crossI]; grind
theorem crossI_rot (a b c : Int × Int) : crossI b c a = crossI a b c := by simp only [crossI]; grind
theorem crossI_swap (a b c : Int × Int) : crossI b a c = - crossI a b c := by simp only [crossI]; grind
theorem crossI_self (a b : Int × Int) : crossI a b a = 0 ∧ crossI a b b = 0 := by simp only [crossI]; constructor <;> grind
def sidesH (a b c : Int × Int) : List (Int × Int × Int) := [sideH a b, sideH b c, sideH c a]
theorem meetsH.mono {L L' : List (Int × Int × Int)} (h : meetsH L) (hs : ∀ x ∈ L', x ∈ L) : meetsH L' := by
 obtain ⟨v, h1, h2⟩ := h
 exact ⟨v, h1, fun x hx => h2 x (hs x hx)⟩
theorem near_corner {a b c v : Int × Int} (hp : 0 < crossI a b c) (hv : v = a ∨ v = b ∨ v = c) {h : Int × Int × Int} (hh : 0 < dotH h (v.1, v.2, 1)) : meetsH (h :: sidesH a b c) := by
 have hp2 : crossI b c a = crossI a b c := crossI_rot a b c
 have hp3 : crossI c a b = crossI a b c := (crossI_rot b c a).trans hp2
 have n0 : ∃ N : Int, 0 < N ∧ 0 < N * dotH h (v.1, v.2, 1) + dotH h (a.1 + b.1 + c.1, a.2 + b.2 + c.2, 3) := by
  generalize dotH h (a.1 + b.1 + c.1, a.2 + b.2 + c.2, 3) = z at *
  generalize dotH h (v.1, v.2, 1) = y at *
  refine ⟨max z (-z) + 1, by omega, ?_⟩
  have : max z (-z) + 1 ≤ (max z (-z) + 1) * y := by
   have := Int.mul_le_mul_of_nonneg_left (show (1 : Int) ≤ y by omega) (show 0 ≤ max z (-z) + 1 by omega)
   omega
  omega
 obtain ⟨N, hN, hz⟩ := n0
 have lin : ∀ g : Int × Int × Int, dotH g (N * v.1 + (a.1 + b.1 + c.1), N * v.2 + (a.2 + b.2 + c.2), N + 3) = N * dotH g (v.1, v.2, 1) + (dotH g (a.1, a.2, 1) + dotH g (b.1, b.2, 1) + dotH g (c.1, c.2, 1)) := fun g => by
  simp only [dotH]; grind
 refine ⟨(N * v.1 + (a.1 + b.1 + c.1), N * v.2 + (a.2 + b.2 + c.2), N + 3), by show 0 < N + 3; omega, ?_⟩
 have pos : ∀ g : Int × Int × Int, (0 ≤ dotH g (a.1, a.2, 1) ∧ 0 ≤ dotH g (b.1, b.2, 1) ∧ 0 ≤ dotH g (c.1, c.2, 1)) → 0 < dotH g (a.1, a.2, 1) + dotH g (b.1, b.2, 1) + dotH g (c.1, c.2, 1) → 0 < dotH g (N * v.1 + (a.1 + b.1 + c.1), N * v.2 + (a.2 + b.2 + c.2), N + 3) := fun g h1 h2 => by
  rw [lin]
  have h3 : 0 ≤ dotH g (v.1, v.2, 1) := by rcases hv with rfl | rfl | rfl <;> omega
  have := Int.mul_nonneg (Int.le_of_lt hN) h3
  omega
 have s1 := crossI_self a b; have s2 := crossI_self b c; have s3 := crossI_self c a
 simp only [sidesH, List.mem_cons, List.not_mem_nil, or_false, forall_eq_or_imp, forall_eq]
 refine ⟨?_, pos _ ?_ ?_, pos _ ?_ ?_, pos _ ?_ ?_⟩
 · rw [lin]
   have : dotH h (a.1 + b.1 + c.1, a.2 + b.2 + c.2, 3) = dotH h (a.1, a.2, 1) + dotH h (b.1, b.2, 1) + dotH h (c.1, c.2, 1) := by simp only [dotH]; grind
   omega
 all_goals simp only [side_dot]; omega
theorem meet_inner {a b c d e f : Int × Int} (h1 : 0 < crossI a b c) (h2 : 0 < crossI d e f)
 (h3 : ∀ g ∈ sidesH a b c, 0 < dotH g (d.1, d.2, 1) ∨ 0 < dotH g (e.1, e.2, 1) ∨ 0 < dotH g (f.1, f.2, 1)) (h4 : ∀ g ∈ sidesH d e f, 0 < dotH g (a.1, a.2, 1) ∨ 0 < dotH g (b.1, b.2, 1) ∨ 0 < dotH g (c.1, c.2, 1)) :
 meetsH (sidesH a b c ++ sidesH d e f) := by
 have k1 : ∀ g ∈ sidesH d e f, meetsH (g :: sidesH a b c) := fun g hg => by
  rcases h4 g hg with h | h | h
  · exact near_corner h1 (.inl rfl) h
  · exact near_corner h1 (.inr (.inl rfl)) h
  · exact near_corner h1 (.inr (.inr rfl)) h
 have k2 : ∀ g ∈ sidesH a b c, meetsH (g :: sidesH d e f) := fun g hg => by
  rcases h3 g hg with h | h | h
  · exact near_corner h2 (.inl rfl) h
  · exact near_corner h2 (.inr (.inl rfl)) h
  · exact near_corner h2 (.inr (.inr rfl)) h
 have k0 := k1 (sideH d e) (by simp [sidesH])
 have k9 := k2 (sideH a b) (by simp [sidesH])
 refine helly _ _ rfl fun x hx y hy z hz => ?_
 rw [List.mem_append] at hx hy hz
 rcases hx with hx | hx <;> rcases hy with hy | hy <;> rcases hz with hz | hz
 · exact k0.mono (by simp only [List.mem_cons] at *; grind)
 · exact (k1 z hz).mono (by simp only [List.mem_cons] at *; grind)
 · exact (k1 y hy).mono (by simp only [List.mem_cons] at *; grind)
 · exact (k2 x hx).mono (by simp only [List.mem_cons] at *; grind)
 · exact (k1 x hx).mono (by simp only [List.mem_cons] at *; grind)
 · exact (k2 y hy).mono (by simp only [List.mem_cons] at *; grind)
 · exact (k2 z hz).mono (by simp only [List.mem_cons] at *; grind)
 · exact k9.mono (by simp only [List.mem_cons] at *; grind)
end Go.Proofs.Ytollcjadobpfdaa.Rw
namespace Go.Proofs.Ytollcjadobpfdaa.Rw
set_option linter.unusedVariables false
set_option linter.unusedSimpArgs false
def phiK (K : Int) (q : Int × Int) : Int := K * q.1 + q.2
def phiH (K : Int) (v : Int × Int × Int) : Int := K * v.1 + v.2.1
theorem level_swap (K : Int) (a b c d : Int × Int) (S W : Int) :
 ((phiK K b * W - S) * crossI c d a + (S - phiK K a * W) * crossI c d b) + ((phiK K d * W - S) * crossI a b c + (S - phiK K c * W) * crossI a b d) = 0 := by
 simp only [phiK, crossI]; grind
theorem level_line {K : Int} {a b c d : Int × Int} {S W : Int} (h1 : phiK K a * W < S) (h2 : S < phiK K b * W) (h3 : phiK K c * W < S) (h4 : S < phiK K d * W)
 (g1 : 0 ≤ crossI c d a) (g2 : 0 ≤ crossI c d b) (g3 : 0 ≤ crossI a b c) (g4 : 0 ≤ crossI a b d) : crossI c d a = 0 ∧ crossI c d b = 0 ∧ crossI a b c = 0 ∧ crossI a b d = 0 := by
 have e := level_swap K a b c d S W
 have k1 := Int.mul_nonneg (show 0 ≤ phiK K b * W - S by omega) g1
 have k2 := Int.mul_nonneg (show 0 ≤ S - phiK K a * W by omega) g2
 have k3 := Int.mul_nonneg (show 0 ≤ phiK K d * W - S by omega) g3
 have k4 := Int.mul_nonneg (show 0 ≤ S - phiK K c * W by omega) g4
 have z : ∀ {x y : Int}, 0 < x → x * y = 0 → y = 0 := fun h k => (Int.mul_eq_zero.1 k).resolve_left (by omega)
 exact ⟨z (by omega) (show (phiK K b * W - S) * _ = 0 by omega), z (by omega) (show (S - phiK K a * W) * _ = 0 by omega), z (by omega) (show (phiK K d * W - S) * _ = 0 by omega), z (by omega) (show (S - phiK K c * W) * _ = 0 by omega)⟩
theorem level_low (K : Int) (a b c : Int × Int) (v : Int × Int × Int) : (phiK K c - phiK K a) * dotH (sideH a b) v - (phiK K b - phiK K a) * dotH (sideH a c) v = crossI a b c * (phiH K v - phiK K a * v.2.2) := by
 simp only [phiK, phiH, crossI, dotH, sideH]; grind
theorem level_high (K : Int) (a b c : Int × Int) (v : Int × Int × Int) : (phiK K c - phiK K a) * dotH (sideH b c) v - (phiK K c - phiK K b) * dotH (sideH a c) v = crossI a b c * (phiK K c * v.2.2 - phiH K v) := by
 simp only [phiK, phiH, crossI, dotH, sideH]; grind
theorem off_levels {K : Int} (hK : 0 < K) {L : List (Int × Int × Int)} (h : meetsH L) : ∃ v : Int × Int × Int, 0 < v.2.2 ∧ (∀ g ∈ L, 0 < dotH g v) ∧ ∀ m : Int, phiH K v ≠ m * v.2.2 := by
 obtain ⟨v, h1, h2⟩ := h
 have bound : ∀ L : List (Int × Int × Int), (∀ g ∈ L, 0 < dotH g v) → ∃ B : Int, 0 < B ∧ ∀ g ∈ L, 0 < B + g.1 := fun L => by
  induction L with
  | nil => exact fun _ => ⟨1, by decide, fun g hg => by cases hg⟩
  | cons g L ih =>
    intro hL
    obtain ⟨B, k1, k2⟩ := ih fun x hx => hL x (List.mem_cons_of_mem _ hx)
    refine ⟨max B (1 - g.1), by omega, fun x hx => ?_⟩
    rcases List.mem_cons.1 hx with rfl | hx
    · omega
    · have := k2 x hx; omega
 obtain ⟨B, k1, k2⟩ := bound L h2
 have hT : 0 < B + K + 1 := by omega
 refine ⟨((B + K + 1) * v.1 + 1, (B + K + 1) * v.2.1, (B + K + 1) * v.2.2), Int.mul_pos hT h1, fun g hg => ?_, fun m hm => ?_⟩
 · have e : dotH g ((B + K + 1) * v.1 + 1, (B + K + 1) * v.2.1, (B + K + 1) * v.2.2) = (B + K + 1) * dotH g v + g.1 := by simp only [dotH]; grind
   rw [e]
   have := k2 g hg
   have h3 := Int.mul_le_mul_of_nonneg_left (show (1 : Int) ≤ dotH g v from h2 g hg) (Int.le_of_lt hT)
   omega
 · have e : K = (B + K + 1) * (m * v.2.2 - phiH K v) := by simp only [phiH] at hm ⊢; grind
   have hd : (B + K + 1) ∣ K := ⟨_, e⟩
   have := Int.le_of_dvd hK hd
   omega
end Go.Proofs.Ytollcjadobpfdaa.Rw
namespace Go.Proofs.Ytollcjadobpfdaa.Rw
set_option linter.unusedVariables false
set_option linter.unusedSimpArgs false
abbrev Cell3 := Int × Int × Int
def edgesC (c : Cell3) : List (Int × Int) := [(c.1, c.2.1), (c.2.1, c.2.2), (c.2.2, c.1)]
def edgesL (cs : List Cell3) : List (Int × Int) := cs.flatMap edgesC
theorem nodup_sub {α : Type} : ∀ {U D : List α}, U.Nodup → (∀ x ∈ U, x ∈ D) → U.length ≤ D.length
 | [], _, _, _ => Nat.zero_le _
 | x :: U, D, h1, h2 => by
   rw [List.nodup_cons] at h1
   obtain ⟨s, t, rfl⟩ := List.append_of_mem (h2 x (by simp))
   have := nodup_sub (U := U) (D := s ++ t) h1.2 fun y hy => by
    have hne : y ≠ x := fun e => h1.1 (e ▸ hy)
    have := h2 y (by simp [hy])
    simp only [List.mem_append, List.mem_cons] at this ⊢
    grind
   simp only [List.length_append, List.length_cons] at this ⊢
   omega
theorem apart_eq {α β : Type} {f : α → List β} : ∀ {l : List α} {a b : α} {x : β}, (l.flatMap f).Nodup → a ∈ l → b ∈ l → x ∈ f a → x ∈ f b → a = b
 | c :: l, a, b, x, h, ha, hb, h1, h2 => by
   rw [List.flatMap_cons, List.nodup_append] at h
   rcases List.mem_cons.1 ha with ea | ga <;> rcases List.mem_cons.1 hb with eb | gb
   · rw [ea, eb]
   · subst ea; exact absurd rfl (h.2.2 x h1 x (List.mem_flatMap.2 ⟨b, gb, h2⟩))
   · subst eb; exact absurd rfl (h.2.2 x h2 x (List.mem_flatMap.2 ⟨a, ga, h1⟩))
   · exact apart_eq h.2.1 ga gb h1 h2
theorem cells_nodup : ∀ {cs : List Cell3}, (edgesL cs).Nodup → cs.Nodup
 | [], _ => List.nodup_nil
 | c :: cs, h => by
   unfold edgesL at h
   rw [List.flatMap_cons, List.nodup_append] at h
   exact List.nodup_cons.2 ⟨fun hc => absurd rfl (h.2.2 (c.1, c.2.1) (by simp [edgesC]) _ (List.mem_flatMap.2 ⟨c, hc, by simp [edgesC]⟩)), cells_nodup h.2.1⟩
section
variable (p : Int → Int × Int) (K : Int)
def Rising (n : Int) : Prop := ∀ i j, 0 ≤ i → i < j → j < n → phiK K (p i) < phiK K (p j)
structure CellOK (n : Int) (c : Cell3) : Prop where
 lo : 0 ≤ c.1
 b : c.1 < c.2.1
 d : c.1 < c.2.2
 bn : c.2.1 < n
 dn : c.2.2 < n
 ccw : 0 < crossI (p c.1) (p c.2.1) (p c.2.2)
def inC (c : Cell3) (v : Int × Int × Int) : Prop := 0 < dotH (sideH (p c.1) (p c.2.1)) v ∧ 0 < dotH (sideH (p c.2.1) (p c.2.2)) v ∧ 0 < dotH (sideH (p c.2.2) (p c.1)) v
def thru (v : Int × Int × Int) (e : Int × Int) : Prop := e.1 < e.2 ∧ phiK K (p e.1) * v.2.2 < phiH K v ∧ phiH K v < phiK K (p e.2) * v.2.2
def leftE (v : Int × Int × Int) (e : Int × Int) : Prop := 0 < dotH (sideH (p e.1) (p e.2)) v
end
section
variable {p : Int → Int × Int} {K n : Int} {c d : Cell3} {v : Int × Int × Int}
theorem cell_level (hr : Rising p K n) (hc : CellOK p n c) (hw : 0 < v.2.2) (hg : ∀ j, 0 ≤ j → j < n → phiH K v ≠ phiK K (p j) * v.2.2) {e : Int × Int} (he : thru p K v e) (hm : e ∈ edgesC c ∨ (e.2, e.1) ∈ edgesC c) :
 ∃ u w : Int × Int, u ∈ edgesC c ∧ (w.2, w.1) ∈ edgesC c ∧ thru p K v u ∧ thru p K v w ∧ (∀ x, x ∈ edgesC c → thru p K v x → x = u) ∧ (∀ x : Int × Int, (x.2, x.1) ∈ edgesC c → thru p K v x → x = w) ∧ (0 ≤ dotH (sideH (p w.1) (p w.2)) v → leftE p v u) := by
 obtain ⟨i, y, z⟩ := c
 obtain ⟨a, b⟩ := e
 obtain ⟨lo, hb, hd, bn, dn, ccw⟩ := hc
 simp only at lo hb hd bn dn ccw
 obtain ⟨e1, e2, e3⟩ := he
 simp only at e1 e2 e3
 have hyz : y ≠ z := fun h => by subst h; rw [(crossI_self (p i) (p y)).2] at ccw; omega
 have r1 := hr i y lo hb bn
 have r2 := hr i z lo hd dn
 have gy := hg y (by omega) bn
 have gz := hg z (by omega) dn
 simp only [edgesC, List.mem_cons, List.not_mem_nil, or_false, Prod.mk.injEq] at hm
 have L1 := level_low K (p i) (p y) (p z) v
 have L2 := level_high K (p i) (p y) (p z) v
 have L3 := level_low K (p i) (p z) (p y) v
 have L4 := level_high K (p i) (p z) (p y) v
 have sw : crossI (p i) (p z) (p y) = - crossI (p i) (p y) (p z) := by simp only [crossI]; grind
 rw [sw] at L3 L4
 have mulpos : ∀ {x y : Int}, 0 < x → 0 < x * y → 0 < y := fun {x y} h1 h2 => by
  rcases Int.lt_or_le 0 y with g | g
  · exact g
  · have := Int.mul_nonneg (Int.le_of_lt h1) (show 0 ≤ -y by omega); rw [Int.mul_neg] at this; omega
 have hi : phiK K (p i) * v.2.2 < phiH K v := by
  have ha : phiK K (p i) ≤ phiK K (p a) := by
   rcases hm with (⟨rfl, rfl⟩ | ⟨rfl, rfl⟩ | ⟨rfl, rfl⟩) | (⟨rfl, rfl⟩ | ⟨rfl, rfl⟩ | ⟨rfl, rfl⟩) <;> omega
  have := Int.mul_le_mul_of_nonneg_right ha (Int.le_of_lt hw)
  omega
 have hmx : phiH K v < phiK K (p y) * v.2.2 ∨ phiH K v < phiK K (p z) * v.2.2 := by
  rcases hm with (⟨rfl, rfl⟩ | ⟨rfl, rfl⟩ | ⟨rfl, rfl⟩) | (⟨rfl, rfl⟩ | ⟨rfl, rfl⟩ | ⟨rfl, rfl⟩)
  · exact .inl e3
  · exact .inr e3
  · omega
  · omega
  · exact .inl e3
  · exact .inr e3
 clear hm e1 e2 e3
 rcases Int.lt_or_gt_of_ne hyz with h | h
 ·
  have r3 := hr y z (by omega) h dn
  have r3w := Int.mul_lt_mul_of_pos_right r3 hw
  have hz : phiH K v < phiK K (p z) * v.2.2 := by omega
  rcases Int.lt_or_gt_of_ne gy with g | g
  · refine ⟨(i, y), (i, z), by simp [edgesC], by simp [edgesC], ⟨hb, hi, g⟩, ⟨hd, hi, hz⟩, ?_, ?_, fun q => ?_⟩
    · rintro ⟨x1, x2⟩ hx ⟨t1, t2, t3⟩
      simp only [edgesC, List.mem_cons, List.not_mem_nil, or_false, Prod.mk.injEq] at hx t1 t2 t3 ⊢
      rcases hx with ⟨rfl, rfl⟩ | ⟨rfl, rfl⟩ | ⟨rfl, rfl⟩ <;> omega
    · rintro ⟨x1, x2⟩ hx ⟨t1, t2, t3⟩
      simp only [edgesC, List.mem_cons, List.not_mem_nil, or_false, Prod.mk.injEq] at hx t1 t2 t3 ⊢
      rcases hx with ⟨rfl, rfl⟩ | ⟨rfl, rfl⟩ | ⟨rfl, rfl⟩ <;> omega
    · have q : 0 ≤ dotH (sideH (p i) (p z)) v := q
      have m1 := Int.mul_nonneg (show 0 ≤ phiK K (p y) - phiK K (p i) by omega) q
      have m2 := Int.mul_pos ccw (show 0 < phiH K v - phiK K (p i) * v.2.2 by omega)
      show 0 < dotH (sideH (p i) (p y)) v
      exact mulpos (show 0 < phiK K (p z) - phiK K (p i) by omega) (by omega)
  · refine ⟨(y, z), (i, z), by simp [edgesC], by simp [edgesC], ⟨h, g, hz⟩, ⟨hd, hi, hz⟩, ?_, ?_, fun q => ?_⟩
    · rintro ⟨x1, x2⟩ hx ⟨t1, t2, t3⟩
      simp only [edgesC, List.mem_cons, List.not_mem_nil, or_false, Prod.mk.injEq] at hx t1 t2 t3 ⊢
      rcases hx with ⟨rfl, rfl⟩ | ⟨rfl, rfl⟩ | ⟨rfl, rfl⟩ <;> omega
    · rintro ⟨x1, x2⟩ hx ⟨t1, t2, t3⟩
      simp only [edgesC, List.mem_cons, List.not_mem_nil, or_false, Prod.mk.injEq] at hx t1 t2 t3 ⊢
      rcases hx with ⟨rfl, rfl⟩ | ⟨rfl, rfl⟩ | ⟨rfl, rfl⟩ <;> omega
    · have q : 0 ≤ dotH (sideH (p i) (p z)) v := q
      have m1 := Int.mul_nonneg (show 0 ≤ phiK K (p z) - phiK K (p y) by omega) q
      have m2 := Int.mul_pos ccw (show 0 < phiK K (p z) * v.2.2 - phiH K v by omega)
      show 0 < dotH (sideH (p y) (p z)) v
      exact mulpos (show 0 < phiK K (p z) - phiK K (p i) by omega) (by omega)
 ·
  have r3 := hr z y (by omega) h bn
  have r3w := Int.mul_lt_mul_of_pos_right r3 hw
  have hy : phiH K v < phiK K (p y) * v.2.2 := by omega
  rcases Int.lt_or_gt_of_ne gz with g | g
  · refine ⟨(i, y), (i, z), by simp [edgesC], by simp [edgesC], ⟨hb, hi, hy⟩, ⟨hd, hi, g⟩, ?_, ?_, fun q => ?_⟩
    · rintro ⟨x1, x2⟩ hx ⟨t1, t2, t3⟩
      simp only [edgesC, List.mem_cons, List.not_mem_nil, or_false, Prod.mk.injEq] at hx t1 t2 t3 ⊢
      rcases hx with ⟨rfl, rfl⟩ | ⟨rfl, rfl⟩ | ⟨rfl, rfl⟩ <;> omega
    · rintro ⟨x1, x2⟩ hx ⟨t1, t2, t3⟩
      simp only [edgesC, List.mem_cons, List.not_mem_nil, or_false, Prod.mk.injEq] at hx t1 t2 t3 ⊢
      rcases hx with ⟨rfl, rfl⟩ | ⟨rfl, rfl⟩ | ⟨rfl, rfl⟩ <;> omega
    · have q : 0 ≤ dotH (sideH (p i) (p z)) v := q
      have m1 := Int.mul_nonneg (show 0 ≤ phiK K (p y) - phiK K (p i) by omega) q
      have m2 := Int.mul_pos ccw (show 0 < phiH K v - phiK K (p i) * v.2.2 by omega)
      rw [Int.neg_mul] at L3
      show 0 < dotH (sideH (p i) (p y)) v
      exact mulpos (show 0 < phiK K (p z) - phiK K (p i) by omega) (by omega)
  · refine ⟨(i, y), (z, y), by simp [edgesC], by simp [edgesC], ⟨hb, hi, hy⟩, ⟨h, g, hy⟩, ?_, ?_, fun q => ?_⟩
    · rintro ⟨x1, x2⟩ hx ⟨t1, t2, t3⟩
      simp only [edgesC, List.mem_cons, List.not_mem_nil, or_false, Prod.mk.injEq] at hx t1 t2 t3 ⊢
      rcases hx with ⟨rfl, rfl⟩ | ⟨rfl, rfl⟩ | ⟨rfl, rfl⟩ <;> omega
    · rintro ⟨x1, x2⟩ hx ⟨t1, t2, t3⟩
      simp only [edgesC, List.mem_cons, List.not_mem_nil, or_false, Prod.mk.injEq] at hx t1 t2 t3 ⊢
      rcases hx with ⟨rfl, rfl⟩ | ⟨rfl, rfl⟩ | ⟨rfl, rfl⟩ <;> omega
    · have q : 0 ≤ dotH (sideH (p z) (p y)) v := q
      have m1 := Int.mul_nonneg (show 0 ≤ phiK K (p y) - phiK K (p i) by omega) q
      have m2 := Int.mul_pos ccw (show 0 < phiK K (p y) * v.2.2 - phiH K v by omega)
      rw [Int.neg_mul] at L4
      show 0 < dotH (sideH (p i) (p y)) v
      exact mulpos (show 0 < phiK K (p y) - phiK K (p z) by omega) (by omega)
end
end Go.Proofs.Ytollcjadobpfdaa.Rw
namespace Go.Proofs.Ytollcjadobpfdaa.Rw
set_option linter.unusedVariables false
set_option linter.unusedSimpArgs false
section
variable {p : Int → Int × Int} {K n : Int} {c d : Cell3} {v : Int × Int × Int} {cs : List Cell3}
theorem inC_thru (hr : Rising p K n) (hc : CellOK p n c) (hw : 0 < v.2.2) (hi : inC p c v) : ∃ e, thru p K v e ∧ (e ∈ edgesC c ∨ (e.2, e.1) ∈ edgesC c) := by
 obtain ⟨i, y, z⟩ := c
 obtain ⟨lo, hb, hd, bn, dn, ccw⟩ := hc
 simp only at lo hb hd bn dn ccw
 obtain ⟨q1, q2, q3⟩ := hi
 simp only at q1 q2 q3
 have r1 := hr i y lo hb bn
 have r2 := hr i z lo hd dn
 have mulpos : ∀ {x y : Int}, 0 < x → 0 < x * y → 0 < y := fun {x y} h1 h2 => by
  rcases Int.lt_or_le 0 y with g | g
  · exact g
  · have := Int.mul_nonneg (Int.le_of_lt h1) (show 0 ≤ -y by omega); rw [Int.mul_neg] at this; omega
 have I1 : crossI (p i) (p y) (p z) * (phiH K v - phiK K (p i) * v.2.2) = dotH (sideH (p z) (p i)) v * (phiK K (p y) - phiK K (p i)) + dotH (sideH (p i) (p y)) v * (phiK K (p z) - phiK K (p i)) := by
  simp only [phiK, phiH, crossI, dotH, sideH]; grind
 have I2 : crossI (p i) (p y) (p z) * (phiK K (p y) * v.2.2 - phiH K v) = dotH (sideH (p y) (p z)) v * (phiK K (p y) - phiK K (p i)) + dotH (sideH (p i) (p y)) v * (phiK K (p y) - phiK K (p z)) := by
  simp only [phiK, phiH, crossI, dotH, sideH]; grind
 have I3 : crossI (p i) (p y) (p z) * (phiK K (p z) * v.2.2 - phiH K v) = dotH (sideH (p y) (p z)) v * (phiK K (p z) - phiK K (p i)) + dotH (sideH (p z) (p i)) v * (phiK K (p z) - phiK K (p y)) := by
  simp only [phiK, phiH, crossI, dotH, sideH]; grind
 have m1 := Int.mul_pos q3 (show 0 < phiK K (p y) - phiK K (p i) by omega)
 have m2 := Int.mul_pos q1 (show 0 < phiK K (p z) - phiK K (p i) by omega)
 have m3 := Int.mul_pos q2 (show 0 < phiK K (p y) - phiK K (p i) by omega)
 have m4 := Int.mul_pos q2 (show 0 < phiK K (p z) - phiK K (p i) by omega)
 have t1 := mulpos ccw (show 0 < crossI (p i) (p y) (p z) * (phiH K v - phiK K (p i) * v.2.2) by omega)
 rcases Int.le_total (phiK K (p z)) (phiK K (p y)) with g | g
 · have m5 := Int.mul_nonneg (Int.le_of_lt q1) (show 0 ≤ phiK K (p y) - phiK K (p z) by omega)
   have t2 := mulpos ccw (show 0 < crossI (p i) (p y) (p z) * (phiK K (p y) * v.2.2 - phiH K v) by omega)
   exact ⟨(i, y), ⟨hb, by show phiK K (p i) * _ < _; omega, by show _ < phiK K (p y) * _; omega⟩, .inl (by simp [edgesC])⟩
 · have m5 := Int.mul_nonneg (Int.le_of_lt q3) (show 0 ≤ phiK K (p z) - phiK K (p y) by omega)
   have t2 := mulpos ccw (show 0 < crossI (p i) (p y) (p z) * (phiK K (p z) * v.2.2 - phiH K v) by omega)
   exact ⟨(i, z), ⟨hd, by show phiK K (p i) * _ < _; omega, by show _ < phiK K (p z) * _; omega⟩, .inr (by simp [edgesC])⟩
theorem inC_left (hi : inC p c v) {u : Int × Int} (hu : u ∈ edgesC c) : leftE p v u := by
 simp only [edgesC, List.mem_cons, List.not_mem_nil, or_false] at hu
 rcases hu with rfl | rfl | rfl
 · exact hi.1
 · exact hi.2.1
 · exact hi.2.2
theorem left_rev {w : Int × Int} (h : leftE p v (w.2, w.1)) : ¬ leftE p v w := by
 have e : dotH (sideH (p w.2) (p w.1)) v = - dotH (sideH (p w.1) (p w.2)) v := by simp only [dotH, sideH]; grind
 have h : 0 < dotH (sideH (p w.2) (p w.1)) v := h
 intro g
 have g : 0 < dotH (sideH (p w.1) (p w.2)) v := g
 omega
open Classical in
theorem one_cell (hV : (edgesL cs).Nodup) (hc : ∀ c ∈ cs, CellOK p n c) (hr : Rising p K n) (hw : 0 < v.2.2) (hg : ∀ j, 0 ≤ j → j < n → phiH K v ≠ phiK K (p j) * v.2.2)
 (hu : ∀ e e' : Int × Int, e ∈ edgesL cs → (e.2, e.1) ∉ edgesL cs → thru p K v e → e' ∈ edgesL cs → (e'.2, e'.1) ∉ edgesL cs → thru p K v e' → e = e')
 (h1 : c ∈ cs) (h2 : d ∈ cs) (i1 : inC p c v) (i2 : inC p d v) : c = d := by
 apply Classical.byContradiction
 intro hne
 let A := cs.filter fun c => decide (∃ u ∈ edgesC c, thru p K v u ∧ leftE p v u)
 let B := cs.filter fun c => decide (∃ w : Int × Int, (w.2, w.1) ∈ edgesC c ∧ thru p K v w ∧ leftE p v w)
 have mA : ∀ {x}, x ∈ A ↔ x ∈ cs ∧ ∃ u ∈ edgesC x, thru p K v u ∧ leftE p v u := fun {x} => by simp [A]
 have mB : ∀ {x}, x ∈ B ↔ x ∈ cs ∧ ∃ w : Int × Int, (w.2, w.1) ∈ edgesC x ∧ thru p K v w ∧ leftE p v w := fun {x} => by simp [B]
 have nA : A.Nodup := (cells_nodup hV).filter _
 have nB : B.Nodup := (cells_nodup hV).filter _
 have inA : ∀ {x}, x ∈ cs → inC p x v → x ∈ A ∧ x ∉ B := fun {x} hx hi => by
  obtain ⟨e, he, hm⟩ := inC_thru hr (hc x hx) hw hi
  obtain ⟨u, w, a1, a2, a3, a4, a5, a6, a7⟩ := cell_level hr (hc x hx) hw hg he hm
  refine ⟨mA.2 ⟨hx, u, a1, a3, inC_left hi a1⟩, fun hb => ?_⟩
  obtain ⟨_, w', b1, b2, b3⟩ := mB.1 hb
  exact left_rev (inC_left hi b1) b3
 have hBA : ∀ x ∈ B, x ∈ A := fun x hx => by
  obtain ⟨hx, w, b1, b2, b3⟩ := mB.1 hx
  obtain ⟨u, w', a1, a2, a3, a4, a5, a6, a7⟩ := cell_level hr (hc x hx) hw hg b2 (.inr b1)
  have := a6 w b1 b2
  subst this
  exact mA.2 ⟨hx, u, a1, a3, a7 (Int.le_of_lt b3)⟩
 have len1 : B.length + 2 ≤ A.length := by
  have hn : (c :: d :: B).Nodup := by
   rw [List.nodup_cons, List.nodup_cons]
   refine ⟨fun h => ?_, (inA h2 i2).2, nB⟩
   rcases List.mem_cons.1 h with e | e
   · exact hne e
   · exact (inA h1 i1).2 e
  have := nodup_sub hn (D := A) fun x hx => by
   rcases List.mem_cons.1 hx with rfl | hx
   · exact (inA h1 i1).1
   · rcases List.mem_cons.1 hx with rfl | hx
     · exact (inA h2 i2).1
     · exact hBA x hx
  simpa using this
 let U := (edgesL cs).filter fun e => decide (thru p K v e ∧ leftE p v e)
 let D := ((edgesL cs).map fun e => (e.2, e.1)).filter fun e => decide (thru p K v e ∧ leftE p v e)
 have mU : ∀ {x}, x ∈ U ↔ x ∈ edgesL cs ∧ thru p K v x ∧ leftE p v x := fun {x} => by simp [U]
 have mD : ∀ {x}, x ∈ D ↔ (x.2, x.1) ∈ edgesL cs ∧ thru p K v x ∧ leftE p v x := fun {x} => by
  obtain ⟨a, b⟩ := x
  simp only [D, List.mem_filter, List.mem_map, decide_eq_true_eq]
  constructor
  · rintro ⟨⟨⟨e1, e2⟩, he, hh⟩, h⟩
    cases hh
    exact ⟨he, h⟩
  · rintro ⟨he, h⟩
    exact ⟨⟨_, he, rfl⟩, h⟩
 have nU : U.Nodup := hV.filter _
 have nD : D.Nodup := by
  refine List.Pairwise.filter _ ?_
  refine List.pairwise_map.2 (List.Pairwise.imp (fun h g => h ?_) hV)
  simp only [Prod.mk.injEq] at g
  exact Prod.ext g.2 g.1
 have len2 : U.length ≤ D.length + 1 := by
  by_cases h : ∃ e ∈ U, (e.2, e.1) ∉ edgesL cs
  · obtain ⟨e, he, hx⟩ := h
    have := nodup_sub nU (D := e :: D) fun x hxU => by
     by_cases hxr : (x.2, x.1) ∈ edgesL cs
     · exact List.mem_cons_of_mem _ (mD.2 ⟨hxr, (mU.1 hxU).2⟩)
     · rw [hu x e (mU.1 hxU).1 hxr (mU.1 hxU).2.1 (mU.1 he).1 hx (mU.1 he).2.1]
       exact List.mem_cons_self ..
    simpa using this
  · have := nodup_sub nU (D := D) fun x hxU => mD.2 ⟨Classical.byContradiction fun z => h ⟨x, hxU, z⟩, (mU.1 hxU).2⟩
    omega
 have len3 : A.length ≤ U.length := by
  let up : Cell3 → Int × Int := fun c => Classical.epsilon fun u => u ∈ edgesC c ∧ thru p K v u ∧ leftE p v u
  have hup : ∀ x ∈ A, up x ∈ edgesC x ∧ thru p K v (up x) ∧ leftE p v (up x) := fun x hx => by
   obtain ⟨_, u, b1, b2⟩ := mA.1 hx
   exact Classical.epsilon_spec (p := fun u => u ∈ edgesC x ∧ thru p K v u ∧ leftE p v u) ⟨u, b1, b2⟩
  have hn : (A.map up).Nodup := List.pairwise_map.2 (List.Pairwise.imp_of_mem (fun {a b} ha hb hab e => hab (apart_eq hV (mA.1 ha).1 (mA.1 hb).1 (hup a ha).1 (e ▸ (hup b hb).1))) nA)
  have := nodup_sub hn (D := U) fun x hx => by
   obtain ⟨y, hy, rfl⟩ := List.mem_map.1 hx
   exact mU.2 ⟨List.mem_flatMap.2 ⟨y, (mA.1 hy).1, (hup y hy).1⟩, (hup y hy).2⟩
  simpa using this
 have len4 : D.length ≤ B.length := by
  let dn : Cell3 → Int × Int := fun c => Classical.epsilon fun w => (w.2, w.1) ∈ edgesC c ∧ thru p K v w
  have := nodup_sub nD (D := B.map dn) fun w hwD => by
   obtain ⟨h, b2, b3⟩ := mD.1 hwD
   obtain ⟨x, hx, b1⟩ := List.mem_flatMap.1 h
   refine List.mem_map.2 ⟨x, mB.2 ⟨hx, w, b1, b2, b3⟩, ?_⟩
   obtain ⟨u, w', a1, a2, a3, a4, a5, a6, a7⟩ := cell_level hr (hc x hx) hw hg b2 (.inr b1)
   have hs := Classical.epsilon_spec (p := fun w : Int × Int => (w.2, w.1) ∈ edgesC x ∧ thru p K v w) ⟨w, b1, b2⟩
   exact (a6 _ hs.1 hs.2).trans (a6 w b1 b2).symm
  simpa using this
 omega
end
end Go.Proofs.Ytollcjadobpfdaa.Rw
namespace Go.Proofs.Ytollcjadobpfdaa.Rw
set_option linter.unusedVariables false
set_option linter.unusedSimpArgs false
section
variable (p : Int → Int × Int) (K n : Int)
structure OuterE (e : Int × Int) : Prop where
 l1 : 0 ≤ e.1
 l2 : 0 ≤ e.2
 u1 : e.1 < n
 u2 : e.2 < n
 left : ∀ m, 0 ≤ m → m < n → 0 ≤ crossI (p e.1) (p e.2) (p m)
 none : ∀ m, 0 ≤ m → m < n → crossI (p e.1) (p e.2) (p m) = 0 → ¬ (e.1 < m ∧ m < e.2) ∧ ¬ (e.2 < m ∧ m < e.1)
structure MeshV (cs : List Cell3) : Prop where
 kpos : 0 < K
 rise : Rising p K n
 cell : ∀ c ∈ cs, CellOK p n c
 nod : (edgesL cs).Nodup
 rim : ∀ e ∈ edgesL cs, OuterE p n e ↔ (e.2, e.1) ∉ edgesL cs
 used : ∀ i, 0 ≤ i → i < n → ∃ c ∈ cs, i = c.1 ∨ i = c.2.1 ∨ i = c.2.2
end
section
variable {p : Int → Int × Int} {K n : Int} {c d : Cell3} {v : Int × Int × Int} {cs : List Cell3}
theorem Rising.lt (hr : Rising p K n) {i j : Int} (h1 : 0 ≤ j) (h2 : i < n) (h : phiK K (p i) < phiK K (p j)) : i < j := by
 rcases Int.lt_or_le i j with g | g
 · exact g
 · rcases Int.lt_or_eq_of_le g with g | g
   · have := hr j i h1 g h2; omega
   · subst g; omega
theorem outer_one (hr : Rising p K n) (hw : 0 < v.2.2) {e e' : Int × Int} (h1 : OuterE p n e) (h2 : thru p K v e) (h3 : OuterE p n e') (h4 : thru p K v e') : e = e' := by
 obtain ⟨a, b⟩ := e
 obtain ⟨c, d⟩ := e'
 obtain ⟨k1, k2, k3, k4⟩ := level_line h2.2.1 h2.2.2 h4.2.1 h4.2.2 (h3.left a h1.l1 h1.u1) (h3.left b h1.l2 h1.u2) (h1.left c h3.l1 h3.u1) (h1.left d h3.l2 h3.u2)
 have n1 := (h3.none a h1.l1 h1.u1 k1).1
 have n2 := (h3.none b h1.l2 h1.u2 k2).1
 have n3 := (h1.none c h3.l1 h3.u1 k3).1
 have n4 := (h1.none d h3.l2 h3.u2 k4).1
 have cancel : ∀ {x y : Int}, x * v.2.2 < phiH K v → phiH K v < y * v.2.2 → x < y := fun {x y} g1 g2 => Int.lt_of_mul_lt_mul_right (show x * v.2.2 < y * v.2.2 by omega) (Int.le_of_lt hw)
 have x1 := hr.lt (i := a) (j := d) h3.l2 h1.u1 (cancel h2.2.1 h4.2.2)
 have x2 := hr.lt (i := c) (j := b) h1.l2 h3.u1 (cancel h4.2.1 h2.2.2)
 have x3 := h2.1
 have x4 := h4.1
 simp only [Prod.mk.injEq] at *
 omega
theorem MeshV.meet (h : MeshV p K n cs) (hc : c ∈ cs) (hd : d ∈ cs) (hm : meetsH (sidesH (p c.1) (p c.2.1) (p c.2.2) ++ sidesH (p d.1) (p d.2.1) (p d.2.2))) : c = d := by
 obtain ⟨v, h1, h2, h3⟩ := off_levels h.kpos hm
 simp only [sidesH, List.cons_append, List.nil_append, List.mem_cons, List.not_mem_nil, or_false, forall_eq_or_imp, forall_eq] at h2
 obtain ⟨a1, a2, a3, b1, b2, b3⟩ := h2
 exact one_cell h.nod h.cell h.rise h1 (fun j _ _ => h3 _) (fun e e' g1 g2 g3 g4 g5 g6 => outer_one h.rise h1 ((h.rim e g1).2 g2) g3 ((h.rim e' g4).2 g5) g6) hc hd ⟨a1, a2, a3⟩ ⟨b1, b2, b3⟩
def partedBy (p : Int → Int × Int) (c d : Cell3) : Prop := ∃ e ∈ edgesC c, crossI (p e.1) (p e.2) (p d.1) ≤ 0 ∧ crossI (p e.1) (p e.2) (p d.2.1) ≤ 0 ∧ crossI (p e.1) (p e.2) (p d.2.2) ≤ 0
theorem MeshV.parted (h : MeshV p K n cs) (hc : c ∈ cs) (hd : d ∈ cs) (hne : c ≠ d) : partedBy p c d ∨ partedBy p d c := by
 apply Classical.byContradiction
 intro hn
 refine hne (h.meet hc hd (meet_inner (h.cell c hc).ccw (h.cell d hd).ccw ?_ ?_))
 · intro g hg
   apply Classical.byContradiction
   intro z
   refine hn (.inl ?_)
   simp only [sidesH, List.mem_cons, List.not_mem_nil, or_false] at hg
   have key : ∀ e ∈ edgesC c, g = sideH (p e.1) (p e.2) → partedBy p c d := fun e he hge => by
    subst hge
    simp only [side_dot] at z
    exact ⟨e, he, by omega, by omega, by omega⟩
   rcases hg with hg | hg | hg
   · exact key (c.1, c.2.1) (by simp [edgesC]) hg
   · exact key (c.2.1, c.2.2) (by simp [edgesC]) hg
   · exact key (c.2.2, c.1) (by simp [edgesC]) hg
 · intro g hg
   apply Classical.byContradiction
   intro z
   refine hn (.inr ?_)
   simp only [sidesH, List.mem_cons, List.not_mem_nil, or_false] at hg
   have key : ∀ e ∈ edgesC d, g = sideH (p e.1) (p e.2) → partedBy p d c := fun e he hge => by
    subst hge
    simp only [side_dot] at z
    exact ⟨e, he, by omega, by omega, by omega⟩
   rcases hg with hg | hg | hg
   · exact key (d.1, d.2.1) (by simp [edgesC]) hg
   · exact key (d.2.1, d.2.2) (by simp [edgesC]) hg
   · exact key (d.2.2, d.1) (by simp [edgesC]) hg
end
end Go.Proofs.Ytollcjadobpfdaa.Rw
namespace Go.Proofs.Ytollcjadobpfdaa.Rw
set_option linter.unusedVariables false
set_option linter.unusedSimpArgs false
theorem near_in {a b c : Int × Int} (hp : 0 < crossI a b c) {v : Int × Int × Int} (hv0 : 0 ≤ v.2.2) (hv : ∀ g ∈ sidesH a b c, 0 ≤ dotH g v) {L : List (Int × Int × Int)} (hL : ∀ h ∈ L, 0 < dotH h v) : meetsH (L ++ sidesH a b c) := by
 have hp2 : crossI b c a = crossI a b c := crossI_rot a b c
 have hp3 : crossI c a b = crossI a b c := (crossI_rot b c a).trans hp2
 have bound : ∀ L : List (Int × Int × Int), ∃ N : Int, 0 < N ∧ ∀ h ∈ L, 0 < N + dotH h (a.1 + b.1 + c.1, a.2 + b.2 + c.2, 3) := fun L => by
  induction L with
  | nil => exact ⟨1, by decide, fun g hg => by cases hg⟩
  | cons g L ih =>
    obtain ⟨N, k1, k2⟩ := ih
    refine ⟨max N (1 - dotH g (a.1 + b.1 + c.1, a.2 + b.2 + c.2, 3)), by omega, fun x hx => ?_⟩
    rcases List.mem_cons.1 hx with rfl | hx
    · omega
    · have := k2 x hx; omega
 obtain ⟨N, hN, hz⟩ := bound L
 have lin : ∀ g : Int × Int × Int, dotH g (N * v.1 + (a.1 + b.1 + c.1), N * v.2.1 + (a.2 + b.2 + c.2), N * v.2.2 + 3) = N * dotH g v + dotH g (a.1 + b.1 + c.1, a.2 + b.2 + c.2, 3) := fun g => by
  simp only [dotH]; grind
 have cen : ∀ g : Int × Int × Int, dotH g (a.1 + b.1 + c.1, a.2 + b.2 + c.2, 3) = dotH g (a.1, a.2, 1) + dotH g (b.1, b.2, 1) + dotH g (c.1, c.2, 1) := fun g => by simp only [dotH]; grind
 have hNw := Int.mul_nonneg (Int.le_of_lt hN) hv0
 refine ⟨(N * v.1 + (a.1 + b.1 + c.1), N * v.2.1 + (a.2 + b.2 + c.2), N * v.2.2 + 3), by show 0 < N * v.2.2 + 3; omega, fun g hg => ?_⟩
 rw [lin]
 rcases List.mem_append.1 hg with hg | hg
 · have h1 := Int.mul_le_mul_of_nonneg_left (show (1 : Int) ≤ dotH g v from hL g hg) (Int.le_of_lt hN)
   have := hz g hg
   omega
 · have h1 := Int.mul_nonneg (Int.le_of_lt hN) (hv g hg)
   have s1 := crossI_self a b; have s2 := crossI_self b c; have s3 := crossI_self c a
   rw [cen]
   simp only [sidesH, List.mem_cons, List.not_mem_nil, or_false] at hg
   rcases hg with rfl | rfl | rfl <;> simp only [side_dot] at h1 ⊢ <;> omega
theorem three_line {a b r s t : Int × Int} (hne : ¬ (a.1 = b.1 ∧ a.2 = b.2)) (h1 : crossI a b r = 0) (h2 : crossI a b s = 0) (h3 : crossI a b t = 0) : crossI r s t = 0 := by
 have e1 : (b.1 - a.1) * crossI r s t = (s.1 - r.1) * (crossI a b t - crossI a b r) - (t.1 - r.1) * (crossI a b s - crossI a b r) := by simp only [crossI]; grind
 have e2 : (b.2 - a.2) * crossI r s t = (s.2 - r.2) * (crossI a b t - crossI a b r) - (t.2 - r.2) * (crossI a b s - crossI a b r) := by simp only [crossI]; grind
 rw [h1, h2, h3] at e1 e2
 simp only [Int.sub_self, Int.mul_zero] at e1 e2
 rcases Int.mul_eq_zero.1 e1 with z1 | z1
 · rcases Int.mul_eq_zero.1 e2 with z2 | z2
   · exact absurd ⟨by omega, by omega⟩ hne
   · exact z2
 · exact z1
section
variable {p : Int → Int × Int} {K n : Int} {c d : Cell3} {v : Int × Int × Int} {cs : List Cell3}
def cornerC (c : Cell3) (i : Int) : Prop := i = c.1 ∨ i = c.2.1 ∨ i = c.2.2
theorem edge_rot {e : Int × Int} (he : e ∈ edgesC c) (h : 0 < crossI (p c.1) (p c.2.1) (p c.2.2)) : ∃ x : Int, (∀ f, f ∈ edgesC c ↔ f = e ∨ f = (e.2, x) ∨ f = (x, e.1)) ∧ (∀ i, cornerC c i ↔ i = e.1 ∨ i = e.2 ∨ i = x) ∧ 0 < crossI (p e.1) (p e.2) (p x) ∧
 (∀ g, g ∈ sidesH (p c.1) (p c.2.1) (p c.2.2) ↔ g ∈ sidesH (p e.1) (p e.2) (p x)) := by
 have r1 := crossI_rot (p c.1) (p c.2.1) (p c.2.2)
 have r2 := crossI_rot (p c.2.1) (p c.2.2) (p c.1)
 have he' := he
 simp only [edgesC, List.mem_cons, List.not_mem_nil, or_false] at he'
 rcases he' with rfl | rfl | rfl
 · refine ⟨c.2.2, fun f => by simp [edgesC], fun i => by simp [cornerC], h, fun g => Iff.rfl⟩
 · refine ⟨c.1, fun f => by simp only [edgesC, List.mem_cons, List.not_mem_nil, or_false]; grind, fun i => by simp only [cornerC]; grind, by show 0 < crossI (p c.2.1) (p c.2.2) (p c.1); omega, fun g => by simp only [sidesH, List.mem_cons, List.not_mem_nil, or_false]; grind⟩
 · refine ⟨c.2.1, fun f => by simp only [edgesC, List.mem_cons, List.not_mem_nil, or_false]; grind, fun i => by simp only [cornerC]; grind, by show 0 < crossI (p c.2.2) (p c.1) (p c.2.1); omega, fun g => by simp only [sidesH, List.mem_cons, List.not_mem_nil, or_false]; grind⟩
theorem corner_in (h : 0 < crossI (p d.1) (p d.2.1) (p d.2.2)) {r : Int} (hr : cornerC d r) : ∀ g ∈ sidesH (p d.1) (p d.2.1) (p d.2.2), 0 ≤ dotH g ((p r).1, (p r).2, 1) := by
 intro g hg
 have r1 := crossI_rot (p d.1) (p d.2.1) (p d.2.2)
 have r2 := crossI_rot (p d.2.1) (p d.2.2) (p d.1)
 have s1 := crossI_self (p d.1) (p d.2.1); have s2 := crossI_self (p d.2.1) (p d.2.2); have s3 := crossI_self (p d.2.2) (p d.1)
 simp only [sidesH, List.mem_cons, List.not_mem_nil, or_false] at hg
 rcases hg with rfl | rfl | rfl <;> rw [side_dot] <;> rcases hr with rfl | rfl | rfl <;> omega
theorem MeshV.beside (h : MeshV p K n cs) (hc : c ∈ cs) (hd : d ∈ cs) (hne : c ≠ d) {e : Int × Int} (he : e ∈ edgesC c) {x : Int} (hx : ∀ g, g ∈ sidesH (p c.1) (p c.2.1) (p c.2.2) ↔ g ∈ sidesH (p e.1) (p e.2) (p x)) {r s : Int} (hr : cornerC d r) (hs : cornerC d s)
 (z0 : crossI (p e.1) (p e.2) (p r) = 0) (z1 : 0 < crossI (p e.2) (p x) (p r)) (z2 : 0 < crossI (p x) (p e.1) (p r)) : crossI (p e.1) (p e.2) (p s) ≤ 0 := by
 apply Classical.byContradiction
 intro hp
 have hdc := (h.cell d hd).ccw
 obtain ⟨N, hN, n1, n2⟩ : ∃ N : Int, 0 < N ∧ 0 < N + crossI (p e.2) (p x) (p s) ∧ 0 < N + crossI (p x) (p e.1) (p s) := ⟨max 1 (max (1 - crossI (p e.2) (p x) (p s)) (1 - crossI (p x) (p e.1) (p s))), by omega, by omega, by omega⟩
 have lin : ∀ g : Int × Int × Int, dotH g (N * (p r).1 + (p s).1, N * (p r).2 + (p s).2, N + 1) = N * dotH g ((p r).1, (p r).2, 1) + dotH g ((p s).1, (p s).2, 1) := fun g => by simp only [dotH]; grind
 have hm := near_in hdc (v := (N * (p r).1 + (p s).1, N * (p r).2 + (p s).2, N + 1)) (by show 0 ≤ N + 1; omega) (fun g hg => by
  rw [lin]
  have := Int.mul_nonneg (Int.le_of_lt hN) (corner_in hdc hr g hg)
  have := corner_in hdc hs g hg
  omega) (L := sidesH (p c.1) (p c.2.1) (p c.2.2)) (fun g hg => by
  rw [lin]
  have hg := (hx g).1 hg
  simp only [sidesH, List.mem_cons, List.not_mem_nil, or_false] at hg
  have k1 := Int.mul_le_mul_of_nonneg_left (show (1 : Int) ≤ crossI (p e.2) (p x) (p r) from z1) (Int.le_of_lt hN)
  have k2 := Int.mul_le_mul_of_nonneg_left (show (1 : Int) ≤ crossI (p x) (p e.1) (p r) from z2) (Int.le_of_lt hN)
  rcases hg with rfl | rfl | rfl
  · rw [side_dot, side_dot, z0, Int.mul_zero]; omega
  · rw [side_dot, side_dot]; omega
  · rw [side_dot, side_dot]; omega)
 exact hne (h.meet hc hd hm)
end
end Go.Proofs.Ytollcjadobpfdaa.Rw
namespace Go.Proofs.Ytollcjadobpfdaa.Rw
set_option linter.unusedVariables false
set_option linter.unusedSimpArgs false
theorem mul_pos_right {x y : Int} (h1 : 0 < x) (h2 : 0 < x * y) : 0 < y := by
 rcases Int.lt_or_le 0 y with g | g
 · exact g
 · have := Int.mul_nonneg (Int.le_of_lt h1) (show 0 ≤ -y by omega); rw [Int.mul_neg] at this; omega
section
variable {p : Int → Int × Int} {K n : Int} {c d : Cell3} {cs : List Cell3}
theorem Rising.inj (hr : Rising p K n) {i j : Int} (h1 : 0 ≤ i) (h2 : i < n) (h3 : 0 ≤ j) (h4 : j < n) (h : (p i).1 = (p j).1 ∧ (p i).2 = (p j).2) : i = j := by
 have e : phiK K (p i) = phiK K (p j) := by simp only [phiK]; rw [h.1, h.2]
 rcases Int.lt_trichotomy i j with g | g | g
 · have := hr i j h1 g h4; omega
 · exact g
 · have := hr j i h3 g h2; omega
theorem CellOK.corner (h : CellOK p n c) {i : Int} (hi : cornerC c i) : 0 ≤ i ∧ i < n := by
 have := h.lo; have := h.b; have := h.d; have := h.bn; have := h.dn
 rcases hi with rfl | rfl | rfl <;> omega
theorem on_side (hr : Rising p K n) {a b x r : Int} (ha : 0 ≤ a ∧ a < n) (hb : 0 ≤ b ∧ b < n) (hn : 0 ≤ r ∧ r < n) (hx : 0 < crossI (p a) (p b) (p x)) (z0 : crossI (p a) (p b) (p r) = 0) (z1 : 0 < crossI (p b) (p x) (p r)) (z2 : 0 < crossI (p x) (p a) (p r)) : (a < r ∧ r < b) ∨ (b < r ∧ r < a) := by
 have e1 : crossI (p a) (p b) (p x) * (phiK K (p r) - phiK K (p a)) = crossI (p x) (p a) (p r) * (phiK K (p b) - phiK K (p a)) + crossI (p a) (p b) (p r) * (phiK K (p x) - phiK K (p a)) := by simp only [phiK, crossI]; grind
 have e2 : crossI (p a) (p b) (p x) * (phiK K (p r) - phiK K (p b)) = crossI (p b) (p x) (p r) * (phiK K (p a) - phiK K (p b)) + crossI (p a) (p b) (p r) * (phiK K (p x) - phiK K (p b)) := by simp only [phiK, crossI]; grind
 rw [z0, Int.zero_mul, Int.add_zero] at e1 e2
 have hab : a ≠ b := fun e => by subst e; have : crossI (p a) (p a) (p x) = 0 := by (simp only [crossI]; grind)
                                 omega
 rcases Int.lt_or_gt_of_ne hab with g | g
 · have := hr a b ha.1 g hb.2
   have m1 := Int.mul_pos z2 (show 0 < phiK K (p b) - phiK K (p a) by omega)
   have m2 := Int.mul_pos z1 (show 0 < phiK K (p b) - phiK K (p a) by omega)
   have k1 := mul_pos_right hx (show 0 < crossI (p a) (p b) (p x) * (phiK K (p r) - phiK K (p a)) by omega)
   have e3 : crossI (p a) (p b) (p x) * (phiK K (p b) - phiK K (p r)) = crossI (p b) (p x) (p r) * (phiK K (p b) - phiK K (p a)) := by grind
   have k2 := mul_pos_right hx (show 0 < crossI (p a) (p b) (p x) * (phiK K (p b) - phiK K (p r)) by omega)
   exact .inl ⟨hr.lt hn.1 ha.2 (by omega), hr.lt hb.1 hn.2 (by omega)⟩
 · have := hr b a hb.1 g ha.2
   have m1 := Int.mul_pos z1 (show 0 < phiK K (p a) - phiK K (p b) by omega)
   have m2 := Int.mul_pos z2 (show 0 < phiK K (p a) - phiK K (p b) by omega)
   have k1 := mul_pos_right hx (show 0 < crossI (p a) (p b) (p x) * (phiK K (p r) - phiK K (p b)) by omega)
   have e3 : crossI (p a) (p b) (p x) * (phiK K (p a) - phiK K (p r)) = crossI (p x) (p a) (p r) * (phiK K (p a) - phiK K (p b)) := by grind
   have k2 := mul_pos_right hx (show 0 < crossI (p a) (p b) (p x) * (phiK K (p a) - phiK K (p r)) by omega)
   exact .inr ⟨hr.lt hn.1 hb.2 (by omega), hr.lt ha.1 hn.2 (by omega)⟩
theorem two_sides {a b x r : Int × Int} (hx : 0 < crossI a b x) (h1 : crossI a b r = 0) (h2 : crossI b x r = 0) : r.1 = b.1 ∧ r.2 = b.2 := by
 have e1 : crossI a b x * (r.1 - b.1) = crossI b x r * (a.1 - b.1) + crossI a b r * (x.1 - b.1) := by simp only [crossI]; grind
 have e2 : crossI a b x * (r.2 - b.2) = crossI b x r * (a.2 - b.2) + crossI a b r * (x.2 - b.2) := by simp only [crossI]; grind
 rw [h1, h2] at e1 e2
 simp only [Int.zero_mul, Int.add_zero] at e1 e2
 have z1 := (Int.mul_eq_zero.1 e1).resolve_left (by omega)
 have z2 := (Int.mul_eq_zero.1 e2).resolve_left (by omega)
 omega
theorem MeshV.empty (h : MeshV p K n cs) (hc : c ∈ cs) {r : Int} (h0 : 0 ≤ r) (hn : r < n) (hr : ¬ cornerC c r) (hin : ∀ e ∈ edgesC c, 0 ≤ crossI (p e.1) (p e.2) (p r)) : False := by
 obtain ⟨d, hd, hrd⟩ := h.used r h0 hn
 have hrd : cornerC d r := hrd
 have hne : c ≠ d := fun e => hr (e ▸ hrd)
 have hok := h.cell c hc
 by_cases hz : ∃ e ∈ edgesC c, crossI (p e.1) (p e.2) (p r) = 0
 · obtain ⟨e, he, z0⟩ := hz
   obtain ⟨x, x1, x2, x3, x4⟩ := edge_rot (p := p) he hok.ccw
   have ca := hok.corner ((x2 e.1).2 (.inl rfl))
   have cb := hok.corner ((x2 e.2).2 (.inr (.inl rfl)))
   have cx := hok.corner ((x2 x).2 (.inr (.inr rfl)))
   have z1 : 0 < crossI (p e.2) (p x) (p r) := by
    have g := hin (e.2, x) ((x1 _).2 (.inr (.inl rfl)))
    rcases Int.lt_or_eq_of_le g with g | g
    · exact g
    · have e1 := two_sides x3 z0 g.symm
      exact absurd ((x2 r).2 (.inr (.inl (h.rise.inj h0 hn cb.1 cb.2 e1)))) hr
   have z2 : 0 < crossI (p x) (p e.1) (p r) := by
    have g := hin (x, e.1) ((x1 _).2 (.inr (.inr rfl)))
    rcases Int.lt_or_eq_of_le g with g | g
    · exact g
    · have e1 := two_sides (a := p x) (b := p e.1) (x := p e.2) (by rw [← crossI_rot (p x) (p e.1) (p e.2)]; exact x3) g.symm z0
      exact absurd ((x2 r).2 (.inl (h.rise.inj h0 hn ca.1 ca.2 e1))) hr
   have hbt := on_side h.rise ca cb ⟨h0, hn⟩ x3 z0 z1 z2
   have hseen : e ∈ edgesL cs := List.mem_flatMap.2 ⟨c, hc, he⟩
   have hrev : (e.2, e.1) ∈ edgesL cs := Classical.byContradiction fun z => by
    have ho := (h.rim e hseen).2 z
    have := ho.none r h0 hn z0
    omega
   obtain ⟨c', hc', he'⟩ := List.mem_flatMap.1 hrev
   have hok' := h.cell c' hc'
   obtain ⟨y, y1, y2, y3, y4⟩ := edge_rot (p := p) he' hok'.ccw
   simp only at y1 y2 y3 y4
   have z0' : crossI (p e.2) (p e.1) (p r) = 0 := by rw [crossI_swap]; omega
   have hne' : c' ≠ d := fun e1 => by
    rcases (y2 r).1 (e1 ▸ hrd) with g | g | g
    · omega
    · omega
    · rw [g] at z0'; omega
   have b1 : crossI (p e.1) (p e.2) (p x) * crossI (p e.1) (p y) (p r) = crossI (p x) (p e.1) (p r) * crossI (p e.1) (p y) (p e.2) + crossI (p e.1) (p e.2) (p r) * crossI (p e.1) (p y) (p x) := by simp only [crossI]; grind
   have b2 : crossI (p e.1) (p e.2) (p x) * crossI (p y) (p e.2) (p r) = crossI (p e.2) (p x) (p r) * crossI (p y) (p e.2) (p e.1) + crossI (p e.1) (p e.2) (p r) * crossI (p y) (p e.2) (p x) := by simp only [crossI]; grind
   rw [z0, Int.zero_mul, Int.add_zero] at b1 b2
   have y5 : crossI (p e.1) (p y) (p e.2) = crossI (p e.2) (p e.1) (p y) := by simp only [crossI]; grind
   have y6 : crossI (p y) (p e.2) (p e.1) = crossI (p e.2) (p e.1) (p y) := by simp only [crossI]; grind
   have z1' := mul_pos_right x3 (show 0 < crossI (p e.1) (p e.2) (p x) * crossI (p e.1) (p y) (p r) by rw [b1, y5]; exact Int.mul_pos z2 y3)
   have z2' := mul_pos_right x3 (show 0 < crossI (p e.1) (p e.2) (p x) * crossI (p y) (p e.2) (p r) by rw [b2, y6]; exact Int.mul_pos z1 y3)
   have on : ∀ s, cornerC d s → crossI (p e.1) (p e.2) (p s) = 0 := fun s hs => by
    have k1 := h.beside hc hd hne he x4 hrd hs z0 z1 z2
    have k2 := h.beside hc' hd hne' he' y4 hrd hs z0' z1' z2'
    have k3 := crossI_swap (p e.1) (p e.2) (p s)
    simp only at k2
    omega
   have hab : ¬ ((p e.1).1 = (p e.2).1 ∧ (p e.1).2 = (p e.2).2) := fun z => by
    have := h.rise.inj ca.1 ca.2 cb.1 cb.2 z
    omega
   have := three_line hab (on d.1 (.inl rfl)) (on d.2.1 (.inr (.inl rfl))) (on d.2.2 (.inr (.inr rfl)))
   have := (h.cell d hd).ccw
   omega
 · have hdc := (h.cell d hd).ccw
   refine hne (h.meet hc hd (near_in hdc (v := ((p r).1, (p r).2, 1)) (by show (0 : Int) ≤ 1; decide) (corner_in hdc hrd) fun g hg => ?_))
   have key : ∀ e ∈ edgesC c, 0 < crossI (p e.1) (p e.2) (p r) := fun e he => by
    have := hin e he
    have : crossI (p e.1) (p e.2) (p r) ≠ 0 := fun z => hz ⟨e, he, z⟩
    omega
   simp only [sidesH, List.mem_cons, List.not_mem_nil, or_false] at hg
   rcases hg with rfl | rfl | rfl <;> rw [side_dot]
   · exact key (c.1, c.2.1) (by simp [edgesC])
   · exact key (c.2.1, c.2.2) (by simp [edgesC])
   · exact key (c.2.2, c.1) (by simp [edgesC])
end
end Go.Proofs.Ytollcjadobpfdaa.Rw
namespace Go.Proofs.Ytollcjadobpfdaa.Rw
set_option linter.unusedVariables false
set_option linter.unusedSimpArgs false
section
variable {p : Int → Int × Int} {K n : Int} {c d : Cell3} {v : Int × Int × Int} {cs : List Cell3}
open Classical in
theorem count_AB (hV : (edgesL cs).Nodup) (hc : ∀ c ∈ cs, CellOK p n c) (hr : Rising p K n) (hw : 0 < v.2.2) (hg : ∀ j, 0 ≤ j → j < n → phiH K v ≠ phiK K (p j) * v.2.2)
 (hu : ∀ e : Int × Int, e ∈ edgesL cs → thru p K v e → leftE p v e → (e.2, e.1) ∈ edgesL cs) (h1 : c ∈ cs) (hA : ∃ u ∈ edgesC c, thru p K v u ∧ leftE p v u) : ∃ w : Int × Int, (w.2, w.1) ∈ edgesC c ∧ thru p K v w ∧ leftE p v w := by
 apply Classical.byContradiction
 intro hne
 let A := cs.filter fun c => decide (∃ u ∈ edgesC c, thru p K v u ∧ leftE p v u)
 let B := cs.filter fun c => decide (∃ w : Int × Int, (w.2, w.1) ∈ edgesC c ∧ thru p K v w ∧ leftE p v w)
 have mA : ∀ {x}, x ∈ A ↔ x ∈ cs ∧ ∃ u ∈ edgesC x, thru p K v u ∧ leftE p v u := fun {x} => by simp [A]
 have mB : ∀ {x}, x ∈ B ↔ x ∈ cs ∧ ∃ w : Int × Int, (w.2, w.1) ∈ edgesC x ∧ thru p K v w ∧ leftE p v w := fun {x} => by simp [B]
 have nA : A.Nodup := (cells_nodup hV).filter _
 have nB : B.Nodup := (cells_nodup hV).filter _
 have hBA : ∀ x ∈ B, x ∈ A := fun x hx => by
  obtain ⟨hx, w, b1, b2, b3⟩ := mB.1 hx
  obtain ⟨u, w', a1, a2, a3, a4, a5, a6, a7⟩ := cell_level hr (hc x hx) hw hg b2 (.inr b1)
  have := a6 w b1 b2
  subst this
  exact mA.2 ⟨hx, u, a1, a3, a7 (Int.le_of_lt b3)⟩
 have len1 : B.length + 1 ≤ A.length := by
  have hn : (c :: B).Nodup := List.nodup_cons.2 ⟨fun h => hne (mB.1 h).2, nB⟩
  have := nodup_sub hn (D := A) fun x hx => by
   rcases List.mem_cons.1 hx with rfl | hx
   · exact mA.2 ⟨h1, hA⟩
   · exact hBA x hx
  simpa using this
 let U := (edgesL cs).filter fun e => decide (thru p K v e ∧ leftE p v e)
 let D := ((edgesL cs).map fun e => (e.2, e.1)).filter fun e => decide (thru p K v e ∧ leftE p v e)
 have mU : ∀ {x}, x ∈ U ↔ x ∈ edgesL cs ∧ thru p K v x ∧ leftE p v x := fun {x} => by simp [U]
 have mD : ∀ {x}, x ∈ D ↔ (x.2, x.1) ∈ edgesL cs ∧ thru p K v x ∧ leftE p v x := fun {x} => by
  obtain ⟨a, b⟩ := x
  simp only [D, List.mem_filter, List.mem_map, decide_eq_true_eq]
  constructor
  · rintro ⟨⟨⟨e1, e2⟩, he, hh⟩, h⟩
    cases hh
    exact ⟨he, h⟩
  · rintro ⟨he, h⟩
    exact ⟨⟨_, he, rfl⟩, h⟩
 have nU : U.Nodup := hV.filter _
 have nD : D.Nodup := by
  refine List.Pairwise.filter _ ?_
  refine List.pairwise_map.2 (List.Pairwise.imp (fun h g => h ?_) hV)
  simp only [Prod.mk.injEq] at g
  exact Prod.ext g.2 g.1
 have len2 : U.length ≤ D.length := nodup_sub nU fun x hxU => mD.2 ⟨hu x (mU.1 hxU).1 (mU.1 hxU).2.1 (mU.1 hxU).2.2, (mU.1 hxU).2⟩
 have len3 : A.length ≤ U.length := by
  let up : Cell3 → Int × Int := fun c => Classical.epsilon fun u => u ∈ edgesC c ∧ thru p K v u ∧ leftE p v u
  have hup : ∀ x ∈ A, up x ∈ edgesC x ∧ thru p K v (up x) ∧ leftE p v (up x) := fun x hx => by
   obtain ⟨_, u, b1, b2⟩ := mA.1 hx
   exact Classical.epsilon_spec (p := fun u => u ∈ edgesC x ∧ thru p K v u ∧ leftE p v u) ⟨u, b1, b2⟩
  have hn : (A.map up).Nodup := List.pairwise_map.2 (List.Pairwise.imp_of_mem (fun {a b} ha hb hab e => hab (apart_eq hV (mA.1 ha).1 (mA.1 hb).1 (hup a ha).1 (e ▸ (hup b hb).1))) nA)
  have := nodup_sub hn (D := U) fun x hx => by
   obtain ⟨y, hy, rfl⟩ := List.mem_map.1 hx
   exact mU.2 ⟨List.mem_flatMap.2 ⟨y, (mA.1 hy).1, (hup y hy).1⟩, (hup y hy).2⟩
  simpa using this
 have len4 : D.length ≤ B.length := by
  let dn : Cell3 → Int × Int := fun c => Classical.epsilon fun w => (w.2, w.1) ∈ edgesC c ∧ thru p K v w
  have := nodup_sub nD (D := B.map dn) fun w hwD => by
   obtain ⟨h, b2, b3⟩ := mD.1 hwD
   obtain ⟨x, hx, b1⟩ := List.mem_flatMap.1 h
   refine List.mem_map.2 ⟨x, mB.2 ⟨hx, w, b1, b2, b3⟩, ?_⟩
   obtain ⟨u, w', a1, a2, a3, a4, a5, a6, a7⟩ := cell_level hr (hc x hx) hw hg b2 (.inr b1)
   have hs := Classical.epsilon_spec (p := fun w : Int × Int => (w.2, w.1) ∈ edgesC x ∧ thru p K v w) ⟨w, b1, b2⟩
   exact (a6 _ hs.1 hs.2).trans (a6 w b1 b2).symm
  simpa using this
 omega
theorem point_at (hw : 0 < v.2.2) {w : Int × Int} (ht : thru p K v w) : ∃ z : Int × Int × Int, 0 < z.2.2 ∧ dotH (sideH (p w.1) (p w.2)) z = 0 ∧ (∀ x : Int, (x * z.2.2 < phiH K z ↔ x * v.2.2 < phiH K v) ∧ (phiH K z < x * z.2.2 ↔ phiH K v < x * v.2.2)) := by
 obtain ⟨t1, t2, t3⟩ := ht
 have hd : 0 < phiK K (p w.2) - phiK K (p w.1) := by
  have : phiK K (p w.1) * v.2.2 < phiK K (p w.2) * v.2.2 := by omega
  have := Int.lt_of_mul_lt_mul_right this (Int.le_of_lt hw)
  omega
 have e : phiH K ((phiK K (p w.2) * v.2.2 - phiH K v) * (p w.1).1 + (phiH K v - phiK K (p w.1) * v.2.2) * (p w.2).1, (phiK K (p w.2) * v.2.2 - phiH K v) * (p w.1).2 + (phiH K v - phiK K (p w.1) * v.2.2) * (p w.2).2, (phiK K (p w.2) - phiK K (p w.1)) * v.2.2) = (phiK K (p w.2) - phiK K (p w.1)) * phiH K v := by
  simp only [phiH, phiK]; grind
 refine ⟨((phiK K (p w.2) * v.2.2 - phiH K v) * (p w.1).1 + (phiH K v - phiK K (p w.1) * v.2.2) * (p w.2).1, (phiK K (p w.2) * v.2.2 - phiH K v) * (p w.1).2 + (phiH K v - phiK K (p w.1) * v.2.2) * (p w.2).2, (phiK K (p w.2) - phiK K (p w.1)) * v.2.2), Int.mul_pos hd hw, ?_, fun x => ?_⟩
 · simp only [dotH, sideH, phiH, phiK]; grind
 · rw [e]
   simp only
   have e2 : x * ((phiK K (p w.2) - phiK K (p w.1)) * v.2.2) = (phiK K (p w.2) - phiK K (p w.1)) * (x * v.2.2) := by grind
   rw [e2]
   exact ⟨⟨fun h => Int.lt_of_mul_lt_mul_left h (Int.le_of_lt hd), fun h => Int.mul_lt_mul_of_pos_left h hd⟩, ⟨fun h => Int.lt_of_mul_lt_mul_left h (Int.le_of_lt hd), fun h => Int.mul_lt_mul_of_pos_left h hd⟩⟩
theorem rim_right (hV : (edgesL cs).Nodup) (hc : ∀ c ∈ cs, CellOK p n c) (hr : Rising p K n) (hw : 0 < v.2.2) (hg : ∀ j, 0 ≤ j → j < n → phiH K v ≠ phiK K (p j) * v.2.2)
 (h1 : c ∈ cs) {e : Int × Int} (he : thru p K v e) (hm : e ∈ edgesC c ∨ (e.2, e.1) ∈ edgesC c) : ∃ e ∈ edgesL cs, (e.2, e.1) ∉ edgesL cs ∧ thru p K v e := by
 obtain ⟨u, w, a1, a2, a3, a4, a5, a6, a7⟩ := cell_level hr (hc c h1) hw hg he hm
 obtain ⟨z, z1, z2, z3⟩ := point_at hw a4
 have tr : ∀ x, thru p K z x ↔ thru p K v x := fun x => by
  unfold thru
  rw [(z3 _).1, (z3 _).2]
 have hgz : ∀ j, 0 ≤ j → j < n → phiH K z ≠ phiK K (p j) * z.2.2 := fun j j1 j2 hh => by
  have := hg j j1 j2
  have k1 := (z3 (phiK K (p j))).1
  have k2 := (z3 (phiK K (p j))).2
  omega
 obtain ⟨u', w', b1, b2, b3, b4, b5, b6, b7⟩ := cell_level hr (hc c h1) z1 hgz ((tr w).2 a4) (.inr a2)
 have hw' := b6 w a2 ((tr w).2 a4)
 subst hw'
 have hl := b7 (by rw [z2]; exact Int.le_refl _)
 apply Classical.byContradiction
 intro hn
 obtain ⟨w2, d1, d2, d3⟩ := count_AB hV hc hr z1 hgz (fun x x1 x2 _ => Classical.byContradiction fun g => hn ⟨x, x1, g, (tr x).1 x2⟩) h1 ⟨u', b1, b3, hl⟩
 have := b6 w2 d1 d2
 subst this
 have d3 : 0 < dotH (sideH (p w2.1) (p w2.2)) z := d3
 omega
end
end Go.Proofs.Ytollcjadobpfdaa.Rw
namespace Go.Proofs.Ytollcjadobpfdaa.Rw
set_option linter.unusedVariables false
set_option linter.unusedSimpArgs false
section
variable {p : Int → Int × Int} {K n : Int} {c d : Cell3} {v : Int × Int × Int} {cs : List Cell3}
open Classical in
theorem rim_left (hV : (edgesL cs).Nodup) (hc : ∀ c ∈ cs, CellOK p n c) (hr : Rising p K n) (hw : 0 < v.2.2) (hg : ∀ j, 0 ≤ j → j < n → phiH K v ≠ phiK K (p j) * v.2.2)
 (h1 : c ∈ cs) {e : Int × Int} (he : thru p K v e) (hm : e ∈ edgesC c ∨ (e.2, e.1) ∈ edgesC c) : ∃ w : Int × Int, (w.2, w.1) ∈ edgesL cs ∧ w ∉ edgesL cs ∧ thru p K v w := by
 obtain ⟨e0, k1, k2, k3⟩ := rim_right hV hc hr hw hg h1 he hm
 apply Classical.byContradiction
 intro hn
 let S := cs.filter fun c => decide (∃ u ∈ edgesC c, thru p K v u)
 have mS : ∀ {x}, x ∈ S ↔ x ∈ cs ∧ ∃ u ∈ edgesC x, thru p K v u := fun {x} => by simp [S]
 have nS : S.Nodup := (cells_nodup hV).filter _
 let U := (edgesL cs).filter fun e => decide (thru p K v e)
 let D := ((edgesL cs).map fun e => (e.2, e.1)).filter fun e => decide (thru p K v e)
 have mU : ∀ {x}, x ∈ U ↔ x ∈ edgesL cs ∧ thru p K v x := fun {x} => by simp [U]
 have mD : ∀ {x}, x ∈ D ↔ (x.2, x.1) ∈ edgesL cs ∧ thru p K v x := fun {x} => by
  obtain ⟨a, b⟩ := x
  simp only [D, List.mem_filter, List.mem_map, decide_eq_true_eq]
  constructor
  · rintro ⟨⟨⟨e1, e2⟩, he, hh⟩, h⟩
    cases hh
    exact ⟨he, h⟩
  · rintro ⟨he, h⟩
    exact ⟨⟨_, he, rfl⟩, h⟩
 have nU : U.Nodup := hV.filter _
 have nD : D.Nodup := by
  refine List.Pairwise.filter _ ?_
  refine List.pairwise_map.2 (List.Pairwise.imp (fun h g => h ?_) hV)
  simp only [Prod.mk.injEq] at g
  exact Prod.ext g.2 g.1
 have len1 : U.length ≤ S.length := by
  let up : Cell3 → Int × Int := fun c => Classical.epsilon fun u => u ∈ edgesC c ∧ thru p K v u
  have := nodup_sub nU (D := S.map up) fun u hu => by
   obtain ⟨h, b2⟩ := mU.1 hu
   obtain ⟨x, hx, b1⟩ := List.mem_flatMap.1 h
   refine List.mem_map.2 ⟨x, mS.2 ⟨hx, u, b1, b2⟩, ?_⟩
   obtain ⟨u', w', a1, a2, a3, a4, a5, a6, a7⟩ := cell_level hr (hc x hx) hw hg b2 (.inl b1)
   have hs := Classical.epsilon_spec (p := fun u : Int × Int => u ∈ edgesC x ∧ thru p K v u) ⟨u, b1, b2⟩
   exact (a5 _ hs.1 hs.2).trans (a5 u b1 b2).symm
  simpa using this
 have len2 : S.length ≤ D.length := by
  let dn : Cell3 → Int × Int := fun c => Classical.epsilon fun w => (w.2, w.1) ∈ edgesC c ∧ thru p K v w
  have hdn : ∀ x ∈ S, ((dn x).2, (dn x).1) ∈ edgesC x ∧ thru p K v (dn x) := fun x hx => by
   obtain ⟨hx, u, b1, b2⟩ := mS.1 hx
   obtain ⟨u', w', a1, a2, a3, a4, a5, a6, a7⟩ := cell_level hr (hc x hx) hw hg b2 (.inl b1)
   exact Classical.epsilon_spec (p := fun w : Int × Int => (w.2, w.1) ∈ edgesC x ∧ thru p K v w) ⟨w', a2, a4⟩
  have hn : (S.map dn).Nodup := List.pairwise_map.2 (List.Pairwise.imp_of_mem (fun {a b} ha hb hab e => hab (apart_eq hV (mS.1 ha).1 (mS.1 hb).1 (hdn a ha).1 (e ▸ (hdn b hb).1))) nS)
  have := nodup_sub hn (D := D) fun x hx => by
   obtain ⟨y, hy, rfl⟩ := List.mem_map.1 hx
   exact mD.2 ⟨List.mem_flatMap.2 ⟨y, (mS.1 hy).1, (hdn y hy).1⟩, (hdn y hy).2⟩
  simpa using this
 have len3 : D.length + 1 ≤ U.length := by
  have hn2 : (e0 :: D).Nodup := List.nodup_cons.2 ⟨fun h => k2 (mD.1 h).1, nD⟩
  have := nodup_sub hn2 (D := U) fun x hx => by
   rcases List.mem_cons.1 hx with rfl | hx
   · exact mU.2 ⟨k1, k3⟩
   · exact mU.2 ⟨Classical.byContradiction fun g => hn ⟨x, (mD.1 hx).1, g, (mD.1 hx).2⟩, (mD.1 hx).2⟩
  simpa using this
 omega
theorem outer_two (hr : Rising p K n) (hw : 0 < v.2.2) {e e' : Int × Int} (h1 : OuterE p n (e.2, e.1)) (h2 : thru p K v e) (h3 : OuterE p n (e'.2, e'.1)) (h4 : thru p K v e') : e = e' := by
 obtain ⟨a, b⟩ := e
 obtain ⟨c, d⟩ := e'
 simp only at h1 h3
 have cancel : ∀ {x y : Int}, x * v.2.2 < phiH K v → phiH K v < y * v.2.2 → x < y := fun {x y} g1 g2 => Int.lt_of_mul_lt_mul_right (show x * v.2.2 < y * v.2.2 by omega) (Int.le_of_lt hw)
 have sw := fun x y z => crossI_swap (p x) (p y) (p z)
 have g1 := h3.left a h1.l2 h1.u2
 have g2 := h3.left b h1.l1 h1.u1
 have g3 := h1.left c h3.l2 h3.u2
 have g4 := h1.left d h3.l1 h3.u1
 simp only at g1 g2 g3 g4
 have q1 := sw c d a; have q2 := sw c d b; have q3 := sw a b c; have q4 := sw a b d
 have e := level_swap K (p a) (p b) (p c) (p d) (phiH K v) v.2.2
 have k1 := Int.mul_nonneg (show 0 ≤ phiK K (p b) * v.2.2 - phiH K v from by have := h2.2.2; simp only at this; omega) (show 0 ≤ - crossI (p c) (p d) (p a) by omega)
 have k2 := Int.mul_nonneg (show 0 ≤ phiH K v - phiK K (p a) * v.2.2 from by have := h2.2.1; simp only at this; omega) (show 0 ≤ - crossI (p c) (p d) (p b) by omega)
 have k3 := Int.mul_nonneg (show 0 ≤ phiK K (p d) * v.2.2 - phiH K v from by have := h4.2.2; simp only at this; omega) (show 0 ≤ - crossI (p a) (p b) (p c) by omega)
 have k4 := Int.mul_nonneg (show 0 ≤ phiH K v - phiK K (p c) * v.2.2 from by have := h4.2.1; simp only at this; omega) (show 0 ≤ - crossI (p a) (p b) (p d) by omega)
 rw [Int.mul_neg] at k1 k2 k3 k4
 have z : ∀ {x y : Int}, 0 < x → x * y = 0 → y = 0 := fun h k => (Int.mul_eq_zero.1 k).resolve_left (by omega)
 have z1 := z (show 0 < phiK K (p b) * v.2.2 - phiH K v from by have := h2.2.2; simp only at this; omega) (show (phiK K (p b) * v.2.2 - phiH K v) * crossI (p c) (p d) (p a) = 0 by omega)
 have z2 := z (show 0 < phiH K v - phiK K (p a) * v.2.2 from by have := h2.2.1; simp only at this; omega) (show (phiH K v - phiK K (p a) * v.2.2) * crossI (p c) (p d) (p b) = 0 by omega)
 have z3 := z (show 0 < phiK K (p d) * v.2.2 - phiH K v from by have := h4.2.2; simp only at this; omega) (show (phiK K (p d) * v.2.2 - phiH K v) * crossI (p a) (p b) (p c) = 0 by omega)
 have z4 := z (show 0 < phiH K v - phiK K (p c) * v.2.2 from by have := h4.2.1; simp only at this; omega) (show (phiH K v - phiK K (p c) * v.2.2) * crossI (p a) (p b) (p d) = 0 by omega)
 have n1 := (h3.none a h1.l2 h1.u2 (by simp only; omega)).2
 have n2 := (h3.none b h1.l1 h1.u1 (by simp only; omega)).2
 have n3 := (h1.none c h3.l2 h3.u2 (by simp only; omega)).2
 have n4 := (h1.none d h3.l1 h3.u1 (by simp only; omega)).2
 have x1 := hr.lt (i := a) (j := d) h3.l1 h1.u2 (cancel h2.2.1 h4.2.2)
 have x2 := hr.lt (i := c) (j := b) h1.l1 h3.u2 (cancel h4.2.1 h2.2.2)
 have x3 := h2.1
 have x4 := h4.1
 simp only [Prod.mk.injEq] at *
 omega
end
end Go.Proofs.Ytollcjadobpfdaa.Rw
namespace Go.Proofs.Ytollcjadobpfdaa.Rw
set_option linter.unusedVariables false
set_option linter.unusedSimpArgs false
section
variable {p : Int → Int × Int} {K n : Int} {c d : Cell3} {cs : List Cell3}
def midV (p : Int → Int × Int) (K i : Int) : Int × Int × Int := (0, phiK K (p i) + phiK K (p (i + 1)), 2)
theorem midV_phi (i : Int) : phiH K (midV p K i) = phiK K (p i) + phiK K (p (i + 1)) := by simp only [phiH, midV]; omega
theorem midV_lt (hr : Rising p K n) {i j : Int} (h0 : 0 ≤ i) (h1 : i + 1 < n) (j0 : 0 ≤ j) (j1 : j < n) : (j ≤ i → phiK K (p j) * (midV p K i).2.2 < phiH K (midV p K i)) ∧ (i < j → phiH K (midV p K i) < phiK K (p j) * (midV p K i).2.2) := by
 have r := hr i (i + 1) h0 (by omega) h1
 rw [midV_phi]
 simp only [midV]
 constructor
 · intro h
   have : phiK K (p j) ≤ phiK K (p i) := by
    rcases Int.lt_or_eq_of_le h with g | g
    · exact Int.le_of_lt (hr j i j0 g (by omega))
    · rw [g]; exact Int.le_refl _
   omega
 · intro h
   have : phiK K (p (i + 1)) ≤ phiK K (p j) := by
    rcases Int.lt_or_eq_of_le (show i + 1 ≤ j by omega) with g | g
    · exact Int.le_of_lt (hr (i + 1) j (by omega) g j1)
    · rw [g]; exact Int.le_refl _
   omega
theorem midV_ne (hr : Rising p K n) {i : Int} (h0 : 0 ≤ i) (h1 : i + 1 < n) : ∀ j, 0 ≤ j → j < n → phiH K (midV p K i) ≠ phiK K (p j) * (midV p K i).2.2 := fun j j0 j1 h => by
 have := midV_lt hr h0 h1 j0 j1
 rcases Int.lt_or_le i j with g | g
 · have := this.2 g; omega
 · have := this.1 g; omega
theorem midV_thru (hr : Rising p K n) {i a b : Int} (h0 : 0 ≤ i) (h1 : i + 1 < n) (a0 : 0 ≤ a) (a1 : a < n) (b0 : 0 ≤ b) (b1 : b < n) : thru p K (midV p K i) (a, b) ↔ a ≤ i ∧ i < b := by
 have ha := midV_lt hr h0 h1 a0 a1
 have hb := midV_lt hr h0 h1 b0 b1
 constructor
 · rintro ⟨t1, t2, t3⟩
   simp only at t1 t2 t3
   constructor
   · rcases Int.lt_or_le i a with g | g
     · have := ha.2 g; omega
     · exact g
   · rcases Int.lt_or_le i b with g | g
     · exact g
     · have := hb.1 g; omega
 · rintro ⟨g1, g2⟩
   exact ⟨by show a < b; omega, ha.1 g1, hb.2 g2⟩
theorem cell_edge (hr : Rising p K n) (hc : CellOK p n c) {i : Int} (h0 : 0 ≤ i) (h1 : i + 1 < n) {a b : Int} (ha : cornerC c a) (hb : cornerC c b) (g1 : a ≤ i) (g2 : i < b) : ∃ e, thru p K (midV p K i) e ∧ (e ∈ edgesC c ∨ (e.2, e.1) ∈ edgesC c) := by
 have ra := hc.corner ha
 have rb := hc.corner hb
 refine ⟨(a, b), (midV_thru hr h0 h1 ra.1 ra.2 rb.1 rb.2).2 ⟨g1, g2⟩, ?_⟩
 have hne : a ≠ b := by omega
 simp only [edgesC, List.mem_cons, List.not_mem_nil, or_false, Prod.mk.injEq]
 rcases ha with rfl | rfl | rfl <;> rcases hb with rfl | rfl | rfl <;> first | exact absurd rfl hne | simp
theorem edge_corner {e : Int × Int} (he : e ∈ edgesC c) : cornerC c e.1 ∧ cornerC c e.2 := by
 simp only [edgesC, List.mem_cons, List.not_mem_nil, or_false] at he
 unfold cornerC
 rcases he with rfl | rfl | rfl <;> simp
theorem MeshV.level (h : MeshV p K n cs) {i : Int} (h0 : 0 ≤ i) (h1 : i + 1 < n) : ∃ c ∈ cs, ∃ a b, cornerC c a ∧ cornerC c b ∧ a ≤ i ∧ i < b := by
 apply Classical.byContradiction
 intro hn
 have no : ∀ c ∈ cs, ∀ a b, cornerC c a → cornerC c b → a ≤ i → b ≤ i := fun c hc a b ha hb g => by
  rcases Int.lt_or_le i b with q | q
  · exact absurd ⟨c, hc, a, b, ha, hb, g, q⟩ hn
  · exact q
 obtain ⟨c, hc, hu⟩ := h.used (i + 1) (by omega) h1
 have hu : cornerC c (i + 1) := hu
 have hok := h.cell c hc
 have hmin : c.1 = i + 1 := by
  have k1 : i < c.1 := by
   rcases Int.lt_or_le i c.1 with q | q
   · exact q
   · have := no c hc c.1 (i + 1) (.inl rfl) hu q; omega
  have := hok.b; have := hok.d
  rcases hu with g | g | g <;> omega
 have hb := hok.b; have hbn := hok.bn
 have l0 : 0 ≤ i + 1 := by omega
 have l1 : i + 1 + 1 < n := by omega
 obtain ⟨e, e1, e2⟩ := cell_edge h.rise hok l0 l1 (.inl rfl) (.inr (.inl rfl)) (show c.1 ≤ i + 1 by omega) (show i + 1 < c.2.1 by omega)
 have hw : 0 < (midV p K (i + 1)).2.2 := by simp [midV]
 obtain ⟨⟨a, b⟩, r1, r2, r3⟩ := rim_right h.nod h.cell h.rise hw (midV_ne h.rise l0 l1) hc e1 e2
 obtain ⟨⟨a', b'⟩, s1, s2, s3⟩ := rim_left h.nod h.cell h.rise hw (midV_ne h.rise l0 l1) hc e1 e2
 have o1 := (h.rim _ r1).2 r2
 have o2 := (h.rim _ s1).2 s2
 simp only at o2
 have t1 := (midV_thru h.rise l0 l1 o1.l1 o1.u1 o1.l2 o1.u2).1 r3
 have t2 := (midV_thru h.rise l0 l1 o2.l2 o2.u2 o2.l1 o2.u1).1 s3
 have ea : a = i + 1 := by
  obtain ⟨x, hx, hxe⟩ := List.mem_flatMap.1 r1
  have q := edge_corner hxe
  rcases Int.lt_or_le i a with g | g
  · omega
  · have := no x hx a b q.1 q.2 g; omega
 have ea' : a' = i + 1 := by
  obtain ⟨x, hx, hxe⟩ := List.mem_flatMap.1 s1
  have q := edge_corner hxe
  rcases Int.lt_or_le i a' with g | g
  · omega
  · have := no x hx a' b' q.2 q.1 g; omega
 subst ea
 subst ea'
 have sw := fun x y z => crossI_swap (p x) (p y) (p z)
 have f1 := h.rise (i + 1) b (by omega) (by omega) o1.u2
 have f2 := h.rise (i + 1) b' (by omega) (by omega) o2.u1
 have f3 := h.rise 0 (i + 1) (Int.le_refl _) (by omega) h1
 have id3 : ∀ m : Int, (phiK K (p m) - phiK K (p (i + 1))) * crossI (p (i + 1)) (p b) (p b') + (phiK K (p b) - phiK K (p (i + 1))) * crossI (p (i + 1)) (p b') (p m) - (phiK K (p b') - phiK K (p (i + 1))) * crossI (p (i + 1)) (p b) (p m) = 0 := fun m => by
  simp only [phiK, crossI]; grind
 have L1 := fun m m0 m1 => o1.left m m0 m1
 have L2 : ∀ m, 0 ≤ m → m < n → crossI (p (i + 1)) (p b') (p m) ≤ 0 := fun m m0 m1 => by
  have := o2.left m m0 m1
  have q := sw (i + 1) b' m
  simp only at this
  omega
 simp only at L1
 have z0 : crossI (p (i + 1)) (p b) (p b') = 0 := by
  have q := id3 0
  have q1 := Int.mul_nonneg (show 0 ≤ phiK K (p (i + 1)) - phiK K (p 0) by omega) (L1 b' o2.l1 o2.u1)
  have q2 := Int.mul_nonneg (show 0 ≤ phiK K (p b) - phiK K (p (i + 1)) by omega) (show 0 ≤ - crossI (p (i + 1)) (p b') (p 0) by have := L2 0 (Int.le_refl _) (by omega); omega)
  have q3 := Int.mul_nonneg (show 0 ≤ phiK K (p b') - phiK K (p (i + 1)) by omega) (L1 0 (Int.le_refl _) (by omega))
  rw [Int.mul_neg] at q2
  have e : (phiK K (p (i + 1)) - phiK K (p 0)) * crossI (p (i + 1)) (p b) (p b') = - ((phiK K (p 0) - phiK K (p (i + 1))) * crossI (p (i + 1)) (p b) (p b')) := by grind
  exact (Int.mul_eq_zero.1 (show (phiK K (p (i + 1)) - phiK K (p 0)) * crossI (p (i + 1)) (p b) (p b') = 0 by omega)).resolve_left (by omega)
 have flat : ∀ m, 0 ≤ m → m < n → crossI (p (i + 1)) (p b) (p m) = 0 := fun m m0 m1 => by
  have q := id3 m
  rw [z0, Int.mul_zero] at q
  have q1 := Int.mul_nonneg (show 0 ≤ phiK K (p b) - phiK K (p (i + 1)) by omega) (show 0 ≤ - crossI (p (i + 1)) (p b') (p m) by have := L2 m m0 m1; omega)
  have q2 := Int.mul_nonneg (show 0 ≤ phiK K (p b') - phiK K (p (i + 1)) by omega) (L1 m m0 m1)
  rw [Int.mul_neg] at q1
  exact (Int.mul_eq_zero.1 (show (phiK K (p b') - phiK K (p (i + 1))) * crossI (p (i + 1)) (p b) (p m) = 0 by omega)).resolve_left (by omega)
 have hne : ¬ ((p (i + 1)).1 = (p b).1 ∧ (p (i + 1)).2 = (p b).2) := fun z => by
  have := h.rise.inj (by omega) h1 o1.l2 o1.u2 z
  omega
 have c1 := hok.corner (.inl rfl); have c2 := hok.corner (.inr (.inl rfl)); have c3 := hok.corner (.inr (.inr rfl))
 have := three_line hne (flat _ c1.1 c1.2) (flat _ c2.1 c2.2) (flat _ c3.1 c3.2)
 have := hok.ccw
 omega
theorem MeshV.outer_seen (h : MeshV p K n cs) {e : Int × Int} (ho : OuterE p n e) (hne : e.1 ≠ e.2) : e ∈ edgesL cs := by
 obtain ⟨a, b⟩ := e
 rcases Int.lt_or_gt_of_ne hne with g | g
 · have g : a < b := g
   have h0 := ho.l1; have hb := ho.u2
   simp only at h0 hb
   obtain ⟨c, hc, x, y, k1, k2, k3, k4⟩ := h.level h0 (show a + 1 < n by omega)
   obtain ⟨e, e1, e2⟩ := cell_edge h.rise (h.cell c hc) h0 (by omega) k1 k2 k3 k4
   have hw : 0 < (midV p K a).2.2 := by simp [midV]
   obtain ⟨e', r1, r2, r3⟩ := rim_right h.nod h.cell h.rise hw (midV_ne h.rise h0 (by omega)) hc e1 e2
   have ht := (midV_thru h.rise h0 (by omega) ho.l1 ho.u1 ho.l2 ho.u2).2 ⟨Int.le_refl a, g⟩
   rw [outer_one h.rise hw ho ht ((h.rim _ r1).2 r2) r3]
   exact r1
 · have g : b < a := g
   have h0 := ho.l2; have hb := ho.u1
   simp only at h0 hb
   obtain ⟨c, hc, x, y, k1, k2, k3, k4⟩ := h.level h0 (show b + 1 < n by omega)
   obtain ⟨e, e1, e2⟩ := cell_edge h.rise (h.cell c hc) h0 (by omega) k1 k2 k3 k4
   have hw : 0 < (midV p K b).2.2 := by simp [midV]
   obtain ⟨w, r1, r2, r3⟩ := rim_left h.nod h.cell h.rise hw (midV_ne h.rise h0 (by omega)) hc e1 e2
   have ht := (midV_thru h.rise h0 (by omega) ho.l2 ho.u2 ho.l1 ho.u1).2 ⟨Int.le_refl b, g⟩
   have := outer_two (e := (b, a)) h.rise hw ho ht ((h.rim _ r1).2 (by simpa using r2)) r3
   rw [← this] at r1
   exact r1
end
end Go.Proofs.Ytollcjadobpfdaa.Rw
namespace Go.Proofs.Ytollcjadobpfdaa.Rw
set_option linter.unusedVariables false
set_option linter.unusedSimpArgs false
def sumF {α : Type} (f : α → Int) : List α → Int
 | [] => 0
 | x :: l => f x + sumF f l
theorem sumF_append {α : Type} (f : α → Int) : ∀ l m : List α, sumF f (l ++ m) = sumF f l + sumF f m
 | [], m => by simp [sumF]
 | x :: l, m => by simp only [List.cons_append, sumF, sumF_append f l m]; omega
theorem sumF_perm {α : Type} {f : α → Int} {l m : List α} (h : l.Perm m) : sumF f l = sumF f m := by
 induction h with
 | nil => rfl
 | cons x _ ih => simp only [sumF, ih]
 | swap x y l => simp only [sumF]; omega
 | trans _ _ h1 h2 => exact h1.trans h2
theorem sumF_map {α β : Type} (f : β → Int) (g : α → β) : ∀ l : List α, sumF f (l.map g) = sumF (fun x => f (g x)) l
 | [] => rfl
 | x :: l => by simp only [List.map_cons, sumF, sumF_map f g l]
theorem sumF_flat {α β : Type} (f : β → Int) (g : α → List β) : ∀ l : List α, sumF f (l.flatMap g) = sumF (fun x => sumF f (g x)) l
 | [] => rfl
 | x :: l => by simp only [List.flatMap_cons, sumF, sumF_append, sumF_flat f g l]
theorem sumF_neg {α : Type} {f g : α → Int} (h : ∀ x, f x = - g x) : ∀ l : List α, sumF f l = - sumF g l
 | [] => rfl
 | x :: l => by simp only [sumF, sumF_neg h l, h x]; omega
theorem sumF_congr {α : Type} {f g : α → Int} : ∀ {l : List α}, (∀ x ∈ l, f x = g x) → sumF f l = sumF g l
 | [], _ => rfl
 | x :: l, h => by simp only [sumF]; rw [h x (by simp), sumF_congr fun y hy => h y (by simp [hy])]
theorem sumF_split {α : Type} (f : α → Int) (q : α → Bool) : ∀ l : List α, sumF f l = sumF f (l.filter q) + sumF f (l.filter fun x => !q x)
 | [] => rfl
 | x :: l => by
   have ih := sumF_split f q l
   cases hx : q x <;> simp [hx, sumF, ih] <;> omega
def shoe (p : Int → Int × Int) (e : Int × Int) : Int := (p e.1).1 * (p e.2).2 - (p e.2).1 * (p e.1).2
section
variable {p : Int → Int × Int} {K n : Int} {cs : List Cell3}
theorem shoe_cells (cs : List Cell3) : sumF (fun c => crossI (p c.1) (p c.2.1) (p c.2.2)) cs = sumF (shoe p) (edgesL cs) := by
 unfold edgesL
 rw [sumF_flat]
 refine sumF_congr fun c _ => ?_
 simp only [edgesC, sumF, shoe, crossI]
 grind
theorem shoe_pairs {Q : List (Int × Int)} (h : Q.Nodup) (hr : ∀ e ∈ Q, (e.2, e.1) ∈ Q) : sumF (shoe p) Q = 0 := by
 have hp : (Q.map fun e => (e.2, e.1)).Perm Q := by
  refine (List.perm_ext_iff_of_nodup ?_ h).2 fun e => ?_
  · refine List.pairwise_map.2 (List.Pairwise.imp (fun h g => h ?_) h)
    simp only [Prod.mk.injEq] at g
    exact Prod.ext g.2 g.1
  · rw [List.mem_map]
    constructor
    · rintro ⟨x, hx, rfl⟩
      exact hr x hx
    · intro he
      exact ⟨(e.2, e.1), hr e he, rfl⟩
 have h1 := sumF_perm (f := shoe p) hp
 rw [sumF_map, sumF_neg (g := shoe p) (fun x => by simp only [shoe]; grind)] at h1
 omega
open Classical in
theorem MeshV.area (h : MeshV p K n cs) {O : List (Int × Int)} (hO : O.Nodup) (hm : ∀ e, e ∈ O ↔ OuterE p n e ∧ e.1 ≠ e.2) : sumF (fun c => crossI (p c.1) (p c.2.1) (p c.2.2)) cs = sumF (shoe p) O := by
 rw [shoe_cells, sumF_split (shoe p) (fun e => decide ((e.2, e.1) ∈ edgesL cs)) (edgesL cs), shoe_pairs (h.nod.filter _) (fun e he => ?_), Int.zero_add]
 · refine sumF_perm ((List.perm_ext_iff_of_nodup (h.nod.filter _) hO).2 fun e => ?_)
   rw [hm, List.mem_filter]
   simp only [Bool.not_eq_true', decide_eq_false_iff_not]
   constructor
   · rintro ⟨h1, h2⟩
     refine ⟨(h.rim e h1).2 h2, fun z => h2 ?_⟩
     have : e = (e.2, e.1) := Prod.ext z z.symm
     rw [← this]; exact h1
   · rintro ⟨h1, h2⟩
     have h3 := h.outer_seen h1 h2
     exact ⟨h3, (h.rim e h3).1 h1⟩
 · rw [List.mem_filter] at he ⊢
   simp only [decide_eq_true_eq] at he ⊢
   exact ⟨he.2, he.1⟩
end
end Go.Proofs.Ytollcjadobpfdaa.Rw
namespace Go.Proofs.Ytollcjadobpfdaa.Rw
set_option linter.unusedVariables false
set_option linter.unusedSimpArgs false
def sumN (f : Nat → Rat) : Nat → Rat
 | 0 => 0
 | N + 1 => sumN f N + f N
def sumQ {α : Type} (f : α → Rat) : List α → Rat
 | [] => 0
 | x :: l => f x + sumQ f l
theorem sumN_zero : ∀ N, sumN (fun _ => 0) N = 0
 | 0 => rfl
 | N + 1 => by simp only [sumN, sumN_zero N]; grind
theorem sumN_add (f g : Nat → Rat) : ∀ N, sumN (fun i => f i + g i) N = sumN f N + sumN g N
 | 0 => by simp only [sumN]; grind
 | N + 1 => by simp only [sumN, sumN_add f g N]; grind
theorem sumN_congr {f g : Nat → Rat} : ∀ {N}, (∀ i, i < N → f i = g i) → sumN f N = sumN g N
 | 0, _ => rfl
 | N + 1, h => by simp only [sumN]; rw [sumN_congr fun i hi => h i (by omega), h N (by omega)]
theorem sumQ_congr {α : Type} {f g : α → Rat} : ∀ {l : List α}, (∀ x ∈ l, f x = g x) → sumQ f l = sumQ g l
 | [], _ => rfl
 | x :: l, h => by simp only [sumQ]; rw [h x (by simp), sumQ_congr fun y hy => h y (by simp [hy])]
theorem sum_swap {α : Type} (g : α → Nat → Rat) (N : Nat) : ∀ l : List α, sumQ (fun e => sumN (g e) N) l = sumN (fun i => sumQ (fun e => g e i) l) N
 | [] => by simp only [sumQ]; exact (sumN_zero N).symm
 | x :: l => by simp only [sumQ, sum_swap g N l]; rw [← sumN_add]
open Classical in
theorem sumQ_none {α : Type} (q : α → Prop) (f : α → Rat) : ∀ {l : List α}, (∀ x ∈ l, ¬ q x) → sumQ (fun e => if q e then f e else 0) l = 0
 | [], _ => rfl
 | x :: l, h => by
   simp only [sumQ]
   rw [if_neg (h x (by simp)), sumQ_none q f fun y hy => h y (by simp [hy])]
   grind
open Classical in
theorem sumQ_one {α : Type} (q : α → Prop) (f : α → Rat) {e0 : α} : ∀ {l : List α}, l.Nodup → e0 ∈ l → q e0 → (∀ e ∈ l, q e → e = e0) → sumQ (fun e => if q e then f e else 0) l = f e0
 | x :: l, hn, hm, hq, hu => by
   rw [List.nodup_cons] at hn
   simp only [sumQ]
   by_cases hx : x = e0
   · subst hx
     rw [if_pos hq, sumQ_none q f (l := l) fun y hy hqy => hn.1 (hu y (List.mem_cons_of_mem _ hy) hqy ▸ hy)]
     grind
   · have hm' : e0 ∈ l := (List.mem_cons.1 hm).resolve_left (fun z => hx z.symm)
     rw [if_neg (fun z => hx (hu x (by simp) z)), sumQ_one q f hn.2 hm' hq fun y hy => hu y (by simp [hy])]
     grind
theorem sumN_tele (F : Nat → Rat) {a b : Nat} (hab : a ≤ b) : ∀ {N}, b ≤ N → sumN (fun i => if a ≤ i ∧ i < b then F (i + 1) - F i else 0) N = F b - F a
 | N, hN => by
   have key : ∀ M, M ≤ N → sumN (fun i => if a ≤ i ∧ i < b then F (i + 1) - F i else 0) M = if M ≤ a then 0 else if M ≤ b then F M - F a else F b - F a := fun M => by
    induction M with
    | zero => intro _; simp [sumN]
    | succ M ih =>
      intro hM
      simp only [sumN]
      rw [ih (by omega)]
      by_cases h1 : M + 1 ≤ a
      · rw [if_pos (by omega), if_neg (by omega), if_pos h1]; grind
      · by_cases h2 : M = a
        · subst h2
          rw [if_pos (Nat.le_refl _), if_neg h1]
          by_cases h3 : M < b
          · rw [if_pos ⟨Nat.le_refl _, h3⟩, if_pos (by omega)]; grind
          · have : b = M := by omega
            subst this
            rw [if_neg (by omega), if_neg (by omega)]; grind
        · rw [if_neg (by omega : ¬ M ≤ a), if_neg h1]
          by_cases h3 : M < b
          · rw [if_pos (by omega), if_pos ⟨by omega, h3⟩, if_pos (by omega)]; grind
          · rw [if_neg (by omega : ¬ (a ≤ M ∧ M < b)), if_neg (by omega : ¬ M + 1 ≤ b)]
            by_cases h4 : M ≤ b
            · have : M = b := by omega
              subst this
              rw [if_pos (Nat.le_refl _)]; grind
            · rw [if_neg h4]; grind
   rw [key N (Nat.le_refl _)]
   by_cases h1 : N ≤ a
   · have : a = b := by omega
     subst this
     rw [if_pos h1]; grind
   · rw [if_neg h1]
     by_cases h2 : N ≤ b
     · have : N = b := by omega
       subst this
       rw [if_pos (Nat.le_refl _)]
     · rw [if_neg h2]
end Go.Proofs.Ytollcjadobpfdaa.Rw
namespace Go.Proofs.Ytollcjadobpfdaa.Rw
set_option linter.unusedVariables false
set_option linter.unusedSimpArgs false
theorem line_ratio (K : Int) {p : Int → Int × Int} {e e' : Int × Int} (h1 : crossI (p e.1) (p e.2) (p e'.1) = 0) (h2 : crossI (p e.1) (p e.2) (p e'.2) = 0) :
 shoe p e * (phiK K (p e'.2) - phiK K (p e'.1)) = shoe p e' * (phiK K (p e.2) - phiK K (p e.1)) := by
 simp only [shoe, phiK, crossI] at *
 grind
section
variable {p : Int → Int × Int} {K n : Int}
def gapQ (p : Int → Int × Int) (K : Int) (i : Nat) : Rat := (phiK K (p ((i : Int) + 1)) : Rat) - (phiK K (p (i : Int)) : Rat)
def rhoQ (p : Int → Int × Int) (K : Int) (e : Int × Int) : Rat := (shoe p e : Rat) / ((phiK K (p e.2) : Rat) - (phiK K (p e.1) : Rat))
def upAt (e : Int × Int) (i : Nat) : Prop := e.1 ≤ (i : Int) ∧ (i : Int) < e.2
open Classical in
theorem shoe_levels (hr : Rising p K n) {N : Nat} (hN : (N : Int) + 1 = n) {e : Int × Int} (h0 : 0 ≤ e.1) (h1 : e.1 < e.2) (h2 : e.2 < n) :
 (shoe p e : Rat) = sumN (fun i => if upAt e i then gapQ p K i * rhoQ p K e else 0) N := by
 have hd := hr e.1 e.2 h0 h1 h2
 have hne : (phiK K (p e.2) : Rat) - (phiK K (p e.1) : Rat) ≠ 0 := fun z => by
  have z : (phiK K (p e.2) : Rat) = (phiK K (p e.1) : Rat) := by grind
  have := Rat.intCast_inj.1 z
  omega
 have t := sumN_tele (fun i : Nat => (phiK K (p (i : Int)) : Rat) * rhoQ p K e) (a := e.1.toNat) (b := e.2.toNat) (by omega) (N := N) (by omega)
 have e1 : ((e.1.toNat : Nat) : Int) = e.1 := by omega
 have e2 : ((e.2.toNat : Nat) : Int) = e.2 := by omega
 simp only [e1, e2] at t
 have hs : sumN (fun i => if upAt e i then gapQ p K i * rhoQ p K e else 0) N = sumN (fun i => if e.1.toNat ≤ i ∧ i < e.2.toNat then (phiK K (p (((i + 1 : Nat)) : Int)) : Rat) * rhoQ p K e - (phiK K (p (i : Int)) : Rat) * rhoQ p K e else 0) N := by
  refine sumN_congr fun i hi => ?_
  by_cases c : upAt e i
  · have c' := c
    unfold upAt at c'
    rw [if_pos c, if_pos ⟨by omega, by omega⟩]
    unfold gapQ
    rw [show (((i + 1 : Nat)) : Int) = (i : Int) + 1 by omega]
    grind
  · rw [if_neg c, if_neg (fun z => c ⟨by omega, by omega⟩)]
 rw [hs, t]
 unfold rhoQ
 grind
open Classical in
theorem rise_sum (hr : Rising p K n) {N : Nat} (hN : (N : Int) + 1 = n) {E : List (Int × Int)} (hE : E.Nodup) (hin : ∀ e ∈ E, 0 ≤ e.1 ∧ e.1 < n ∧ 0 ≤ e.2 ∧ e.2 < n) (u : Nat → Int × Int) (hu : ∀ i, i < N → u i ∈ E ∧ upAt (u i) i) (h1 : ∀ i, i < N → ∀ e ∈ E, upAt e i → e = u i) :
 sumQ (fun e => if e.1 < e.2 then (shoe p e : Rat) else 0) E = sumN (fun i => gapQ p K i * rhoQ p K (u i)) N := by
 have s1 : sumQ (fun e => if e.1 < e.2 then (shoe p e : Rat) else 0) E = sumQ (fun e => sumN (fun i => if upAt e i then gapQ p K i * rhoQ p K e else 0) N) E := by
  refine sumQ_congr fun e he => ?_
  obtain ⟨a, b, c, d⟩ := hin e he
  by_cases g : e.1 < e.2
  · rw [if_pos g]; exact shoe_levels hr hN a g d
  · rw [if_neg g, sumN_congr (g := fun _ => 0) fun i _ => ?_, sumN_zero]
    rw [if_neg]
    unfold upAt
    omega
 rw [s1, sum_swap]
 refine sumN_congr fun i hi => ?_
 have h2 := hu i hi
 exact sumQ_one (fun e => upAt e i) (fun e => gapQ p K i * rhoQ p K e) hE h2.1 h2.2 (h1 i hi)
theorem rise_same (hr : Rising p K n) {N : Nat} (hN : (N : Int) + 1 = n) {E E' : List (Int × Int)} (hE : E.Nodup) (hE' : E'.Nodup) (hin : ∀ e ∈ E, 0 ≤ e.1 ∧ e.1 < n ∧ 0 ≤ e.2 ∧ e.2 < n) (hin' : ∀ e ∈ E', 0 ≤ e.1 ∧ e.1 < n ∧ 0 ≤ e.2 ∧ e.2 < n)
 (u u' : Nat → Int × Int) (hu : ∀ i, i < N → u i ∈ E ∧ upAt (u i) i) (h1 : ∀ i, i < N → ∀ e ∈ E, upAt e i → e = u i) (hu' : ∀ i, i < N → u' i ∈ E' ∧ upAt (u' i) i) (h1' : ∀ i, i < N → ∀ e ∈ E', upAt e i → e = u' i)
 (hl : ∀ i, i < N → crossI (p (u i).1) (p (u i).2) (p (u' i).1) = 0 ∧ crossI (p (u i).1) (p (u i).2) (p (u' i).2) = 0) :
 sumQ (fun e => if e.1 < e.2 then (shoe p e : Rat) else 0) E = sumQ (fun e => if e.1 < e.2 then (shoe p e : Rat) else 0) E' := by
 rw [rise_sum hr hN hE hin u hu h1, rise_sum hr hN hE' hin' u' hu' h1']
 refine sumN_congr fun i hi => ?_
 congr 1
 have a := hu i hi
 have b := hu' i hi
 have r := line_ratio K (hl i hi).1 (hl i hi).2
 have ia := hin _ a.1
 have ib := hin' _ b.1
 have d1 := hr (u i).1 (u i).2 ia.1 (by have := a.2; unfold upAt at this; omega) ia.2.2.2
 have d2 := hr (u' i).1 (u' i).2 ib.1 (by have := b.2; unfold upAt at this; omega) ib.2.2.2
 have ne : ∀ {x y : Int}, x < y → (y : Rat) - (x : Rat) ≠ 0 := fun {x y} h z => by
  have z : (y : Rat) = (x : Rat) := by grind
  have := Rat.intCast_inj.1 z
  omega
 have n1 := ne d1
 have n2 := ne d2
 have rq : (shoe p (u i) : Rat) * ((phiK K (p (u' i).2) : Rat) - (phiK K (p (u' i).1) : Rat)) = (shoe p (u' i) : Rat) * ((phiK K (p (u i).2) : Rat) - (phiK K (p (u i).1) : Rat)) := by
  have := congrArg (fun z : Int => (z : Rat)) r
  simpa [Rat.intCast_mul, Rat.intCast_sub] using this
 unfold rhoQ
 grind
end
end Go.Proofs.Ytollcjadobpfdaa.Rw
namespace Go.Proofs.Ytollcjadobpfdaa.Rw
set_option linter.unusedVariables false
set_option linter.unusedSimpArgs false
theorem frac_max {α : Type} {N D : α → Int} : ∀ {l : List α}, l ≠ [] → (∀ x ∈ l, 0 < D x) → ∃ m ∈ l, ∀ x ∈ l, N x * D m ≤ N m * D x
 | [x], _, h => ⟨x, by simp, fun y hy => by simp at hy; subst hy; exact Int.le_refl _⟩
 | x :: y :: l, _, h => by
   obtain ⟨m, h1, h2⟩ := frac_max (l := y :: l) (by simp) fun z hz => h z (List.mem_cons_of_mem _ hz)
   have dm := h m (List.mem_cons_of_mem _ h1)
   have dx := h x (by simp)
   rcases Int.le_total (N x * D m) (N m * D x) with g | g
   · refine ⟨m, List.mem_cons_of_mem _ h1, fun z hz => ?_⟩
     rcases List.mem_cons.1 hz with rfl | hz
     · exact g
     · exact h2 z hz
   · refine ⟨x, by simp, fun z hz => ?_⟩
     rcases List.mem_cons.1 hz with rfl | hz
     · exact Int.le_refl _
     · have dz := h z (List.mem_cons_of_mem _ hz)
       have k1 := Int.mul_le_mul_of_nonneg_right (h2 z hz) (Int.le_of_lt dx)
       have k2 := Int.mul_le_mul_of_nonneg_right g (Int.le_of_lt dz)
       have e : (N z * D x) * D m ≤ (N x * D z) * D m := by
        have e1 : N z * D x * D m = N z * D m * D x := by grind
        have e2 : N x * D z * D m = N x * D m * D z := by grind
        have e3 : N m * D x * D z = N m * D z * D x := by grind
        omega
       exact Int.le_of_mul_le_mul_right e dm
section
variable {p : Int → Int × Int} {K n : Int}
structure Supp (p : Int → Int × Int) (n i a b : Int) : Prop where
 lo : 0 ≤ a
 al : a ≤ i
 bl : i < b
 hi : b < n
 left : ∀ m, 0 ≤ m → m < n → 0 ≤ crossI (p a) (p b) (p m)
theorem supp_ex (hr : Rising p K n) {i : Int} (h0 : 0 ≤ i) (h1 : i + 1 < n) : ∃ a b, Supp p n i a b := by
 let S := phiK K (p i) + phiK K (p (i + 1))
 let L : List (Int × Int) := (List.range (i.toNat + 1)).flatMap fun (a : Nat) => (List.range (n.toNat - (i.toNat + 1))).map fun (b : Nat) => ((a : Int), (b : Int) + i + 1)
 have mL : ∀ a b : Int, (a, b) ∈ L ↔ 0 ≤ a ∧ a ≤ i ∧ i < b ∧ b < n := fun a b => by
  simp only [L, List.mem_flatMap, List.mem_map, List.mem_range, Prod.mk.injEq]
  constructor
  · rintro ⟨x, hx, y, hy, e1, e2⟩
    omega
  · rintro ⟨q1, q2, q3, q4⟩
    exact ⟨a.toNat, by omega, (b - i - 1).toNat, by omega, by omega, by omega⟩
 have hne : L ≠ [] := fun z => by
  have := (mL i (i + 1)).2 ⟨h0, Int.le_refl _, by omega, h1⟩
  rw [z] at this; cases this
 have hD : ∀ x ∈ L, 0 < phiK K (p x.2) - phiK K (p x.1) := fun x hx => by
  obtain ⟨q1, q2, q3, q4⟩ := (mL x.1 x.2).1 hx
  have := hr x.1 x.2 q1 (by omega) q4
  omega
 obtain ⟨⟨a, b⟩, hm, hmax⟩ := frac_max (N := fun x : Int × Int => (phiK K (p x.2) * 2 - S) * (p x.1).1 + (S - phiK K (p x.1) * 2) * (p x.2).1) hne hD
 obtain ⟨q1, q2, q3, q4⟩ := (mL a b).1 hm
 have lv := fun j j0 j1 => midV_lt hr h0 h1 (j := j) j0 j1
 have eS : phiH K (midV p K i) = S := midV_phi i
 have e2 : (midV p K i).2.2 = 2 := rfl
 simp only [eS, e2] at lv
 have ident : ∀ c d : Int, (phiK K (p d) * 2 - S) * crossI (p a) (p b) (p c) + (S - phiK K (p c) * 2) * crossI (p a) (p b) (p d) =
  ((phiK K (p b) * 2 - S) * (p a).1 + (S - phiK K (p a) * 2) * (p b).1) * (phiK K (p d) - phiK K (p c)) - ((phiK K (p d) * 2 - S) * (p c).1 + (S - phiK K (p c) * 2) * (p d).1) * (phiK K (p b) - phiK K (p a)) := fun c d => by
  generalize S = s
  simp only [crossI, phiK]; grind
 refine ⟨a, b, q1, q2, q3, q4, fun m m0 m1 => ?_⟩
 have cs1 := crossI_self (p a) (p b)
 rcases Int.lt_or_le i m with g | g
 · have k := hmax (a, m) ((mL a m).2 ⟨q1, q2, g, m1⟩)
   have id1 := ident a m
   simp only at k
   rw [cs1.1, Int.mul_zero, Int.zero_add] at id1
   have hp : 0 < S - phiK K (p a) * 2 := by have := (lv a q1 (by omega)).1 q2; omega
   rcases Int.lt_or_le (crossI (p a) (p b) (p m)) 0 with z | z
   · have := Int.mul_pos hp (show 0 < - crossI (p a) (p b) (p m) by omega)
     rw [Int.mul_neg] at this
     omega
   · exact z
 · have k := hmax (m, b) ((mL m b).2 ⟨m0, g, q3, q4⟩)
   have id1 := ident m b
   simp only at k
   rw [cs1.2, Int.mul_zero, Int.add_zero] at id1
   have hp : 0 < phiK K (p b) * 2 - S := by have := (lv b (by omega) q4).2 q3; omega
   rcases Int.lt_or_le (crossI (p a) (p b) (p m)) 0 with z | z
   · have := Int.mul_pos hp (show 0 < - crossI (p a) (p b) (p m) by omega)
     rw [Int.mul_neg] at this
     omega
   · exact z
theorem supp_low (hr : Rising p K n) {i a b m : Int} (h : Supp p n i a b) (m0 : 0 ≤ m) (ml : m ≤ i) (z : crossI (p a) (p b) (p m) = 0) : Supp p n i m b := by
 refine ⟨m0, ml, h.bl, h.hi, fun x x0 x1 => ?_⟩
 have id1 : (phiK K (p b) - phiK K (p a)) * crossI (p m) (p b) (p x) = (phiK K (p b) - phiK K (p m)) * crossI (p a) (p b) (p x) - (phiK K (p b) - phiK K (p x)) * crossI (p a) (p b) (p m) := by simp only [crossI, phiK]; grind
 rw [z, Int.mul_zero, Int.sub_zero] at id1
 have g1 := hr a b h.lo (by have := h.al; have := h.bl; omega) h.hi
 have g2 := hr m b m0 (by have := h.bl; omega) h.hi
 have g3 := Int.mul_nonneg (show 0 ≤ phiK K (p b) - phiK K (p m) by omega) (h.left x x0 x1)
 rcases Int.lt_or_le (crossI (p m) (p b) (p x)) 0 with q | q
 · have := Int.mul_pos (show 0 < phiK K (p b) - phiK K (p a) by omega) (show 0 < - crossI (p m) (p b) (p x) by omega)
   rw [Int.mul_neg] at this; omega
 · exact q
theorem supp_high (hr : Rising p K n) {i a b m : Int} (h : Supp p n i a b) (ml : i < m) (m1 : m < n) (z : crossI (p a) (p b) (p m) = 0) : Supp p n i a m := by
 refine ⟨h.lo, h.al, ml, m1, fun x x0 x1 => ?_⟩
 have id1 : (phiK K (p b) - phiK K (p a)) * crossI (p a) (p m) (p x) = (phiK K (p m) - phiK K (p a)) * crossI (p a) (p b) (p x) - (phiK K (p x) - phiK K (p a)) * crossI (p a) (p b) (p m) := by simp only [crossI, phiK]; grind
 rw [z, Int.mul_zero, Int.sub_zero] at id1
 have g1 := hr a b h.lo (by have := h.al; have := h.bl; omega) h.hi
 have g2 := hr a m h.lo (by have := h.al; omega) m1
 have g3 := Int.mul_nonneg (show 0 ≤ phiK K (p m) - phiK K (p a) by omega) (h.left x x0 x1)
 rcases Int.lt_or_le (crossI (p a) (p m) (p x)) 0 with q | q
 · have := Int.mul_pos (show 0 < phiK K (p b) - phiK K (p a) by omega) (show 0 < - crossI (p a) (p m) (p x) by omega)
   rw [Int.mul_neg] at this; omega
 · exact q
theorem supp_short (hr : Rising p K n) {i : Int} : ∀ (k : Nat) {a b : Int}, (b - a).toNat ≤ k → Supp p n i a b → ∃ a b, Supp p n i a b ∧ ∀ m, 0 ≤ m → m < n → crossI (p a) (p b) (p m) = 0 → ¬ (a < m ∧ m < b)
 | 0, a, b, hk, h => by have := h.al; have := h.bl; omega
 | k + 1, a, b, hk, h => by
   by_cases c : ∃ m, 0 ≤ m ∧ m < n ∧ crossI (p a) (p b) (p m) = 0 ∧ a < m ∧ m < b
   · obtain ⟨m, m0, m1, z, g1, g2⟩ := c
     rcases Int.lt_or_le i m with g | g
     · exact supp_short hr k (by omega) (supp_high hr h g m1 z)
     · exact supp_short hr k (by omega) (supp_low hr h m0 g z)
   · exact ⟨a, b, h, fun m m0 m1 z q => c ⟨m, m0, m1, z, q⟩⟩
theorem supp_long (hr : Rising p K n) {i : Int} : ∀ (k : Nat) {a b : Int}, (n - (b - a)).toNat ≤ k → Supp p n i a b → ∃ a b, Supp p n i a b ∧ ∀ m, 0 ≤ m → m < n → crossI (p a) (p b) (p m) = 0 → a ≤ m ∧ m ≤ b
 | 0, a, b, hk, h => by have := h.al; have := h.bl; have := h.lo; have := h.hi; omega
 | k + 1, a, b, hk, h => by
   by_cases c : ∃ m, 0 ≤ m ∧ m < n ∧ crossI (p a) (p b) (p m) = 0 ∧ (m < a ∨ b < m)
   · obtain ⟨m, m0, m1, z, g | g⟩ := c
     · exact supp_long hr k (by omega) (supp_low hr h m0 (by have := h.al; omega) z)
     · exact supp_long hr k (by omega) (supp_high hr h (by have := h.bl; omega) m1 z)
   · refine ⟨a, b, h, fun m m0 m1 z => ?_⟩
     constructor
     · rcases Int.lt_or_le m a with g | g
       · exact absurd ⟨m, m0, m1, z, .inl g⟩ c
       · exact g
     · rcases Int.lt_or_le b m with g | g
       · exact absurd ⟨m, m0, m1, z, .inr g⟩ c
       · exact g
theorem supp_line (hr : Rising p K n) {i a b c d : Int} (h0 : 0 ≤ i) (h1 : i + 1 < n) (h : Supp p n i a b) (h' : Supp p n i c d) : crossI (p c) (p d) (p a) = 0 ∧ crossI (p c) (p d) (p b) = 0 ∧ crossI (p a) (p b) (p c) = 0 ∧ crossI (p a) (p b) (p d) = 0 := by
 have a1 := h.al; have a2 := h.bl; have c1 := h'.al; have c2 := h'.bl
 have t := (midV_thru hr h0 h1 h.lo (by omega) (by omega) h.hi).2 ⟨a1, a2⟩
 have t' := (midV_thru hr h0 h1 h'.lo (by omega) (by omega) h'.hi).2 ⟨c1, c2⟩
 exact level_line t.2.1 t.2.2 t'.2.1 t'.2.2 (h'.left a h.lo (by omega)) (h'.left b (by omega) h.hi) (h.left c h'.lo (by omega)) (h.left d (by omega) h'.hi)
end
end Go.Proofs.Ytollcjadobpfdaa.Rw
namespace Go.Proofs.Ytollcjadobpfdaa.Rw
set_option linter.unusedVariables false
set_option linter.unusedSimpArgs false
structure MaxE (p : Int → Int × Int) (n : Int) (e : Int × Int) : Prop where
 l1 : 0 ≤ e.1
 l2 : 0 ≤ e.2
 u1 : e.1 < n
 u2 : e.2 < n
 left : ∀ m, 0 ≤ m → m < n → 0 ≤ crossI (p e.1) (p e.2) (p m)
 all : ∀ m, 0 ≤ m → m < n → crossI (p e.1) (p e.2) (p m) = 0 → (e.1 ≤ m ∧ m ≤ e.2) ∨ (e.2 ≤ m ∧ m ≤ e.1)
section
variable {p : Int → Int × Int} {K n : Int}
open Classical in
theorem up_same (hr : Rising p K n) (hn : 1 ≤ n) {O M : List (Int × Int)} (nO : O.Nodup) (nM : M.Nodup) (hO : ∀ e, e ∈ O ↔ OuterE p n e ∧ e.1 ≠ e.2) (hM : ∀ e, e ∈ M ↔ MaxE p n e ∧ e.1 ≠ e.2) :
 sumQ (fun e => if e.1 < e.2 then (shoe p e : Rat) else 0) O = sumQ (fun e => if e.1 < e.2 then (shoe p e : Rat) else 0) M := by
 have hN : (((n - 1).toNat : Nat) : Int) + 1 = n := by omega
 have exs : ∀ i : Nat, i < (n - 1).toNat → ∃ e : Int × Int, Supp p n i e.1 e.2 ∧ ∀ m, 0 ≤ m → m < n → crossI (p e.1) (p e.2) (p m) = 0 → ¬ (e.1 < m ∧ m < e.2) := fun i hi => by
  obtain ⟨a, b, h⟩ := supp_ex hr (i := i) (by omega) (by omega)
  obtain ⟨a, b, h1, h2⟩ := supp_short hr _ (Nat.le_refl _) h
  exact ⟨(a, b), h1, h2⟩
 have exl : ∀ i : Nat, i < (n - 1).toNat → ∃ e : Int × Int, Supp p n i e.1 e.2 ∧ ∀ m, 0 ≤ m → m < n → crossI (p e.1) (p e.2) (p m) = 0 → e.1 ≤ m ∧ m ≤ e.2 := fun i hi => by
  obtain ⟨a, b, h⟩ := supp_ex hr (i := i) (by omega) (by omega)
  obtain ⟨a, b, h1, h2⟩ := supp_long hr _ (Nat.le_refl _) h
  exact ⟨(a, b), h1, h2⟩
 let u : Nat → Int × Int := fun i => Classical.epsilon fun e => Supp p n i e.1 e.2 ∧ ∀ m, 0 ≤ m → m < n → crossI (p e.1) (p e.2) (p m) = 0 → ¬ (e.1 < m ∧ m < e.2)
 let w : Nat → Int × Int := fun i => Classical.epsilon fun e => Supp p n i e.1 e.2 ∧ ∀ m, 0 ≤ m → m < n → crossI (p e.1) (p e.2) (p m) = 0 → e.1 ≤ m ∧ m ≤ e.2
 have hu : ∀ i, i < (n - 1).toNat → Supp p n i (u i).1 (u i).2 ∧ ∀ m, 0 ≤ m → m < n → crossI (p (u i).1) (p (u i).2) (p m) = 0 → ¬ ((u i).1 < m ∧ m < (u i).2) := fun i hi =>
  Classical.epsilon_spec (p := fun e : Int × Int => Supp p n i e.1 e.2 ∧ ∀ m, 0 ≤ m → m < n → crossI (p e.1) (p e.2) (p m) = 0 → ¬ (e.1 < m ∧ m < e.2)) (exs i hi)
 have hw : ∀ i, i < (n - 1).toNat → Supp p n i (w i).1 (w i).2 ∧ ∀ m, 0 ≤ m → m < n → crossI (p (w i).1) (p (w i).2) (p m) = 0 → (w i).1 ≤ m ∧ m ≤ (w i).2 := fun i hi =>
  Classical.epsilon_spec (p := fun e : Int × Int => Supp p n i e.1 e.2 ∧ ∀ m, 0 ≤ m → m < n → crossI (p e.1) (p e.2) (p m) = 0 → e.1 ≤ m ∧ m ≤ e.2) (exl i hi)
 refine rise_same hr hN nO nM (fun e he => ?_) (fun e he => ?_) u w (fun i hi => ?_) (fun i hi e he ha => ?_) (fun i hi => ?_) (fun i hi e he ha => ?_) (fun i hi => ?_)
 · have h := ((hO e).1 he).1; exact ⟨h.l1, h.u1, h.l2, h.u2⟩
 · have h := ((hM e).1 he).1; exact ⟨h.l1, h.u1, h.l2, h.u2⟩
 · obtain ⟨h1, h2⟩ := hu i hi
   have := h1.lo; have := h1.al; have := h1.bl; have := h1.hi
   exact ⟨(hO _).2 ⟨⟨by omega, by omega, by omega, by omega, h1.left, fun m m0 m1 z => ⟨h2 m m0 m1 z, by omega⟩⟩, by omega⟩, h1.al, h1.bl⟩
 · obtain ⟨h1, h2⟩ := hu i hi
   have ho := ((hO e).1 he).1
   have hs : Supp p n i e.1 e.2 := ⟨ho.l1, ha.1, ha.2, ho.u2, ho.left⟩
   obtain ⟨k1, k2, k3, k4⟩ := supp_line hr (by omega) (by omega) hs h1
   have a1 := h1.lo; have a2 := h1.al; have a3 := h1.bl; have a4 := h1.hi
   have b1 := ho.l1; have b2 := ho.u2; have b3 := ha.1; have b4 := ha.2
   have n1 := h2 e.1 b1 (by omega) k1
   have n2 := h2 e.2 (by omega) b2 k2
   have n3 := (ho.none _ a1 (by omega) k3).1
   have n4 := (ho.none _ (by omega) a4 k4).1
   exact Prod.ext (by omega) (by omega)
 · obtain ⟨h1, h2⟩ := hw i hi
   have := h1.lo; have := h1.al; have := h1.bl; have := h1.hi
   exact ⟨(hM _).2 ⟨⟨by omega, by omega, by omega, by omega, h1.left, fun m m0 m1 z => .inl (h2 m m0 m1 z)⟩, by omega⟩, h1.al, h1.bl⟩
 · obtain ⟨h1, h2⟩ := hw i hi
   have ho := ((hM e).1 he).1
   have hs : Supp p n i e.1 e.2 := ⟨ho.l1, ha.1, ha.2, ho.u2, ho.left⟩
   obtain ⟨k1, k2, k3, k4⟩ := supp_line hr (by omega) (by omega) hs h1
   have a1 := h1.lo; have a2 := h1.al; have a3 := h1.bl; have a4 := h1.hi
   have b1 := ho.l1; have b2 := ho.u2; have b3 := ha.1; have b4 := ha.2
   have n1 := h2 e.1 b1 (by omega) k1
   have n2 := h2 e.2 (by omega) b2 k2
   have n3 := ho.all _ a1 (by omega) k3
   have n4 := ho.all _ (by omega) a4 k4
   exact Prod.ext (by omega) (by omega)
 · have h1 := (hu i hi).1
   have h2 := (hw i hi).1
   have := supp_line hr (by omega) (by omega) h1 h2
   exact ⟨this.2.2.1, this.2.2.2⟩
def flipP (K : Int) (p : Int → Int × Int) (i : Int) : Int × Int := (- (p i).1, (p i).2 + 2 * K * (p i).1)
theorem flip_phi (i : Int) : phiK K (flipP K p i) = phiK K (p i) := by simp only [phiK, flipP]; grind
theorem flip_cross (a b c : Int) : crossI (flipP K p a) (flipP K p b) (flipP K p c) = crossI (p b) (p a) (p c) := by simp only [crossI, flipP]; grind
theorem flip_shoe (e : Int × Int) : shoe (flipP K p) e = shoe p (e.2, e.1) := by simp only [shoe, flipP]; grind
theorem flip_rise (hr : Rising p K n) : Rising (flipP K p) K n := fun i j h0 h1 h2 => by rw [flip_phi, flip_phi]; exact hr i j h0 h1 h2
theorem flip_outer (e : Int × Int) : OuterE (flipP K p) n e ↔ OuterE p n (e.2, e.1) := by
 constructor
 · intro h
   exact ⟨h.l2, h.l1, h.u2, h.u1, fun m m0 m1 => by rw [← flip_cross (K := K)]; exact h.left m m0 m1, fun m m0 m1 z => by rw [← flip_cross (K := K)] at z; exact (h.none m m0 m1 z).symm⟩
 · intro h
   exact ⟨h.l2, h.l1, h.u2, h.u1, fun m m0 m1 => by rw [flip_cross]; exact h.left m m0 m1, fun m m0 m1 z => by rw [flip_cross] at z; exact (h.none m m0 m1 z).symm⟩
theorem flip_max (e : Int × Int) : MaxE (flipP K p) n e ↔ MaxE p n (e.2, e.1) := by
 constructor
 · intro h
   exact ⟨h.l2, h.l1, h.u2, h.u1, fun m m0 m1 => by rw [← flip_cross (K := K)]; exact h.left m m0 m1, fun m m0 m1 z => by rw [← flip_cross (K := K)] at z; exact (h.all m m0 m1 z).symm⟩
 · intro h
   exact ⟨h.l2, h.l1, h.u2, h.u1, fun m m0 m1 => by rw [flip_cross]; exact h.left m m0 m1, fun m m0 m1 z => by rw [flip_cross] at z; exact (h.all m m0 m1 z).symm⟩
theorem nodup_rev {O : List (Int × Int)} (h : O.Nodup) : (O.map fun e => (e.2, e.1)).Nodup :=
 List.pairwise_map.2 (List.Pairwise.imp (fun h g => h (by simp only [Prod.mk.injEq] at g; exact Prod.ext g.2 g.1)) h)
theorem mem_rev {O : List (Int × Int)} {e : Int × Int} : e ∈ (O.map fun e => (e.2, e.1)) ↔ (e.2, e.1) ∈ O := by
 rw [List.mem_map]
 constructor
 · rintro ⟨x, hx, rfl⟩; exact hx
 · intro h; exact ⟨_, h, rfl⟩
theorem sumQ_map {α β : Type} (f : β → Rat) (g : α → β) : ∀ l : List α, sumQ f (l.map g) = sumQ (fun x => f (g x)) l
 | [] => rfl
 | x :: l => by simp only [List.map_cons, sumQ, sumQ_map f g l]
open Classical in
theorem sum_both {O : List (Int × Int)} (h : ∀ e ∈ O, e.1 ≠ e.2) : (sumF (shoe p) O : Rat) = sumQ (fun e => if e.1 < e.2 then (shoe p e : Rat) else 0) O + sumQ (fun e => if e.1 < e.2 then (shoe (flipP K p) e : Rat) else 0) (O.map fun e => (e.2, e.1)) := by
 rw [sumQ_map]
 induction O with
 | nil => simp only [sumF, sumQ]; grind
 | cons e O ih =>
   have ih := ih fun x hx => h x (List.mem_cons_of_mem _ hx)
   have hne := h e (by simp)
   simp only [sumF, sumQ, Rat.intCast_add]
   rw [ih, flip_shoe]
   simp only
   rcases Int.lt_or_gt_of_ne hne with g | g
   · rw [if_pos g, if_neg (by omega)]; grind
   · rw [if_neg (by omega), if_pos g]; grind
theorem hull_same (hr : Rising p K n) (hn : 1 ≤ n) {O M : List (Int × Int)} (nO : O.Nodup) (nM : M.Nodup) (hO : ∀ e, e ∈ O ↔ OuterE p n e ∧ e.1 ≠ e.2) (hM : ∀ e, e ∈ M ↔ MaxE p n e ∧ e.1 ≠ e.2) : sumF (shoe p) O = sumF (shoe p) M := by
 have h1 := up_same hr hn nO nM hO hM
 have h2 := up_same (flip_rise hr) hn (nodup_rev nO) (nodup_rev nM) (fun e => by rw [mem_rev, hO, flip_outer]; exact ⟨fun z => ⟨z.1, fun q => z.2 q.symm⟩, fun z => ⟨z.1, fun q => z.2 q.symm⟩⟩) (fun e => by rw [mem_rev, hM, flip_max]; exact ⟨fun z => ⟨z.1, fun q => z.2 q.symm⟩, fun z => ⟨z.1, fun q => z.2 q.symm⟩⟩)
 have e1 := sum_both (p := p) (K := K) (O := O) fun e he => ((hO e).1 he).2
 have e2 := sum_both (p := p) (K := K) (O := M) fun e he => ((hM e).1 he).2
 refine Rat.intCast_inj.1 ?_
 rw [e1, e2, h1, h2]
end
end Go.Proofs.Ytollcjadobpfdaa.Rw
namespace Go.Proofs.Ytollcjadobpfdaa.Rw
set_option linter.unusedVariables false
set_option linter.unusedSimpArgs false
def lenQ (x : Rat × Rat) : Rat := x.2 - x.1
def asideQ (x y : Rat × Rat) : Prop := x.2 ≤ y.1 ∨ y.2 ≤ x.1
theorem sumQ_perm {α : Type} {f : α → Rat} {l m : List α} (h : l.Perm m) : sumQ f l = sumQ f m := by
 induction h with
 | nil => rfl
 | cons x _ ih => simp only [sumQ, ih]
 | swap x y l => simp only [sumQ]; grind
 | trans _ _ h1 h2 => exact h1.trans h2
theorem sumQ_split {α : Type} (f : α → Rat) (q : α → Bool) : ∀ l : List α, sumQ f l = sumQ f (l.filter q) + sumQ f (l.filter fun x => !q x)
 | [] => by simp only [List.filter_nil, sumQ]; grind
 | x :: l => by
   have ih := sumQ_split f q l
   cases hx : q x <;> simp [hx, sumQ, ih] <;> grind
theorem least_ex : ∀ {R : List (Rat × Rat)}, R ≠ [] → ∃ m ∈ R, ∀ y ∈ R, m.1 ≤ y.1
 | [x], _ => ⟨x, by simp, fun y hy => by simp at hy; subst hy; grind⟩
 | x :: y :: l, _ => by
   obtain ⟨m, h1, h2⟩ := least_ex (R := y :: l) (by simp)
   by_cases g : x.1 ≤ m.1
   · refine ⟨x, by simp, fun z hz => ?_⟩
     rcases List.mem_cons.1 hz with rfl | hz
     · grind
     · have := h2 z hz; grind
   · refine ⟨m, List.mem_cons_of_mem _ h1, fun z hz => ?_⟩
     rcases List.mem_cons.1 hz with rfl | hz
     · grind
     · exact h2 z hz
theorem pack_le : ∀ (k : Nat) {L : List (Rat × Rat)} {A B : Rat}, L.length ≤ k → A ≤ B → L.Pairwise asideQ → (∀ x ∈ L, A ≤ x.1 ∧ x.1 < x.2 ∧ x.2 ≤ B) → sumQ lenQ L ≤ B - A
 | _, [], A, B, _, hab, _, _ => by simp only [sumQ]; grind
 | 0, _ :: _, _, _, h, _, _, _ => by simp at h
 | k + 1, x :: T, A, B, hk, hab, hp, hin => by
   rw [List.pairwise_cons] at hp
   have hx := hin x (by simp)
   have hk' : T.length ≤ k := by simp at hk; omega
   have s := sumQ_split lenQ (fun y => decide (x.2 ≤ y.1)) T
   have r := pack_le k (L := T.filter fun y => decide (x.2 ≤ y.1)) (A := x.2) (B := B) (Nat.le_trans (List.length_filter_le ..) hk') hx.2.2 (hp.2.filter _) fun y hy => by
    rw [List.mem_filter, decide_eq_true_eq] at hy
    have := hin y (List.mem_cons_of_mem _ hy.1)
    exact ⟨hy.2, this.2⟩
   have l := pack_le k (L := T.filter fun y => !decide (x.2 ≤ y.1)) (A := A) (B := x.1) (Nat.le_trans (List.length_filter_le ..) hk') hx.1 (hp.2.filter _) fun y hy => by
    rw [List.mem_filter, Bool.not_eq_true', decide_eq_false_iff_not] at hy
    have := hin y (List.mem_cons_of_mem _ hy.1)
    have := (hp.1 y hy.1).resolve_left hy.2
    grind
   simp only [sumQ]
   unfold lenQ at *
   grind
theorem pack_next {L : List (Rat × Rat)} {A B : Rat} (hp : L.Pairwise asideQ) (hin : ∀ x ∈ L, A ≤ x.1 ∧ x.1 < x.2 ∧ x.2 ≤ B) (hs : sumQ lenQ L = B - A) {x : Rat × Rat} (hx : x ∈ L) (hb : x.2 < B) : ∃ y ∈ L, y.1 = x.2 := by
 obtain ⟨s, t, rfl⟩ := List.append_of_mem hx
 have perm : (s ++ x :: t).Perm (x :: (s ++ t)) := List.perm_middle
 have hsym : ∀ {a b : Rat × Rat}, asideQ a b → asideQ b a := fun h => Or.symm h
 have hp' : (x :: (s ++ t)).Pairwise asideQ := (perm.pairwise_iff hsym).1 hp
 rw [sumQ_perm perm] at hs
 rw [List.pairwise_cons] at hp'
 generalize hT : s ++ t = T at *
 have hmem : ∀ y ∈ T, y ∈ s ++ x :: t := fun y hy => perm.mem_iff.2 (List.mem_cons_of_mem _ hy)
 have hxx := hin x hx
 apply Classical.byContradiction
 intro hn
 have s2 := sumQ_split lenQ (fun y => decide (x.2 ≤ y.1)) T
 have l := pack_le _ (L := T.filter fun y => !decide (x.2 ≤ y.1)) (A := A) (B := x.1) (Nat.le_refl _) hxx.1 (hp'.2.filter _) fun y hy => by
  rw [List.mem_filter, Bool.not_eq_true', decide_eq_false_iff_not] at hy
  have := hin y (hmem y hy.1)
  have := (hp'.1 y hy.1).resolve_left hy.2
  grind
 have r : sumQ lenQ (T.filter fun y => decide (x.2 ≤ y.1)) < B - x.2 := by
  by_cases he : (T.filter fun y => decide (x.2 ≤ y.1)) = []
  · rw [he]; simp only [sumQ]; grind
  · obtain ⟨m, m1, m2⟩ := least_ex he
    have hm := m1
    rw [List.mem_filter, decide_eq_true_eq] at hm
    have hmi := hin m (hmem m hm.1)
    have hne : m.1 ≠ x.2 := fun z => hn ⟨m, hmem m hm.1, z⟩
    have := pack_le _ (L := T.filter fun y => decide (x.2 ≤ y.1)) (A := m.1) (B := B) (Nat.le_refl _) (by grind) (hp'.2.filter _) fun y hy => by
     have h2 := m2 y hy
     rw [List.mem_filter, decide_eq_true_eq] at hy
     have := hin y (hmem y hy.1)
     exact ⟨h2, this.2⟩
    grind
 simp only [sumQ] at hs
 unfold lenQ at *
 grind
end Go.Proofs.Ytollcjadobpfdaa.Rw
namespace Go.Proofs.Ytollcjadobpfdaa.Rw
set_option linter.unusedVariables false
set_option linter.unusedSimpArgs false
section
variable {p : Int → Int × Int} {K n : Int}
def xAt (p : Int → Int × Int) (K : Int) (e : Int × Int) (i : Nat) : Rat :=
 ((p e.1).1 : Rat) + (((phiK K (p (i : Int)) : Rat) + (phiK K (p ((i : Int) + 1)) : Rat)) / 2 - (phiK K (p e.1) : Rat)) * ((((p e.2).1 : Rat) - ((p e.1).1 : Rat)) / ((phiK K (p e.2) : Rat) - (phiK K (p e.1) : Rat)))
def levE (p : Int → Int × Int) (K : Int) (e : Int × Int) : Int := (phiK K (p e.2) - phiK K (p e.1)) * ((p e.1).1 + (p e.2).1)
theorem phi_ne (hr : Rising p K n) {a b : Int} (h0 : 0 ≤ a) (h1 : a < b) (h2 : b < n) : (phiK K (p b) : Rat) - (phiK K (p a) : Rat) ≠ 0 := fun z => by
 have z : (phiK K (p b) : Rat) = (phiK K (p a) : Rat) := by grind
 have := Rat.intCast_inj.1 z
 have := hr a b h0 h1 h2
 omega
open Classical in
theorem lev_levels (hr : Rising p K n) {N : Nat} (hN : (N : Int) + 1 = n) {e : Int × Int} (h0 : 0 ≤ e.1) (h1 : e.1 < e.2) (h2 : e.2 < n) :
 (levE p K e : Rat) = sumN (fun i => if upAt e i then gapQ p K i * (2 * xAt p K e i) else 0) N := by
 have hne := phi_ne hr h0 h1 h2
 have t := sumN_tele (fun i : Nat => 2 * ((p e.1).1 : Rat) * (phiK K (p (i : Int)) : Rat) + ((phiK K (p (i : Int)) : Rat) - (phiK K (p e.1) : Rat)) * ((phiK K (p (i : Int)) : Rat) - (phiK K (p e.1) : Rat)) * ((((p e.2).1 : Rat) - ((p e.1).1 : Rat)) / ((phiK K (p e.2) : Rat) - (phiK K (p e.1) : Rat)))) (a := e.1.toNat) (b := e.2.toNat) (by omega) (N := N) (by omega)
 have e1 : ((e.1.toNat : Nat) : Int) = e.1 := by omega
 have e2 : ((e.2.toNat : Nat) : Int) = e.2 := by omega
 simp only [e1, e2] at t
 have hs : ∀ i, i < N → (if upAt e i then gapQ p K i * (2 * xAt p K e i) else 0) = (if e.1.toNat ≤ i ∧ i < e.2.toNat then (2 * ((p e.1).1 : Rat) * (phiK K (p (((i + 1 : Nat)) : Int)) : Rat) + ((phiK K (p (((i + 1 : Nat)) : Int)) : Rat) - (phiK K (p e.1) : Rat)) * ((phiK K (p (((i + 1 : Nat)) : Int)) : Rat) - (phiK K (p e.1) : Rat)) * ((((p e.2).1 : Rat) - ((p e.1).1 : Rat)) / ((phiK K (p e.2) : Rat) - (phiK K (p e.1) : Rat)))) - (2 * ((p e.1).1 : Rat) * (phiK K (p (i : Int)) : Rat) + ((phiK K (p (i : Int)) : Rat) - (phiK K (p e.1) : Rat)) * ((phiK K (p (i : Int)) : Rat) - (phiK K (p e.1) : Rat)) * ((((p e.2).1 : Rat) - ((p e.1).1 : Rat)) / ((phiK K (p e.2) : Rat) - (phiK K (p e.1) : Rat)))) else 0) := fun i hi => by
  by_cases c : upAt e i
  · have c' := c
    unfold upAt at c'
    rw [if_pos c, if_pos ⟨by omega, by omega⟩]
    unfold gapQ xAt
    rw [show (((i + 1 : Nat)) : Int) = (i : Int) + 1 by omega]
    grind
  · rw [if_neg c, if_neg (fun z => c ⟨by unfold upAt at c; omega, by unfold upAt at c; omega⟩)]
 rw [sumN_congr hs, t]
 have el : (levE p K e : Rat) = ((phiK K (p e.2) : Rat) - (phiK K (p e.1) : Rat)) * (((p e.1).1 : Rat) + ((p e.2).1 : Rat)) := by
  unfold levE; rw [Rat.intCast_mul, Rat.intCast_sub, Rat.intCast_add]
 rw [el]
 grind
theorem lev_cell (c : Cell3) : crossI (p c.1) (p c.2.1) (p c.2.2) = levE p K (c.1, c.2.1) + levE p K (c.2.1, c.2.2) + levE p K (c.2.2, c.1) := by
 simp only [levE, crossI, phiK]; grind
theorem lev_rev (e : Int × Int) : levE p K (e.2, e.1) = - levE p K e := by simp only [levE]; grind
theorem lev_shoe (e : Int × Int) : shoe p e = levE p K e - (phiK K (p e.2) * (p e.2).1 - phiK K (p e.1) * (p e.1).1) := by simp only [levE, shoe, phiK]; grind
end
end Go.Proofs.Ytollcjadobpfdaa.Rw
