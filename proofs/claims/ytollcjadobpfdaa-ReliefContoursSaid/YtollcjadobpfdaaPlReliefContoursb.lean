/- Plain laws for ReliefContours. No condition. -/
import Derived.Test.YtollcjadobpfdaaPlReliefContoursa
namespace Go.Proofs.Ytollcjadobpfdaa.Rw
set_option linter.unusedVariables false
set_option linter.unusedSimpArgs false
section
variable {p : Int → Int × Int} {K n : Int}
def sideAt (p : Int → Int × Int) (K : Int) (e f : Int × Int) (i : Nat) : Int :=
 (phiK K (p f.2) * 2 - (phiK K (p (i : Int)) + phiK K (p ((i : Int) + 1)))) * crossI (p e.1) (p e.2) (p f.1) + ((phiK K (p (i : Int)) + phiK K (p ((i : Int) + 1))) - phiK K (p f.1) * 2) * crossI (p e.1) (p e.2) (p f.2)
def nxAt (p : Int → Int × Int) (K : Int) (e : Int × Int) (i : Nat) : Int :=
 (phiK K (p e.2) * 2 - (phiK K (p (i : Int)) + phiK K (p ((i : Int) + 1)))) * (p e.1).1 + ((phiK K (p (i : Int)) + phiK K (p ((i : Int) + 1))) - phiK K (p e.1) * 2) * (p e.2).1
theorem side_nx (e f : Int × Int) (i : Nat) : sideAt p K e f i = nxAt p K e i * (phiK K (p f.2) - phiK K (p f.1)) - nxAt p K f i * (phiK K (p e.2) - phiK K (p e.1)) := by
 unfold sideAt nxAt
 generalize phiK K (p (i : Int)) + phiK K (p ((i : Int) + 1)) = s
 simp only [crossI, phiK]; grind
theorem nx_x {e : Int × Int} {i : Nat} (he : (phiK K (p e.2) : Rat) - (phiK K (p e.1) : Rat) ≠ 0) : (nxAt p K e i : Rat) = 2 * ((phiK K (p e.2) : Rat) - (phiK K (p e.1) : Rat)) * xAt p K e i := by
 unfold nxAt xAt
 simp only [Rat.intCast_add, Rat.intCast_sub, Rat.intCast_mul]
 have h2 : ((2 : Int) : Rat) = 2 := rfl
 rw [h2]
 grind
theorem side_x {e f : Int × Int} {i : Nat} (he : (phiK K (p e.2) : Rat) - (phiK K (p e.1) : Rat) ≠ 0) (hf : (phiK K (p f.2) : Rat) - (phiK K (p f.1) : Rat) ≠ 0) :
 (sideAt p K e f i : Rat) = 2 * (((phiK K (p e.2) : Rat) - (phiK K (p e.1) : Rat)) * ((phiK K (p f.2) : Rat) - (phiK K (p f.1) : Rat))) * (xAt p K e i - xAt p K f i) := by
 rw [side_nx]
 simp only [Rat.intCast_sub, Rat.intCast_mul]
 rw [nx_x he, nx_x hf]
 grind
theorem x_le (hr : Rising p K n) {e f : Int × Int} {i : Nat} (h1 : (i : Int) + 1 < n) (e0 : 0 ≤ e.1) (e1 : e.1 < e.2) (e2 : e.2 < n) (f0 : 0 ≤ f.1) (f1 : f.1 ≤ (i : Int)) (f2 : (i : Int) < f.2) (f3 : f.2 < n)
 (g1 : 0 ≤ crossI (p e.1) (p e.2) (p f.1)) (g2 : 0 ≤ crossI (p e.1) (p e.2) (p f.2)) : xAt p K f i ≤ xAt p K e i := by
 have lo := (midV_lt hr (i := (i : Int)) (by omega) h1 f0 (by omega)).1 f1
 have hi := (midV_lt hr (i := (i : Int)) (by omega) h1 (by omega) f3).2 f2
 rw [midV_phi] at lo hi
 simp only [midV] at lo hi
 have s : 0 ≤ sideAt p K e f i := by
  unfold sideAt
  have := Int.mul_nonneg (show 0 ≤ phiK K (p f.2) * 2 - (phiK K (p (i : Int)) + phiK K (p ((i : Int) + 1))) by omega) g1
  have := Int.mul_nonneg (show 0 ≤ (phiK K (p (i : Int)) + phiK K (p ((i : Int) + 1))) - phiK K (p f.1) * 2 by omega) g2
  omega
 have hx := side_x (p := p) (K := K) (e := e) (f := f) (i := i) (phi_ne hr e0 e1 e2) (phi_ne hr f0 (by omega) f3)
 have d1 := hr e.1 e.2 e0 e1 e2
 have d2 := hr f.1 f.2 f0 (by omega) f3
 have q1 : (0 : Rat) < (phiK K (p e.2) : Rat) - (phiK K (p e.1) : Rat) := by have := Rat.intCast_lt_intCast.2 d1; grind
 have q2 : (0 : Rat) < (phiK K (p f.2) : Rat) - (phiK K (p f.1) : Rat) := by have := Rat.intCast_lt_intCast.2 d2; grind
 have q3 := Rat.mul_pos q1 q2
 have q4 : (0 : Rat) ≤ (sideAt p K e f i : Rat) := by have := Rat.intCast_le_intCast.2 s; simpa using this
 generalize (phiK K (p e.2) : Rat) - (phiK K (p e.1) : Rat) = A at *
 generalize (phiK K (p f.2) : Rat) - (phiK K (p f.1) : Rat) = B at *
 generalize xAt p K e i = X at *
 generalize xAt p K f i = Y at *
 by_cases c : Y ≤ X
 · exact c
 · have c1 : 0 < Y - X := by grind
   have := Rat.mul_pos q3 c1
   grind
end
end Go.Proofs.Ytollcjadobpfdaa.Rw
namespace Go.Proofs.Ytollcjadobpfdaa.Rw
set_option linter.unusedVariables false
set_option linter.unusedSimpArgs false
section
variable {p : Int → Int × Int} {K n : Int} {c d : Cell3} {cs : List Cell3}
structure MeshM (p : Int → Int × Int) (K n : Int) (cs : List Cell3) (M : List (Int × Int)) : Prop where
 kpos : 0 < K
 rise : Rising p K n
 cell : ∀ c ∈ cs, CellOK p n c
 nod : cs.Nodup
 apart : ∀ c ∈ cs, ∀ d ∈ cs, c ≠ d → partedBy p c d ∨ partedBy p d c
 empty : ∀ c ∈ cs, ∀ r, 0 ≤ r → r < n → ¬ cornerC c r → ¬ ∀ e ∈ edgesC c, 0 ≤ crossI (p e.1) (p e.2) (p r)
 used : ∀ i, 0 ≤ i → i < n → ∃ c ∈ cs, cornerC c i
 mnod : M.Nodup
 mmax : ∀ e, e ∈ M ↔ MaxE p n e ∧ e.1 ≠ e.2
 area : sumF (fun c => crossI (p c.1) (p c.2.1) (p c.2.2)) cs = sumF (shoe p) M
theorem not_parted (hc : CellOK p n c) (hd : CellOK p n d) {e : Int × Int} (h1 : e ∈ edgesC c) (h2 : e ∈ edgesC d) : ¬ partedBy p c d := by
 obtain ⟨x, x1, x2, x3, x4⟩ := edge_rot (p := p) h1 hc.ccw
 obtain ⟨y, y1, y2, y3, y4⟩ := edge_rot (p := p) h2 hd.ccw
 rintro ⟨f, hf, k1, k2, k3⟩
 have k : ∀ r, cornerC d r → crossI (p f.1) (p f.2) (p r) ≤ 0 := fun r hr => by
  rcases hr with rfl | rfl | rfl
  · exact k1
  · exact k2
  · exact k3
 have r1 := crossI_rot (p e.1) (p e.2) (p x)
 have r2 := crossI_rot (p e.2) (p x) (p e.1)
 rcases (x1 f).1 hf with rfl | rfl | rfl
 · have := k y ((y2 y).2 (.inr (.inr rfl))); omega
 · have := k e.1 ((y2 e.1).2 (.inl rfl)); simp only at this; omega
 · have := k e.2 ((y2 e.2).2 (.inr (.inl rfl))); simp only at this; omega
theorem edgesC_nodup (hc : CellOK p n c) : (edgesC c).Nodup := by
 have := hc.b; have := hc.d
 simp only [edgesC, List.nodup_cons, List.mem_cons, List.not_mem_nil, or_false, Prod.mk.injEq, not_or, not_and, not_false_eq_true, List.nodup_nil, and_true]
 refine ⟨⟨fun h => ?_, fun h => ?_⟩, fun h => ?_⟩ <;> omega
theorem edges_nodup : ∀ {cs : List Cell3}, cs.Nodup → (∀ c ∈ cs, CellOK p n c) → (∀ c ∈ cs, ∀ d ∈ cs, c ≠ d → partedBy p c d ∨ partedBy p d c) → (edgesL cs).Nodup
 | [], _, _, _ => List.nodup_nil
 | c :: cs, hn, hc, ha => by
   rw [List.nodup_cons] at hn
   unfold edgesL
   rw [List.flatMap_cons, List.nodup_append]
   refine ⟨edgesC_nodup (hc c (by simp)), edges_nodup hn.2 (fun d hd => hc d (by simp [hd])) (fun a h1 b h2 => ha a (by simp [h1]) b (by simp [h2])), fun a h1 b h2 e => ?_⟩
   subst e
   obtain ⟨d, hd, h3⟩ := List.mem_flatMap.1 h2
   have k1 := hc c (by simp)
   have k2 := hc d (by simp [hd])
   rcases ha c (by simp) d (by simp [hd]) (fun z => hn.1 (z ▸ hd)) with g | g
   · exact not_parted k1 k2 h1 h3 g
   · exact not_parted k2 k1 h3 h1 g
theorem MeshM.rim_one {M : List (Int × Int)} (h : MeshM p K n cs M) {e : Int × Int} (ho : OuterE p n e) : (e.2, e.1) ∉ edgesL cs := fun hm => by
 obtain ⟨d, hd, he⟩ := List.mem_flatMap.1 hm
 have hok := h.cell d hd
 obtain ⟨y, y1, y2, y3, y4⟩ := edge_rot (p := p) he hok.ccw
 have cy := hok.corner ((y2 y).2 (.inr (.inr rfl)))
 have := ho.left y cy.1 cy.2
 have := crossI_swap (p e.1) (p e.2) (p y)
 simp only at y3
 omega
end
end Go.Proofs.Ytollcjadobpfdaa.Rw
namespace Go.Proofs.Ytollcjadobpfdaa.Rw
set_option linter.unusedVariables false
set_option linter.unusedSimpArgs false
section
variable {p : Int → Int × Int} {K n : Int} {c d : Cell3}
theorem x_lt (hr : Rising p K n) {e f : Int × Int} {i : Nat} (e0 : 0 ≤ e.1) (e1 : e.1 < e.2) (e2 : e.2 < n) (f0 : 0 ≤ f.1) (f1 : f.1 < f.2) (f3 : f.2 < n) (s : 0 < sideAt p K e f i) : xAt p K f i < xAt p K e i := by
 have hx := side_x (p := p) (K := K) (e := e) (f := f) (i := i) (phi_ne hr e0 e1 e2) (phi_ne hr f0 f1 f3)
 have d1 := hr e.1 e.2 e0 e1 e2
 have d2 := hr f.1 f.2 f0 f1 f3
 have q1 : (0 : Rat) < (phiK K (p e.2) : Rat) - (phiK K (p e.1) : Rat) := by have := Rat.intCast_lt_intCast.2 d1; grind
 have q2 : (0 : Rat) < (phiK K (p f.2) : Rat) - (phiK K (p f.1) : Rat) := by have := Rat.intCast_lt_intCast.2 d2; grind
 have q3 := Rat.mul_pos q1 q2
 have q4 : (0 : Rat) < (sideAt p K e f i : Rat) := by have := Rat.intCast_lt_intCast.2 s; simpa using this
 generalize (phiK K (p e.2) : Rat) - (phiK K (p e.1) : Rat) = A at *
 generalize (phiK K (p f.2) : Rat) - (phiK K (p f.1) : Rat) = B at *
 generalize xAt p K e i = X at *
 generalize xAt p K f i = Y at *
 by_cases g : Y < X
 · exact g
 · by_cases g2 : Y = X
   · subst g2; grind
   · have c1 : 0 < Y - X := by grind
     have := Rat.mul_pos q3 c1
     grind
theorem sideAt_pos (hr : Rising p K n) {e f : Int × Int} {i : Nat} (h1 : (i : Int) + 1 < n) (f0 : 0 ≤ f.1) (f1 : f.1 ≤ (i : Int)) (f2 : (i : Int) < f.2) (f3 : f.2 < n)
 (g1 : 0 ≤ crossI (p e.1) (p e.2) (p f.1)) (g2 : 0 ≤ crossI (p e.1) (p e.2) (p f.2)) (g : 0 < crossI (p e.1) (p e.2) (p f.1) ∨ 0 < crossI (p e.1) (p e.2) (p f.2)) : 0 < sideAt p K e f i := by
 have lo := (midV_lt hr (i := (i : Int)) (by omega) h1 f0 (by omega)).1 f1
 have hi := (midV_lt hr (i := (i : Int)) (by omega) h1 (by omega) f3).2 f2
 rw [midV_phi] at lo hi
 simp only [midV] at lo hi
 unfold sideAt
 have k1 := Int.mul_nonneg (show 0 ≤ phiK K (p f.2) * 2 - (phiK K (p (i : Int)) + phiK K (p ((i : Int) + 1))) by omega) g1
 have k2 := Int.mul_nonneg (show 0 ≤ (phiK K (p (i : Int)) + phiK K (p ((i : Int) + 1))) - phiK K (p f.1) * 2 by omega) g2
 rcases g with g | g
 · have := Int.mul_pos (show 0 < phiK K (p f.2) * 2 - (phiK K (p (i : Int)) + phiK K (p ((i : Int) + 1))) by omega) g
   omega
 · have := Int.mul_pos (show 0 < (phiK K (p (i : Int)) + phiK K (p ((i : Int) + 1))) - phiK K (p f.1) * 2 by omega) g
   omega
theorem cell_places (hr : Rising p K n) (hc : CellOK p n c) {i : Nat} (h1 : (i : Int) + 1 < n) {a b : Int} (ha : cornerC c a) (hb : cornerC c b) (ga : a ≤ (i : Int)) (gb : (i : Int) < b) :
 ∃ u w : Int × Int, u ∈ edgesC c ∧ (w.2, w.1) ∈ edgesC c ∧ upAt u i ∧ upAt w i ∧ (∀ x, x ∈ edgesC c → upAt x i → x = u) ∧ (∀ x : Int × Int, (x.2, x.1) ∈ edgesC c → upAt x i → x = w) ∧ xAt p K w i < xAt p K u i := by
 obtain ⟨e, e1, e2⟩ := cell_edge hr hc (i := (i : Int)) (by omega) h1 ha hb ga gb
 have hw : 0 < (midV p K (i : Int)).2.2 := by simp [midV]
 obtain ⟨u, w, a1, a2, a3, a4, a5, a6, a7⟩ := cell_level hr hc hw (midV_ne hr (by omega) h1) e1 e2
 have cu := edge_corner a1
 have cw := edge_corner a2
 have ru1 := hc.corner cu.1; have ru2 := hc.corner cu.2
 have rw1 := hc.corner cw.2; have rw2 := hc.corner cw.1
 simp only at rw1 rw2 cw
 have tu := (midV_thru hr (i := (i : Int)) (by omega) h1 ru1.1 ru1.2 ru2.1 ru2.2).1 a3
 have tw := (midV_thru hr (i := (i : Int)) (by omega) h1 rw1.1 rw1.2 rw2.1 rw2.2).1 a4
 refine ⟨u, w, a1, a2, tu, tw, fun x hx ht => ?_, fun x hx ht => ?_, ?_⟩
 · have q := edge_corner hx
   have q1 := hc.corner q.1; have q2 := hc.corner q.2
   exact a5 x hx ((midV_thru hr (i := (i : Int)) (by omega) h1 q1.1 q1.2 q2.1 q2.2).2 ht)
 · have q := edge_corner hx
   have q1 := hc.corner q.2; have q2 := hc.corner q.1
   exact a6 x hx ((midV_thru hr (i := (i : Int)) (by omega) h1 q1.1 q1.2 q2.1 q2.2).2 ht)
 · obtain ⟨x, x1, x2, x3, x4⟩ := edge_rot (p := p) a1 hc.ccw
   have s := crossI_self (p u.1) (p u.2)
   have nn : ∀ r, cornerC c r → 0 ≤ crossI (p u.1) (p u.2) (p r) := fun r hr' => by
    rcases (x2 r).1 hr' with rfl | rfl | rfl
    · omega
    · omega
    · omega
   have hx1 : x ≠ u.1 := fun z => by rw [z] at x3; omega
   have hx2 : x ≠ u.2 := fun z => by rw [z] at x3; omega
   refine x_lt hr ru1.1 (by omega) ru2.2 rw1.1 (by omega) rw2.2 (sideAt_pos hr h1 rw1.1 tw.1 tw.2 rw2.2 (nn _ cw.2) (nn _ cw.1) ?_)
   rcases (x2 w.1).1 cw.2 with g | g | g
   · rcases (x2 w.2).1 cw.1 with g2 | g2 | g2
     · omega
     · exfalso
       have := (x1 _).1 a2
       rw [g, g2] at this
       simp only [Prod.mk.injEq] at this
       rcases this with z | z | z
       · have := congrArg Prod.fst z; simp only at this; omega
       · omega
       · omega
     · right; rw [g2]; exact x3
   · rcases (x2 w.2).1 cw.1 with g2 | g2 | g2
     · omega
     · omega
     · right; rw [g2]; exact x3
   · left; rw [g]; exact x3
end
end Go.Proofs.Ytollcjadobpfdaa.Rw
namespace Go.Proofs.Ytollcjadobpfdaa.Rw
set_option linter.unusedVariables false
set_option linter.unusedSimpArgs false
section
variable {p : Int → Int × Int} {K n : Int} {c d : Cell3}
theorem x_ge (hr : Rising p K n) {e f : Int × Int} {i : Nat} (h1 : (i : Int) + 1 < n) (e0 : 0 ≤ e.1) (e1 : e.1 < e.2) (e2 : e.2 < n) (f0 : 0 ≤ f.1) (f1 : f.1 ≤ (i : Int)) (f2 : (i : Int) < f.2) (f3 : f.2 < n)
 (g1 : crossI (p e.1) (p e.2) (p f.1) ≤ 0) (g2 : crossI (p e.1) (p e.2) (p f.2) ≤ 0) : xAt p K e i ≤ xAt p K f i := by
 have lo := (midV_lt hr (i := (i : Int)) (by omega) h1 f0 (by omega)).1 f1
 have hi := (midV_lt hr (i := (i : Int)) (by omega) h1 (by omega) f3).2 f2
 rw [midV_phi] at lo hi
 simp only [midV] at lo hi
 have s : sideAt p K e f i ≤ 0 := by
  unfold sideAt
  have k1 := Int.mul_nonneg (show 0 ≤ phiK K (p f.2) * 2 - (phiK K (p (i : Int)) + phiK K (p ((i : Int) + 1))) by omega) (show 0 ≤ - crossI (p e.1) (p e.2) (p f.1) by omega)
  have k2 := Int.mul_nonneg (show 0 ≤ (phiK K (p (i : Int)) + phiK K (p ((i : Int) + 1))) - phiK K (p f.1) * 2 by omega) (show 0 ≤ - crossI (p e.1) (p e.2) (p f.2) by omega)
  rw [Int.mul_neg] at k1 k2
  omega
 by_cases g : xAt p K e i ≤ xAt p K f i
 · exact g
 · have hx := side_x (p := p) (K := K) (e := e) (f := f) (i := i) (phi_ne hr e0 e1 e2) (phi_ne hr f0 (by omega) f3)
   have d1 := hr e.1 e.2 e0 e1 e2
   have d2 := hr f.1 f.2 f0 (by omega) f3
   have q1 : (0 : Rat) < (phiK K (p e.2) : Rat) - (phiK K (p e.1) : Rat) := by have := Rat.intCast_lt_intCast.2 d1; grind
   have q2 : (0 : Rat) < (phiK K (p f.2) : Rat) - (phiK K (p f.1) : Rat) := by have := Rat.intCast_lt_intCast.2 d2; grind
   have q3 := Rat.mul_pos q1 q2
   have q4 : (sideAt p K e f i : Rat) ≤ 0 := by have := Rat.intCast_le_intCast.2 s; simpa using this
   generalize (phiK K (p e.2) : Rat) - (phiK K (p e.1) : Rat) = A at *
   generalize (phiK K (p f.2) : Rat) - (phiK K (p f.1) : Rat) = B at *
   generalize xAt p K e i = X at *
   generalize xAt p K f i = Y at *
   have c1 : 0 < X - Y := by grind
   have := Rat.mul_pos q3 c1
   grind
theorem corners_left (hc : CellOK p n c) {f : Int × Int} (hf : f ∈ edgesC c) {r : Int} (hr : cornerC c r) : 0 ≤ crossI (p f.1) (p f.2) (p r) := by
 obtain ⟨x, x1, x2, x3, x4⟩ := edge_rot (p := p) hf hc.ccw
 have s := crossI_self (p f.1) (p f.2)
 rcases (x2 r).1 hr with rfl | rfl | rfl <;> omega
theorem parted_aside (hr : Rising p K n) (hc : CellOK p n c) (hd : CellOK p n d) {i : Nat} (h1 : (i : Int) + 1 < n) (hp : partedBy p c d) {u w u' w' : Int × Int}
 (cu : cornerC c u.1 ∧ cornerC c u.2) (cw : cornerC c w.1 ∧ cornerC c w.2) (du : cornerC d u'.1 ∧ cornerC d u'.2) (dw : cornerC d w'.1 ∧ cornerC d w'.2)
 (tu : upAt u i) (tw : upAt w i) (tu' : upAt u' i) (tw' : upAt w' i) : xAt p K u i ≤ xAt p K w' i ∨ xAt p K u' i ≤ xAt p K w i := by
 obtain ⟨f, hf, k1, k2, k3⟩ := hp
 have k : ∀ r, cornerC d r → crossI (p f.1) (p f.2) (p r) ≤ 0 := fun r hr => by
  rcases hr with rfl | rfl | rfl
  · exact k1
  · exact k2
  · exact k3
 have cf := edge_corner hf
 have f1 := hc.corner cf.1; have f2 := hc.corner cf.2
 have u1 := hc.corner cu.1; have u2 := hc.corner cu.2; have w1 := hc.corner cw.1; have w2 := hc.corner cw.2
 have u1' := hd.corner du.1; have u2' := hd.corner du.2; have w1' := hd.corner dw.1; have w2' := hd.corner dw.2
 have hne : f.1 ≠ f.2 := fun z => by
  obtain ⟨x, x1, x2, x3, x4⟩ := edge_rot (p := p) hf hc.ccw
  rw [z] at x3
  have : crossI (p f.2) (p f.2) (p x) = 0 := by simp only [crossI]; grind
  omega
 rcases Int.lt_or_gt_of_ne hne with g | g
 · left
   have a := x_le hr h1 f1.1 g f2.2 u1.1 tu.1 tu.2 u2.2 (corners_left hc hf cu.1) (corners_left hc hf cu.2)
   have b := x_ge hr h1 f1.1 g f2.2 w1'.1 tw'.1 tw'.2 w2'.2 (k _ dw.1) (k _ dw.2)
   grind
 · right
   have sw := fun r => crossI_swap (p f.1) (p f.2) (p r)
   have a := x_le hr (e := (f.2, f.1)) h1 f2.1 g f1.2 u1'.1 tu'.1 tu'.2 u2'.2 (by have := k _ du.1; have := sw u'.1; simp only; omega) (by have := k _ du.2; have := sw u'.2; simp only; omega)
   have b := x_ge hr (e := (f.2, f.1)) h1 f2.1 g f1.2 w1.1 tw.1 tw.2 w2.2 (by have := corners_left hc hf cw.1; have := sw w.1; simp only; omega) (by have := corners_left hc hf cw.2; have := sw w.2; simp only; omega)
   grind
end
end Go.Proofs.Ytollcjadobpfdaa.Rw
namespace Go.Proofs.Ytollcjadobpfdaa.Rw
set_option linter.unusedVariables false
set_option linter.unusedSimpArgs false
section
variable {p : Int → Int × Int} {K n : Int} {c : Cell3}
def upC (c : Cell3) (k : Nat) : Int × Int := if c.2.1 < c.2.2 then (if (k : Int) < c.2.1 then (c.1, c.2.1) else (c.2.1, c.2.2)) else (c.1, c.2.1)
def dnC (c : Cell3) (k : Nat) : Int × Int := if c.2.1 < c.2.2 then (c.1, c.2.2) else (if (k : Int) < c.2.2 then (c.1, c.2.2) else (c.2.2, c.2.1))
def atC (c : Cell3) (k : Nat) : Prop := c.1 ≤ (k : Int) ∧ ((k : Int) < c.2.1 ∨ (k : Int) < c.2.2)
theorem sumN_sub3 {f g h s : Nat → Rat} {N : Nat} (hk : ∀ k, k < N → f k + g k - h k = s k) : sumN f N + sumN g N - sumN h N = sumN s N := by
 induction N with
 | zero => simp only [sumN]; grind
 | succ N ih =>
   have h1 := ih fun k hk' => hk k (by omega)
   have h2 := hk N (by omega)
   simp only [sumN]
   grind
open Classical in
theorem cell_sum (hr : Rising p K n) (hc : CellOK p n c) {N : Nat} (hN : (N : Int) + 1 = n) :
 (crossI (p c.1) (p c.2.1) (p c.2.2) : Rat) = sumN (fun k => if atC c k then gapQ p K k * (2 * (xAt p K (upC c k) k - xAt p K (dnC c k) k)) else 0) N := by
 obtain ⟨i, y, z⟩ := c
 obtain ⟨lo, hb, hd, bn, dn, ccw⟩ := hc
 simp only at lo hb hd bn dn ccw
 have hyz : y ≠ z := fun h => by subst h; rw [(crossI_self (p i) (p y)).2] at ccw; omega
 rw [lev_cell (p := p) (K := K) (i, y, z)]
 simp only
 rcases Int.lt_or_gt_of_ne hyz with g | g
 · rw [show levE p K (z, i) = - levE p K (i, z) from lev_rev (i, z), Rat.intCast_add, Rat.intCast_add, Rat.intCast_neg]
   rw [lev_levels hr hN (e := (i, y)) lo hb bn, lev_levels hr hN (e := (y, z)) (by show 0 ≤ y; omega) g dn, lev_levels hr hN (e := (i, z)) lo hd dn]
   rw [← Rat.sub_eq_add_neg]
   refine sumN_sub3 fun k hk => ?_
   unfold upAt atC upC dnC
   simp only [g, if_true]
   by_cases a : i ≤ (k : Int)
   · by_cases b : (k : Int) < y
     · simp only [a, b, true_and, if_true, true_or]
       rw [if_neg (by omega), if_pos (by omega)]; grind
     · by_cases d : (k : Int) < z
       · rw [if_neg (by omega), if_pos (by omega), if_pos (by omega), if_pos (by omega), if_neg b]; grind
       · rw [if_neg (by omega), if_neg (by omega), if_neg (by omega), if_neg (by omega)]; grind
   · rw [if_neg (by omega), if_neg (by omega), if_neg (by omega), if_neg (by omega)]; grind
 · have g' : ¬ y < z := by omega
   rw [show levE p K (z, i) = - levE p K (i, z) from lev_rev (i, z), show levE p K (y, z) = - levE p K (z, y) from lev_rev (z, y), Rat.intCast_add, Rat.intCast_add, Rat.intCast_neg, Rat.intCast_neg]
   rw [lev_levels hr hN (e := (i, y)) lo hb bn, lev_levels hr hN (e := (z, y)) (by show 0 ≤ z; omega) g bn, lev_levels hr hN (e := (i, z)) lo hd dn]
   have key : ∀ {f h s t : Nat → Rat}, (∀ k, k < N → t k + h k + s k = f k) → sumN f N + - sumN h N + - sumN s N = sumN t N := fun {f h s t} hk => by
    have e : sumN f N = sumN t N + sumN h N + sumN s N := by
     rw [← sumN_add, ← sumN_add]
     exact sumN_congr fun k hk' => (hk k hk').symm
    grind
   refine key fun k hk => ?_
   unfold upAt atC upC dnC
   simp only [g', if_false]
   by_cases a : i ≤ (k : Int)
   · by_cases d : (k : Int) < z
     · rw [if_pos (show i ≤ (k : Int) ∧ ((k : Int) < y ∨ (k : Int) < z) by omega), if_pos d, if_neg (show ¬ (z ≤ (k : Int) ∧ (k : Int) < y) by omega), if_pos (show i ≤ (k : Int) ∧ (k : Int) < z by omega), if_pos (show i ≤ (k : Int) ∧ (k : Int) < y by omega)]; grind
     · by_cases b : (k : Int) < y
       · rw [if_pos (show i ≤ (k : Int) ∧ ((k : Int) < y ∨ (k : Int) < z) by omega), if_neg d, if_pos (show z ≤ (k : Int) ∧ (k : Int) < y by omega), if_neg (show ¬ (i ≤ (k : Int) ∧ (k : Int) < z) by omega), if_pos (show i ≤ (k : Int) ∧ (k : Int) < y by omega)]; grind
       · rw [if_neg (by omega), if_neg (by omega), if_neg (by omega), if_neg (by omega)]; grind
   · rw [if_neg (by omega), if_neg (by omega), if_neg (by omega), if_neg (by omega)]; grind
end
end Go.Proofs.Ytollcjadobpfdaa.Rw
namespace Go.Proofs.Ytollcjadobpfdaa.Rw
set_option linter.unusedVariables false
set_option linter.unusedSimpArgs false
section
variable {p : Int → Int × Int} {K n : Int} {c : Cell3}
theorem up_in (hc : CellOK p n c) {i : Nat} (h : atC c i) : upC c i ∈ edgesC c ∧ upAt (upC c i) i := by
 have := hc.b; have := hc.d
 unfold atC at h
 unfold upC upAt
 simp only [edgesC, List.mem_cons, List.not_mem_nil, or_false]
 split
 · split
   · exact ⟨.inl rfl, by omega⟩
   · exact ⟨.inr (.inl rfl), by simp only; omega⟩
 · exact ⟨.inl rfl, by simp only; omega⟩
theorem dn_in (hc : CellOK p n c) {i : Nat} (h : atC c i) : ((dnC c i).2, (dnC c i).1) ∈ edgesC c ∧ upAt (dnC c i) i := by
 have := hc.b; have := hc.d
 unfold atC at h
 unfold dnC upAt
 simp only [edgesC, List.mem_cons, List.not_mem_nil, or_false]
 split
 · exact ⟨.inr (.inr rfl), by simp only; omega⟩
 · split
   · exact ⟨.inr (.inr rfl), by simp only; omega⟩
   · rename_i g1 g2
     by_cases e : c.2.1 = c.2.2
     · exfalso; have := hc.ccw; rw [e, (crossI_self (p c.1) (p c.2.2)).2] at this; omega
     · exact ⟨.inr (.inl rfl), by simp only; omega⟩
theorem at_of {i : Nat} {a b : Int} (hc : CellOK p n c) (ha : cornerC c a) (hb : cornerC c b) (ga : a ≤ (i : Int)) (gb : (i : Int) < b) : atC c i := by
 have := hc.b; have := hc.d
 unfold cornerC at ha hb
 unfold atC
 omega
theorem cell_at (hr : Rising p K n) (hc : CellOK p n c) {i : Nat} (h1 : (i : Int) + 1 < n) (h : atC c i) :
 (∀ x, x ∈ edgesC c → upAt x i → x = upC c i) ∧ (∀ x : Int × Int, (x.2, x.1) ∈ edgesC c → upAt x i → x = dnC c i) ∧ xAt p K (dnC c i) i < xAt p K (upC c i) i := by
 have a := up_in hc h
 have b := dn_in hc h
 have ca := edge_corner a.1
 obtain ⟨u, w, u1, w1, tu, tw, k1, k2, k3⟩ := cell_places hr hc h1 ca.1 ca.2 a.2.1 a.2.2
 have e1 := k1 _ a.1 a.2
 have e2 := k2 _ b.1 b.2
 rw [e1, e2]
 exact ⟨k1, k2, k3⟩
theorem gap_pos (hr : Rising p K n) {i : Nat} (h1 : (i : Int) + 1 < n) : 0 < gapQ p K i := by
 have := Rat.intCast_lt_intCast.2 (hr (i : Int) ((i : Int) + 1) (by omega) (by omega) h1)
 unfold gapQ
 grind
theorem flip_x {e : Int × Int} {i : Nat} (he : (phiK K (p e.2) : Rat) - (phiK K (p e.1) : Rat) ≠ 0) : xAt (flipP K p) K e i = - xAt p K e i := by
 unfold xAt
 simp only [flip_phi]
 simp only [flipP, Rat.intCast_neg]
 grind
theorem flip_gap {i : Nat} : gapQ (flipP K p) K i = gapQ p K i := by
 unfold gapQ
 simp only [flip_phi]
open Classical in
theorem rise_gen {N : Nat} {E : List (Int × Int)} (hE : E.Nodup) (u : Nat → Int × Int) (hu : ∀ i, i < N → u i ∈ E ∧ upAt (u i) i) (h1 : ∀ i, i < N → ∀ e ∈ E, upAt e i → e = u i)
 (G : Int × Int → Rat) (g : Int × Int → Nat → Rat) (hG : ∀ e ∈ E, e.1 < e.2 → G e = sumN (fun i => if upAt e i then g e i else 0) N) :
 sumQ (fun e => if e.1 < e.2 then G e else 0) E = sumN (fun i => g (u i) i) N := by
 have s1 : sumQ (fun e => if e.1 < e.2 then G e else 0) E = sumQ (fun e => sumN (fun i => if upAt e i then g e i else 0) N) E := by
  refine sumQ_congr fun e he => ?_
  by_cases c : e.1 < e.2
  · rw [if_pos c]; exact hG e he c
  · rw [if_neg c, sumN_congr (g := fun _ => 0) fun i _ => ?_, sumN_zero]
    rw [if_neg]
    unfold upAt
    omega
 rw [s1, sum_swap]
 refine sumN_congr fun i hi => ?_
 have h2 := hu i hi
 exact sumQ_one (fun e => upAt e i) (fun e => g e i) hE h2.1 h2.2 (h1 i hi)
def LongAt (p : Int → Int × Int) (n : Int) (i : Nat) (e : Int × Int) : Prop := Supp p n i e.1 e.2 ∧ ∀ m, 0 ≤ m → m < n → crossI (p e.1) (p e.2) (p m) = 0 → e.1 ≤ m ∧ m ≤ e.2
theorem long_ex (hr : Rising p K n) {i : Nat} (h1 : (i : Int) + 1 < n) : ∃ e, LongAt p n i e := by
 obtain ⟨a, b, h⟩ := supp_ex hr (i := i) (by omega) (by omega)
 obtain ⟨a, b, h1, h2⟩ := supp_long hr _ (Nat.le_refl _) h
 exact ⟨(a, b), h1, h2⟩
theorem long_max {i : Nat} {e : Int × Int} (h : LongAt p n i e) : (MaxE p n e ∧ e.1 ≠ e.2) ∧ upAt e i := by
 obtain ⟨h1, h2⟩ := h
 have := h1.lo; have := h1.al; have := h1.bl; have := h1.hi
 exact ⟨⟨⟨by omega, by omega, by omega, by omega, h1.left, fun m m0 m1 z => .inl (h2 m m0 m1 z)⟩, by omega⟩, h1.al, h1.bl⟩
theorem long_one (hr : Rising p K n) {i : Nat} (hi : (i : Int) + 1 < n) {e u : Int × Int} (hu : LongAt p n i u) (ho : MaxE p n e) (ha : upAt e i) : e = u := by
 obtain ⟨h1, h2⟩ := hu
 have hs : Supp p n i e.1 e.2 := ⟨ho.l1, ha.1, ha.2, ho.u2, ho.left⟩
 obtain ⟨k1, k2, k3, k4⟩ := supp_line hr (by omega) (by omega) hs h1
 have a1 := h1.lo; have a2 := h1.al; have a3 := h1.bl; have a4 := h1.hi
 have b1 := ho.l1; have b2 := ho.u2; have b3 := ha.1; have b4 := ha.2
 have n1 := h2 e.1 b1 (by omega) k1
 have n2 := h2 e.2 (by omega) b2 k2
 have n3 := ho.all _ a1 (by omega) k3
 have n4 := ho.all _ (by omega) a4 k4
 exact Prod.ext (by omega) (by omega)
def facF (p : Int → Int × Int) (K : Int) (i : Int) : Rat := (phiK K (p i) : Rat) * ((p i).1 : Rat)
open Classical in
theorem shoe_lev (hr : Rising p K n) {N : Nat} (hN : (N : Int) + 1 = n) {e : Int × Int} (h0 : 0 ≤ e.1) (h1 : e.1 < e.2) (h2 : e.2 < n) :
 (shoe p e : Rat) = sumN (fun i => if upAt e i then gapQ p K i * (2 * xAt p K e i) - (facF p K ((i : Int) + 1) - facF p K (i : Int)) else 0) N := by
 have t := sumN_tele (fun i : Nat => - facF p K (i : Int)) (a := e.1.toNat) (b := e.2.toNat) (by omega) (N := N) (by omega)
 have e1 : ((e.1.toNat : Nat) : Int) = e.1 := by omega
 have e2 : ((e.2.toNat : Nat) : Int) = e.2 := by omega
 simp only [e1, e2] at t
 have l := lev_levels hr hN h0 h1 h2
 have key : sumN (fun i => if upAt e i then gapQ p K i * (2 * xAt p K e i) - (facF p K ((i : Int) + 1) - facF p K (i : Int)) else 0) N = (levE p K e : Rat) + (- facF p K e.2 - - facF p K e.1) := by
  rw [l, ← t, ← sumN_add]
  refine sumN_congr fun i hi => ?_
  by_cases c : upAt e i
  · have c' := c
    unfold upAt at c'
    rw [if_pos c, if_pos c, if_pos ⟨by omega, by omega⟩, show (((i + 1 : Nat)) : Int) = (i : Int) + 1 by omega]
    grind
  · rw [if_neg c, if_neg c, if_neg (fun z => c ⟨by omega, by omega⟩)]
    grind
 rw [key, lev_shoe (K := K)]
 unfold facF
 simp only [Rat.intCast_sub, Rat.intCast_mul]
 grind
theorem rise_hull (hr : Rising p K n) {N : Nat} (hN : (N : Int) + 1 = n) {M : List (Int × Int)} (nM : M.Nodup) (hM : ∀ e, e ∈ M ↔ MaxE p n e ∧ e.1 ≠ e.2) (R : Nat → Int × Int) (hR : ∀ i, i < N → LongAt p n i (R i)) :
 sumQ (fun e => if e.1 < e.2 then (shoe p e : Rat) else 0) M = sumN (fun i => gapQ p K i * (2 * xAt p K (R i) i) - (facF p K ((i : Int) + 1) - facF p K (i : Int))) N := by
 refine rise_gen nM R (fun i hi => ?_) (fun i hi e he ha => ?_) (fun e => (shoe p e : Rat)) (fun e i => gapQ p K i * (2 * xAt p K e i) - (facF p K ((i : Int) + 1) - facF p K (i : Int))) fun e he g => ?_
 · have := long_max (hR i hi); exact ⟨(hM _).2 this.1, this.2⟩
 · exact long_one hr (by omega) (hR i hi) ((hM e).1 he).1 ha
 · have := ((hM e).1 he).1
   exact shoe_lev hr hN this.l1 g this.u2
theorem hull_sum (hr : Rising p K n) {N : Nat} (hN : (N : Int) + 1 = n) {M : List (Int × Int)} (nM : M.Nodup) (hM : ∀ e, e ∈ M ↔ MaxE p n e ∧ e.1 ≠ e.2) (R L : Nat → Int × Int) (hR : ∀ i, i < N → LongAt p n i (R i)) (hL : ∀ i, i < N → LongAt (flipP K p) n i (L i)) :
 (sumF (shoe p) M : Rat) = sumN (fun i => gapQ p K i * (2 * (xAt p K (R i) i - xAt p K (L i) i))) N := by
 rw [sum_both (p := p) (K := K) fun e he => ((hM e).1 he).2]
 have h1 := rise_hull hr hN nM hM R hR
 have h2 := rise_hull (flip_rise hr) hN (nodup_rev nM) (fun e => by rw [mem_rev, hM, flip_max]; exact ⟨fun z => ⟨z.1, fun q => z.2 q.symm⟩, fun z => ⟨z.1, fun q => z.2 q.symm⟩⟩) L hL
 rw [h1, h2, ← sumN_add]
 refine sumN_congr fun i hi => ?_
 have b := (hL i hi).1
 have ff : ∀ j, facF (flipP K p) K j = - facF p K j := fun j => by
  unfold facF
  rw [flip_phi]
  simp only [flipP, Rat.intCast_neg]
  grind
 rw [flip_gap, ff, ff, flip_x (phi_ne hr b.lo (by have := b.al; have := b.bl; omega) b.hi)]
 grind
end
end Go.Proofs.Ytollcjadobpfdaa.Rw
namespace Go.Proofs.Ytollcjadobpfdaa.Rw
set_option linter.unusedVariables false
set_option linter.unusedSimpArgs false
section
variable {p : Int → Int × Int} {K n : Int} {c d : Cell3} {cs : List Cell3} {M : List (Int × Int)}
theorem MeshM.open_edge (h : MeshM p K n cs M) (hc : c ∈ cs) {e : Int × Int} (he : e ∈ edgesC c) {m : Int} (m0 : 0 ≤ m) (m1 : m < n) (z : crossI (p e.1) (p e.2) (p m) = 0) : ¬ (e.1 < m ∧ m < e.2) ∧ ¬ (e.2 < m ∧ m < e.1) := by
 have hok := h.cell c hc
 obtain ⟨x, x1, x2, x3, x4⟩ := edge_rot (p := p) he hok.ccw
 have ce := edge_corner he
 have r1 := hok.corner ce.1; have r2 := hok.corner ce.2
 have hx := hok.corner ((x2 x).2 (.inr (.inr rfl)))
 apply Classical.byContradiction
 intro hn
 have hn : (e.1 < m ∧ m < e.2) ∨ (e.2 < m ∧ m < e.1) := by
  rcases Classical.em (e.1 < m ∧ m < e.2) with g | g
  · exact .inl g
  · rcases Classical.em (e.2 < m ∧ m < e.1) with g2 | g2
    · exact .inr g2
    · exact absurd ⟨g, g2⟩ hn
 have id1 : (phiK K (p e.2) - phiK K (p e.1)) * crossI (p e.2) (p x) (p m) = (phiK K (p e.2) - phiK K (p m)) * crossI (p e.1) (p e.2) (p x) + (phiK K (p x) - phiK K (p e.2)) * crossI (p e.1) (p e.2) (p m) := by simp only [crossI, phiK]; grind
 have id2 : (phiK K (p e.2) - phiK K (p e.1)) * crossI (p x) (p e.1) (p m) = (phiK K (p m) - phiK K (p e.1)) * crossI (p e.1) (p e.2) (p x) + (phiK K (p e.1) - phiK K (p x)) * crossI (p e.1) (p e.2) (p m) := by simp only [crossI, phiK]; grind
 rw [z, Int.mul_zero, Int.add_zero] at id1 id2
 have pos : ∀ {a b q : Int}, 0 < a → a * q = b → 0 ≤ b → 0 ≤ q := fun {a b q} g1 g2 g3 => by
  rcases Int.lt_or_le q 0 with g | g
  · have := Int.mul_pos g1 (show 0 < -q by omega); rw [Int.mul_neg] at this; omega
  · exact g
 have s1 : 0 ≤ crossI (p e.2) (p x) (p m) ∧ 0 ≤ crossI (p x) (p e.1) (p m) := by
  rcases hn with ⟨g1, g2⟩ | ⟨g1, g2⟩
  · have k1 := h.rise e.1 m r1.1 g1 m1
    have k2 := h.rise m e.2 m0 g2 r2.2
    exact ⟨pos (show 0 < phiK K (p e.2) - phiK K (p e.1) by omega) id1 (Int.mul_nonneg (by omega) (by omega)), pos (show 0 < phiK K (p e.2) - phiK K (p e.1) by omega) id2 (Int.mul_nonneg (by omega) (by omega))⟩
  · have k1 := h.rise e.2 m r2.1 g1 m1
    have k2 := h.rise m e.1 m0 g2 r1.2
    have f1 : (phiK K (p e.1) - phiK K (p e.2)) * crossI (p e.2) (p x) (p m) = (phiK K (p m) - phiK K (p e.2)) * crossI (p e.1) (p e.2) (p x) := by grind
    have f2 : (phiK K (p e.1) - phiK K (p e.2)) * crossI (p x) (p e.1) (p m) = (phiK K (p e.1) - phiK K (p m)) * crossI (p e.1) (p e.2) (p x) := by grind
    exact ⟨pos (show 0 < phiK K (p e.1) - phiK K (p e.2) by omega) f1 (Int.mul_nonneg (by omega) (by omega)), pos (show 0 < phiK K (p e.1) - phiK K (p e.2) by omega) f2 (Int.mul_nonneg (by omega) (by omega))⟩
 refine h.empty c hc m m0 m1 (fun q => ?_) fun f hf => ?_
 · rcases (x2 m).1 q with rfl | rfl | rfl <;> omega
 · rcases (x1 f).1 hf with rfl | rfl | rfl
   · omega
   · exact s1.1
   · exact s1.2
theorem side_zero (hr : Rising p K n) {e f : Int × Int} {i : Nat} (h1 : (i : Int) + 1 < n) (e0 : 0 ≤ e.1) (e1 : e.1 < e.2) (e2 : e.2 < n) (f0 : 0 ≤ f.1) (f1 : f.1 ≤ (i : Int)) (f2 : (i : Int) < f.2) (f3 : f.2 < n)
 (hx : xAt p K f i = xAt p K e i) (g : (0 ≤ crossI (p e.1) (p e.2) (p f.1) ∧ 0 ≤ crossI (p e.1) (p e.2) (p f.2)) ∨ (crossI (p e.1) (p e.2) (p f.1) ≤ 0 ∧ crossI (p e.1) (p e.2) (p f.2) ≤ 0)) : crossI (p e.1) (p e.2) (p f.1) = 0 ∧ crossI (p e.1) (p e.2) (p f.2) = 0 := by
 have lo := (midV_lt hr (i := (i : Int)) (by omega) h1 f0 (by omega)).1 f1
 have hi := (midV_lt hr (i := (i : Int)) (by omega) h1 (by omega) f3).2 f2
 rw [midV_phi] at lo hi
 simp only [midV] at lo hi
 have s := side_x (p := p) (K := K) (e := e) (f := f) (i := i) (phi_ne hr e0 e1 e2) (phi_ne hr f0 (by omega) f3)
 rw [hx] at s
 have s : (sideAt p K e f i : Rat) = ((0 : Int) : Rat) := by rw [s]; simp only [Rat.intCast_zero]; grind
 have s := Rat.intCast_inj.1 s
 unfold sideAt at s
 generalize hA : phiK K (p f.2) * 2 - (phiK K (p (i : Int)) + phiK K (p ((i : Int) + 1))) = A at s
 generalize hB : (phiK K (p (i : Int)) + phiK K (p ((i : Int) + 1))) - phiK K (p f.1) * 2 = B at s
 have pA : 0 < A := by omega
 have pB : 0 < B := by omega
 generalize crossI (p e.1) (p e.2) (p f.1) = x at *
 generalize crossI (p e.1) (p e.2) (p f.2) = y at *
 have cA : 0 < x → 0 < A * x := Int.mul_pos pA
 have cA' : x < 0 → 0 < A * (-x) := fun h => Int.mul_pos pA (by omega)
 have cB : 0 < y → 0 < B * y := Int.mul_pos pB
 have cB' : y < 0 → 0 < B * (-y) := fun h => Int.mul_pos pB (by omega)
 have zA : x = 0 → A * x = 0 := fun h => by rw [h, Int.mul_zero]
 have zB : y = 0 → B * y = 0 := fun h => by rw [h, Int.mul_zero]
 rw [Int.mul_neg] at cA' cB'
 omega
theorem supp_outer (hr : Rising p K n) {i : Nat} {s e : Int × Int} (h1 : (i : Int) + 1 < n) (hs : Supp p n i s.1 s.2) (he : upAt e i) (e0 : 0 ≤ e.1) (e3 : e.2 < n) (hx : xAt p K e i = xAt p K s i)
 (ho : ∀ m, 0 ≤ m → m < n → crossI (p e.1) (p e.2) (p m) = 0 → ¬ (e.1 < m ∧ m < e.2)) : OuterE p n e := by
 obtain ⟨a1, a2⟩ := he
 have b1 := hs.al; have b2 := hs.bl; have b0 := hs.lo; have b3 := hs.hi
 have z := side_zero hr h1 b0 (by omega) b3 e0 a1 a2 e3 hx (.inl ⟨hs.left e.1 e0 (by omega), hs.left e.2 (by omega) e3⟩)
 have q1 := supp_low hr hs e0 a1 z.1
 have z2 : crossI (p e.1) (p s.2) (p e.2) = 0 := by
  have id1 : (phiK K (p s.2) - phiK K (p s.1)) * crossI (p e.1) (p s.2) (p e.2) = (phiK K (p s.2) - phiK K (p e.1)) * crossI (p s.1) (p s.2) (p e.2) - (phiK K (p s.2) - phiK K (p e.2)) * crossI (p s.1) (p s.2) (p e.1) := by simp only [crossI, phiK]; grind
  rw [z.1, z.2, Int.mul_zero, Int.mul_zero, Int.sub_zero] at id1
  have := hr s.1 s.2 b0 (by omega) b3
  rcases Int.mul_eq_zero.1 id1 with g | g
  · omega
  · exact g
 have q2 := supp_high hr q1 a2 e3 z2
 exact ⟨e0, by omega, by omega, e3, q2.left, fun m m0 m1 z => ⟨ho m m0 m1 z, by omega⟩⟩
theorem one_line (hr : Rising p K n) {i : Nat} {u w : Int × Int} (tu : upAt u i) (tw : upAt w i) (u0 : 0 ≤ u.1) (u3 : u.2 < n) (w0 : 0 ≤ w.1) (w3 : w.2 < n)
 (z : crossI (p u.1) (p u.2) (p w.1) = 0 ∧ crossI (p u.1) (p u.2) (p w.2) = 0) (ou : ∀ m, 0 ≤ m → m < n → crossI (p u.1) (p u.2) (p m) = 0 → ¬ (u.1 < m ∧ m < u.2)) (ow : ∀ m, 0 ≤ m → m < n → crossI (p w.1) (p w.2) (p m) = 0 → ¬ (w.1 < m ∧ m < w.2)) : u = w := by
 obtain ⟨a1, a2⟩ := tu
 obtain ⟨b1, b2⟩ := tw
 have id1 : (phiK K (p u.2) - phiK K (p u.1)) * crossI (p w.1) (p w.2) (p u.1) = (phiK K (p u.1) - phiK K (p w.2)) * crossI (p u.1) (p u.2) (p w.1) + (phiK K (p w.1) - phiK K (p u.1)) * crossI (p u.1) (p u.2) (p w.2) := by simp only [crossI, phiK]; grind
 have id2 : (phiK K (p u.2) - phiK K (p u.1)) * crossI (p w.1) (p w.2) (p u.2) = (phiK K (p u.2) - phiK K (p w.2)) * crossI (p u.1) (p u.2) (p w.1) + (phiK K (p w.1) - phiK K (p u.2)) * crossI (p u.1) (p u.2) (p w.2) := by simp only [crossI, phiK]; grind
 rw [z.1, z.2, Int.mul_zero, Int.mul_zero, Int.add_zero] at id1 id2
 have hu := hr u.1 u.2 u0 (by omega) u3
 have z1 : crossI (p w.1) (p w.2) (p u.1) = 0 := by
  rcases Int.mul_eq_zero.1 id1 with g | g
  · omega
  · exact g
 have z2 : crossI (p w.1) (p w.2) (p u.2) = 0 := by
  rcases Int.mul_eq_zero.1 id2 with g | g
  · omega
  · exact g
 have n1 := ou w.1 w0 (by omega) z.1
 have n2 := ou w.2 (by omega) w3 z.2
 have n3 := ow u.1 u0 (by omega) z1
 have n4 := ow u.2 (by omega) u3 z2
 exact Prod.ext (by omega) (by omega)
theorem MeshM.same (h : MeshM p K n cs M) (hc : c ∈ cs) (hd : d ∈ cs) {i : Nat} (h1 : (i : Int) + 1 < n) (ac : atC c i) (ad : atC d i) (hx : xAt p K (upC c i) i = xAt p K (dnC d i) i) : upC c i = dnC d i := by
 have kc := h.cell c hc
 have kd := h.cell d hd
 have lc := cell_at h.rise kc h1 ac
 have ld := cell_at h.rise kd h1 ad
 have uc := up_in kc ac; have dc := dn_in kc ac
 have ud := up_in kd ad; have dd := dn_in kd ad
 have hne : c ≠ d := fun z => by subst z; have := lc.2.2; rw [hx] at this; grind
 generalize upC c i = u at *
 generalize dnC d i = w at *
 have cu := edge_corner uc.1; have cdc := edge_corner dc.1
 have cud := edge_corner ud.1; have cw := edge_corner dd.1
 have u1 := kc.corner cu.1; have u2 := kc.corner cu.2
 have v1 := kc.corner cdc.1; have v2 := kc.corner cdc.2
 have w2 := kd.corner cw.1; have w1 := kd.corner cw.2
 have y1 := kd.corner cud.1; have y2 := kd.corner cud.2
 simp only at w1 w2 v1 v2 cw cdc
 have fin : (crossI (p u.1) (p u.2) (p w.1) = 0 ∧ crossI (p u.1) (p u.2) (p w.2) = 0) → u = w := fun z =>
  one_line h.rise uc.2 dd.2 u1.1 u2.2 w1.1 w2.2 z (fun m m0 m1 z => (h.open_edge hc uc.1 m0 m1 z).1) (fun m m0 m1 z => by
   have := (h.open_edge hd dd.1 m0 m1 (by rw [crossI_swap, z]; rfl)).2
   exact this)
 have nz : ∀ {c : Cell3} {f : Int × Int}, CellOK p n c → f ∈ edgesC c → f.1 ≠ f.2 := fun {c f} k hf z => by
  obtain ⟨x, x1, x2, x3, x4⟩ := edge_rot (p := p) hf k.ccw
  rw [z] at x3
  have : crossI (p f.2) (p f.2) (p x) = 0 := by simp only [crossI]; grind
  omega
 have sw := fun (f : Int × Int) r => crossI_swap (p f.1) (p f.2) (p r)
 have own : ∀ {c : Cell3} {f g : Int × Int}, CellOK p n c → f ∈ edgesC c → cornerC c g.1 → cornerC c g.2 → g.1 ≠ g.2 → crossI (p f.1) (p f.2) (p g.1) = 0 → crossI (p f.1) (p f.2) (p g.2) = 0 → g = f ∨ g = (f.2, f.1) := fun {c f g} k hf g1 g2 gn z1 z2 => by
  obtain ⟨x, x1, x2, x3, x4⟩ := edge_rot (p := p) hf k.ccw
  have e1 := (x2 g.1).1 g1
  have e2 := (x2 g.2).1 g2
  have n1 : g.1 ≠ x := fun q => by rw [q] at z1; omega
  have n2 : g.2 ≠ x := fun q => by rw [q] at z2; omega
  rcases e1 with e1 | e1 | e1 <;> rcases e2 with e2 | e2 | e2
  · omega
  · exact .inl (Prod.ext e1 e2)
  · exact absurd e2 n2
  · exact .inr (Prod.ext e1 e2)
  · omega
  · exact absurd e2 n2
  · exact absurd e1 n1
  · exact absurd e1 n1
  · exact absurd e1 n1
 rcases h.apart c hc d hd hne with ⟨f, hf, k1, k2, k3⟩ | ⟨f, hf, k1, k2, k3⟩
 · have k : ∀ r, cornerC d r → crossI (p f.1) (p f.2) (p r) ≤ 0 := fun r hr => by
    rcases hr with rfl | rfl | rfl
    · exact k1
    · exact k2
    · exact k3
   have cf := edge_corner hf
   have f1 := kc.corner cf.1; have f2 := kc.corner cf.2
   rcases Int.lt_or_gt_of_ne (nz kc hf) with g | g
   · have a := x_le h.rise h1 f1.1 g f2.2 u1.1 uc.2.1 uc.2.2 u2.2 (corners_left kc hf cu.1) (corners_left kc hf cu.2)
     have b := x_ge h.rise h1 f1.1 g f2.2 w1.1 dd.2.1 dd.2.2 w2.2 (k _ cw.2) (k _ cw.1)
     have e1 : xAt p K u i = xAt p K f i := by grind
     have e2 : xAt p K w i = xAt p K f i := by grind
     have s1 := side_zero h.rise h1 f1.1 g f2.2 u1.1 uc.2.1 uc.2.2 u2.2 e1 (.inl ⟨corners_left kc hf cu.1, corners_left kc hf cu.2⟩)
     have s2 := side_zero h.rise h1 f1.1 g f2.2 w1.1 dd.2.1 dd.2.2 w2.2 e2 (.inr ⟨k _ cw.2, k _ cw.1⟩)
     have hu : u = f := by
      rcases own kc hf cu.1 cu.2 (by have := uc.2.1; have := uc.2.2; omega) s1.1 s1.2 with q | q
      · exact q
      · have := uc.2.1; have := uc.2.2; rw [q] at *; simp only at *; omega
     subst hu
     exact fin s2
   · exfalso
     have a := x_le h.rise (e := (f.2, f.1)) h1 f2.1 g f1.2 y1.1 ud.2.1 ud.2.2 y2.2 (by have := k _ cud.1; have := sw f (upC d i).1; simp only; omega) (by have := k _ cud.2; have := sw f (upC d i).2; simp only; omega)
     have b := x_ge h.rise (e := (f.2, f.1)) h1 f2.1 g f1.2 v2.1 dc.2.1 dc.2.2 v1.2 (by have := corners_left kc hf cdc.2; have := sw f (dnC c i).1; simp only; omega) (by have := corners_left kc hf cdc.1; have := sw f (dnC c i).2; simp only; omega)
     have := lc.2.2
     have := ld.2.2
     grind
 · have k : ∀ r, cornerC c r → crossI (p f.1) (p f.2) (p r) ≤ 0 := fun r hr => by
    rcases hr with rfl | rfl | rfl
    · exact k1
    · exact k2
    · exact k3
   have cf := edge_corner hf
   have f1 := kd.corner cf.1; have f2 := kd.corner cf.2
   rcases Int.lt_or_gt_of_ne (nz kd hf) with g | g
   · exfalso
     have a := x_le h.rise h1 f1.1 g f2.2 y1.1 ud.2.1 ud.2.2 y2.2 (corners_left kd hf cud.1) (corners_left kd hf cud.2)
     have b := x_ge h.rise h1 f1.1 g f2.2 v2.1 dc.2.1 dc.2.2 v1.2 (k _ cdc.2) (k _ cdc.1)
     have := lc.2.2
     have := ld.2.2
     grind
   · have c1 := k _ cu.1
     have c2 := k _ cu.2
     have c3 := corners_left kd hf cw.2
     have c4 := corners_left kd hf cw.1
     have t1 := sw f u.1
     have t2 := sw f u.2
     have t3 := sw f w.1
     have t4 := sw f w.2
     have a := x_le h.rise (e := (f.2, f.1)) h1 f2.1 g f1.2 u1.1 uc.2.1 uc.2.2 u2.2 (by simp only; omega) (by simp only; omega)
     have b := x_ge h.rise (e := (f.2, f.1)) h1 f2.1 g f1.2 w1.1 dd.2.1 dd.2.2 w2.2 (by simp only at *; omega) (by simp only at *; omega)
     have e1 : xAt p K u i = xAt p K (f.2, f.1) i := by grind
     have e2 : xAt p K w i = xAt p K (f.2, f.1) i := by grind
     have s1 := side_zero h.rise (e := (f.2, f.1)) h1 f2.1 g f1.2 u1.1 uc.2.1 uc.2.2 u2.2 e1 (.inl ⟨by simp only; omega, by simp only; omega⟩)
     have s2 := side_zero h.rise (e := (f.2, f.1)) h1 f2.1 g f1.2 w1.1 dd.2.1 dd.2.2 w2.2 e2 (.inr ⟨by simp only at *; omega, by simp only at *; omega⟩)
     simp only at s1 s2
     have hw : w = (f.2, f.1) := by
      rcases own kd hf cw.2 cw.1 (by have := dd.2.1; have := dd.2.2; omega) (by omega) (by omega) with q | q
      · have := dd.2.1; have := dd.2.2; rw [q] at *; omega
      · exact q
     rw [← show w.1 = f.2 by rw [hw], ← show w.2 = f.1 by rw [hw]] at s1
     refine (one_line h.rise dd.2 uc.2 w1.1 w2.2 u1.1 u2.2 s1 (fun m m0 m1 z => by
      have := (h.open_edge hd dd.1 m0 m1 (by rw [crossI_swap, z]; rfl)).2
      exact this) (fun m m0 m1 z => (h.open_edge hc uc.1 m0 m1 z).1)).symm
end
end Go.Proofs.Ytollcjadobpfdaa.Rw
namespace Go.Proofs.Ytollcjadobpfdaa.Rw
set_option linter.unusedVariables false
set_option linter.unusedSimpArgs false
theorem sumN_le {f g : Nat → Rat} : ∀ {N}, (∀ i, i < N → f i ≤ g i) → sumN f N ≤ sumN g N
 | 0, _ => by simp only [sumN]; grind
 | N + 1, h => by
   have := sumN_le (N := N) fun i hi => h i (by omega)
   have := h N (by omega)
   simp only [sumN]; grind
theorem sumN_all {f g : Nat → Rat} : ∀ {N}, (∀ i, i < N → f i ≤ g i) → sumN f N = sumN g N → ∀ i, i < N → f i = g i
 | N + 1, h, e, i, hi => by
   have h1 := sumN_le (N := N) fun i hi => h i (by omega)
   have h2 := h N (by omega)
   simp only [sumN] at e
   rcases Nat.lt_or_ge i N with g | g
   · exact sumN_all (N := N) (fun i hi => h i (by omega)) (by grind) i g
   · have : i = N := by omega
     subst this
     grind
theorem sumQ_cast {α : Type} (f : α → Int) : ∀ l : List α, (sumF f l : Rat) = sumQ (fun x => (f x : Rat)) l
 | [] => rfl
 | x :: l => by simp only [sumF, sumQ, Rat.intCast_add, sumQ_cast f l]
open Classical in
theorem sumQ_if {α : Type} (q : α → Prop) (f : α → Rat) : ∀ l : List α, sumQ (fun x => if q x then f x else 0) l = sumQ f (l.filter fun x => decide (q x))
 | [] => rfl
 | x :: l => by
   by_cases h : q x
   · simp [h, sumQ, sumQ_if q f l]
   · simp [h, sumQ, sumQ_if q f l]; grind
theorem sumQ_mul {α : Type} (a : Rat) (f : α → Rat) : ∀ l : List α, sumQ (fun x => a * f x) l = a * sumQ f l
 | [] => by simp only [sumQ]; grind
 | x :: l => by simp only [sumQ, sumQ_mul a f l]; grind
section
variable {p : Int → Int × Int} {K n : Int} {c d : Cell3} {cs : List Cell3} {M : List (Int × Int)}
def spanC (p : Int → Int × Int) (K : Int) (i : Nat) (c : Cell3) : Rat × Rat := (xAt p K (dnC c i) i, xAt p K (upC c i) i)
open Classical in
theorem MeshM.spans (h : MeshM p K n cs M) {i : Nat} (h1 : (i : Int) + 1 < n) {R L : Int × Int} (hR : LongAt p n i R) (hL : LongAt (flipP K p) n i L) :
 ((cs.filter fun c => decide (atC c i)).map (spanC p K i)).Pairwise asideQ ∧ (∀ x ∈ (cs.filter fun c => decide (atC c i)).map (spanC p K i), xAt p K L i ≤ x.1 ∧ x.1 < x.2 ∧ x.2 ≤ xAt p K R i) := by
 constructor
 · rw [List.pairwise_map]
   refine List.Pairwise.imp_of_mem ?_ (h.nod.filter _)
   intro a b ha hb hne
   rw [List.mem_filter, decide_eq_true_eq] at ha hb
   have ka := h.cell a ha.1; have kb := h.cell b hb.1
   have ua := up_in ka ha.2; have da := dn_in ka ha.2
   have ub := up_in kb hb.2; have db := dn_in kb hb.2
   have c1 := edge_corner ua.1; have c2 := edge_corner da.1; have c3 := edge_corner ub.1; have c4 := edge_corner db.1
   unfold asideQ spanC
   rcases h.apart a ha.1 b hb.1 hne with g | g
   · exact parted_aside h.rise ka kb h1 g c1 ⟨c2.2, c2.1⟩ c3 ⟨c4.2, c4.1⟩ ua.2 da.2 ub.2 db.2
   · exact (parted_aside h.rise kb ka h1 g c3 ⟨c4.2, c4.1⟩ c1 ⟨c2.2, c2.1⟩ ub.2 db.2 ua.2 da.2).symm
 · intro x hx
   obtain ⟨a, ha, rfl⟩ := List.mem_map.1 hx
   rw [List.mem_filter, decide_eq_true_eq] at ha
   have ka := h.cell a ha.1
   have ua := up_in ka ha.2; have da := dn_in ka ha.2
   have la := cell_at h.rise ka h1 ha.2
   have c1 := edge_corner ua.1; have c2 := edge_corner da.1
   have u1 := ka.corner c1.1; have u2 := ka.corner c1.2; have w2 := ka.corner c2.1; have w1 := ka.corner c2.2
   simp only at w1 w2
   obtain ⟨sR, -⟩ := hR
   obtain ⟨sL, -⟩ := hL
   have r1 := sR.lo; have r2 := sR.al; have r3 := sR.bl; have r4 := sR.hi
   have l1 := sL.lo; have l2 := sL.al; have l3 := sL.bl; have l4 := sL.hi
   have k1 := x_le h.rise h1 r1 (by omega) r4 u1.1 ua.2.1 ua.2.2 u2.2 (sR.left _ u1.1 u1.2) (sR.left _ u2.1 u2.2)
   have k2 := x_le (flip_rise h.rise) h1 l1 (by omega) l4 w1.1 da.2.1 da.2.2 w2.2 (sL.left _ w1.1 w1.2) (sL.left _ w2.1 w2.2)
   rw [flip_x (phi_ne h.rise l1 (by omega) l4), flip_x (phi_ne h.rise w1.1 (by have := da.2.1; have := da.2.2; omega) w2.2)] at k2
   unfold spanC
   exact ⟨by simp only; grind, la.2.2, k1⟩
open Classical in
theorem MeshM.fills (h : MeshM p K n cs M) {N : Nat} (hN : (N : Int) + 1 = n) (R L : Nat → Int × Int) (hR : ∀ i, i < N → LongAt p n i (R i)) (hL : ∀ i, i < N → LongAt (flipP K p) n i (L i)) :
 ∀ i, i < N → sumQ lenQ ((cs.filter fun c => decide (atC c i)).map (spanC p K i)) = xAt p K (R i) i - xAt p K (L i) i := by
 have hh := hull_sum h.rise hN h.mnod h.mmax R L hR hL
 have hc : (sumF (fun c => crossI (p c.1) (p c.2.1) (p c.2.2)) cs : Rat) = sumN (fun i => gapQ p K i * (2 * sumQ lenQ ((cs.filter fun c => decide (atC c i)).map (spanC p K i)))) N := by
  rw [sumQ_cast, sumQ_congr (fun c hc => cell_sum h.rise (h.cell c hc) hN), sum_swap]
  refine sumN_congr fun i hi => ?_
  rw [sumQ_if (fun c => atC c i), sumQ_map, ← sumQ_mul, ← sumQ_mul]
  refine sumQ_congr fun c _ => ?_
  unfold lenQ spanC
  rfl
 rw [h.area, hh] at hc
 have le : ∀ i, i < N → sumQ lenQ ((cs.filter fun c => decide (atC c i)).map (spanC p K i)) ≤ xAt p K (R i) i - xAt p K (L i) i := fun i hi => by
  have s := h.spans (i := i) (by omega) (hR i hi) (hL i hi)
  refine pack_le _ (Nat.le_refl _) ?_ s.1 s.2
  obtain ⟨sR, -⟩ := hR i hi
  obtain ⟨sL, -⟩ := hL i hi
  have r1 := sR.lo; have r2 := sR.al; have r3 := sR.bl; have r4 := sR.hi
  have l1 := sL.lo; have l2 := sL.al; have l3 := sL.bl; have l4 := sL.hi
  exact x_le h.rise (by omega) r1 (by omega) r4 l1 l2 l3 l4 (sR.left _ l1 (by omega)) (sR.left _ (by omega) l4)
 intro i hi
 have key := sumN_all (f := fun i => gapQ p K i * (2 * sumQ lenQ ((cs.filter fun c => decide (atC c i)).map (spanC p K i)))) (g := fun i => gapQ p K i * (2 * (xAt p K (R i) i - xAt p K (L i) i))) (N := N) (fun i hi => ?_) hc.symm i hi
 · have g := gap_pos h.rise (i := i) (by omega)
   have cut : ∀ {a x y : Rat}, 0 < a → a * (2 * x) = a * (2 * y) → x = y := fun {a x y} h1 h2 => by
    have : a ≠ 0 := by grind
    grind
   exact cut g key
 · have g := gap_pos h.rise (i := i) (by omega)
   have l := le i hi
   have := Rat.mul_le_mul_of_nonneg_left l (Rat.le_of_lt g)
   grind
open Classical in
theorem MeshM.outer (h : MeshM p K n cs M) {e : Int × Int} (he : e ∈ edgesL cs) : OuterE p n e ∨ (e.2, e.1) ∈ edgesL cs := by
 obtain ⟨c, hc, hec⟩ := List.mem_flatMap.1 he
 have kc := h.cell c hc
 have ce := edge_corner hec
 have e1 := kc.corner ce.1; have e2 := kc.corner ce.2
 have hne : e.1 ≠ e.2 := fun z => by
  obtain ⟨x, x1, x2, x3, x4⟩ := edge_rot (p := p) hec kc.ccw
  rw [z] at x3
  have : crossI (p e.2) (p e.2) (p x) = 0 := by simp only [crossI]; grind
  omega
 have hN : (((n - 1).toNat : Nat) : Int) + 1 = n := by omega
 let R : Nat → Int × Int := fun i => Classical.epsilon fun e => LongAt p n i e
 let L : Nat → Int × Int := fun i => Classical.epsilon fun e => LongAt (flipP K p) n i e
 have hR : ∀ i, i < (n - 1).toNat → LongAt p n i (R i) := fun i hi => Classical.epsilon_spec (p := fun e => LongAt p n i e) (long_ex h.rise (by omega))
 have hL : ∀ i, i < (n - 1).toNat → LongAt (flipP K p) n i (L i) := fun i hi => Classical.epsilon_spec (p := fun e => LongAt (flipP K p) n i e) (long_ex (flip_rise h.rise) (by omega))
 have fl := h.fills hN R L hR hL
 have open' := fun m m0 m1 => h.open_edge hc hec (m := m) m0 m1
 rcases Int.lt_or_gt_of_ne hne with g | g
 · have hi : e.1.toNat < (n - 1).toNat := by omega
   have t : upAt e e.1.toNat := ⟨by omega, by omega⟩
   have ac := at_of (i := e.1.toNat) kc ce.1 ce.2 (by omega) (by omega)
   have ue := (cell_at h.rise kc (by omega) ac).1 e hec t
   generalize e.1.toNat = i at *
   have s := h.spans (i := i) (by omega) (hR i hi) (hL i hi)
   have mem : spanC p K i c ∈ (cs.filter fun c => decide (atC c i)).map (spanC p K i) := List.mem_map.2 ⟨c, List.mem_filter.2 ⟨hc, decide_eq_true ac⟩, rfl⟩
   have b := (s.2 _ mem).2.2
   by_cases q : (spanC p K i c).2 < xAt p K (R i) i
   · right
     obtain ⟨y, hy, hyx⟩ := pack_next s.1 s.2 (fl i hi) mem q
     obtain ⟨d, hd, rfl⟩ := List.mem_map.1 hy
     rw [List.mem_filter, decide_eq_true_eq] at hd
     have sm := h.same hc hd.1 (by omega) ac hd.2 (show (spanC p K i c).2 = (spanC p K i d).1 from hyx.symm)
     rw [ue, sm]
     exact List.mem_flatMap.2 ⟨d, hd.1, (dn_in (h.cell d hd.1) hd.2).1⟩
   · left
     have hx : xAt p K e i = xAt p K (R i) i := by
      rw [ue]
      unfold spanC at b q
      simp only at b q
      grind
     exact supp_outer h.rise (by omega) (hR i hi).1 t e1.1 e2.2 hx fun m m0 m1 z => (open' m m0 m1 z).1
 · have hi : e.2.toNat < (n - 1).toNat := by omega
   have t : upAt (e.2, e.1) e.2.toNat := ⟨by simp only; omega, by simp only; omega⟩
   have ac := at_of (i := e.2.toNat) kc ce.2 ce.1 (by omega) (by omega)
   have ue := (cell_at h.rise kc (by omega) ac).2.1 (e.2, e.1) hec t
   generalize e.2.toNat = i at *
   have s := h.spans (i := i) (by omega) (hR i hi) (hL i hi)
   have mem : spanC p K i c ∈ (cs.filter fun c => decide (atC c i)).map (spanC p K i) := List.mem_map.2 ⟨c, List.mem_filter.2 ⟨hc, decide_eq_true ac⟩, rfl⟩
   have b := (s.2 _ mem).1
   by_cases q : xAt p K (L i) i < (spanC p K i c).1
   · right
     let fl' : Rat × Rat → Rat × Rat := fun x => (- x.2, - x.1)
     have s1 : (((cs.filter fun c => decide (atC c i)).map (spanC p K i)).map fl').Pairwise asideQ := by
      rw [List.pairwise_map]
      refine s.1.imp fun {a b} hab => ?_
      simp only [asideQ, fl'] at hab ⊢
      grind
     have s2 : ∀ x ∈ ((cs.filter fun c => decide (atC c i)).map (spanC p K i)).map fl', - xAt p K (R i) i ≤ x.1 ∧ x.1 < x.2 ∧ x.2 ≤ - xAt p K (L i) i := fun x hx => by
      obtain ⟨y, hy, rfl⟩ := List.mem_map.1 hx
      have := s.2 y hy
      simp only [fl']
      grind
     have s3 : sumQ lenQ (((cs.filter fun c => decide (atC c i)).map (spanC p K i)).map fl') = - xAt p K (L i) i - - xAt p K (R i) i := by
      have f := fl i hi
      rw [sumQ_map, sumQ_congr (g := lenQ) fun x _ => by simp only [lenQ, fl']; grind, f]
      grind
     obtain ⟨y, hy, hyx⟩ := pack_next s1 s2 s3 (List.mem_map.2 ⟨_, mem, rfl⟩) (by simp only [fl']; grind)
     obtain ⟨y', hy', rfl⟩ := List.mem_map.1 hy
     obtain ⟨d, hd, rfl⟩ := List.mem_map.1 hy'
     rw [List.mem_filter, decide_eq_true_eq] at hd
     have sm := h.same hd.1 hc (by omega) hd.2 ac (show (spanC p K i d).2 = (spanC p K i c).1 by simp only [fl'] at hyx; grind)
     rw [ue, ← sm]
     exact List.mem_flatMap.2 ⟨d, hd.1, (up_in (h.cell d hd.1) hd.2).1⟩
   · left
     have sL := (hL i hi).1
     have hx : xAt (flipP K p) K (e.2, e.1) i = xAt (flipP K p) K (L i) i := by
      rw [flip_x (phi_ne h.rise e2.1 g e1.2), flip_x (phi_ne h.rise sL.lo (by have := sL.al; have := sL.bl; omega) sL.hi), ue]
      unfold spanC at b q
      simp only at b q
      grind
     have o := supp_outer (flip_rise h.rise) (by omega) sL t e2.1 e1.2 hx fun m m0 m1 z => by
      rw [flip_cross] at z
      exact (open' m m0 m1 z).2
     rw [flip_outer] at o
     exact o
theorem MeshM.meshV (h : MeshM p K n cs M) : MeshV p K n cs :=
 ⟨h.kpos, h.rise, h.cell, edges_nodup h.nod h.cell h.apart, fun e he => ⟨h.rim_one, fun hn => (h.outer he).resolve_right hn⟩, fun i i0 i1 => by
   obtain ⟨c, hc, q⟩ := h.used i i0 i1
   exact ⟨c, hc, q⟩⟩
end
end Go.Proofs.Ytollcjadobpfdaa.Rw
namespace Go.Proofs.Ytollcjadobpfdaa.Rw
set_option linter.unusedVariables false
set_option linter.unusedSimpArgs false
section
variable {p : Int → Int × Int} {K n : Int}
def Stk (p : Int → Int × Int) (k : Int) : List Int → Prop
 | [] => False
 | [x] => x = 0
 | t :: a :: s => a < t ∧ OuterE p k (a, t) ∧ Stk p k (a :: s)
def popS (p : Int → Int × Int) (k : Int) : List Int → List Int
 | t :: a :: s => if crossI (p a) (p t) (p k) < 0 then popS p k (a :: s) else t :: a :: s
 | s => s
theorem pos_of {a q b : Int} (h1 : 0 < a) (h2 : a * q = b) (h3 : 0 < b) : 0 < q := by
 rcases Int.lt_or_le 0 q with g | g
 · exact g
 · have := Int.mul_nonneg (Int.le_of_lt h1) (show 0 ≤ -q by omega); rw [Int.mul_neg] at this; omega
theorem nonneg_of {a q b : Int} (h1 : 0 < a) (h2 : a * q = b) (h3 : 0 ≤ b) : 0 ≤ q := by
 rcases Int.lt_or_le q 0 with g | g
 · have := Int.mul_pos h1 (show 0 < -q by omega); rw [Int.mul_neg] at this; omega
 · exact g
theorem Stk.lo {k : Int} : ∀ {s : List Int} {t : Int}, Stk p k (t :: s) → 0 ≤ t
 | [], t, h => by simp only [Stk] at h; omega
 | a :: s, t, h => by have := h.1; have := Stk.lo h.2.2; omega
theorem pop_ok (hr : Rising p K n) {k : Int} (hk : k < n) : ∀ {s : List Int} {t : Int}, Stk p k (t :: s) → t < k → (∀ m, t < m → m < k → 0 < crossI (p t) (p k) (p m)) →
 ∃ t' s', popS p k (t :: s) = t' :: s' ∧ Stk p k (t' :: s') ∧ t' < k ∧ (∀ m, t' < m → m < k → 0 < crossI (p t') (p k) (p m)) ∧ (∀ a r, s' = a :: r → 0 ≤ crossI (p a) (p t') (p k))
 | [], t, h, ht, hm => ⟨t, [], rfl, h, ht, hm, fun a r h => by cases h⟩
 | a :: s, t, h, ht, hm => by
   have t0 := Stk.lo h
   obtain ⟨hat, ho, hs⟩ := h
   have a0 := Stk.lo hs
   simp only [popS]
   by_cases c : crossI (p a) (p t) (p k) < 0
   · rw [if_pos c]
     refine pop_ok hr hk hs (by omega) fun m m1 m2 => ?_
     have cs : crossI (p a) (p k) (p t) = - crossI (p a) (p t) (p k) := by simp only [crossI]; grind
     have ct : 0 < crossI (p a) (p k) (p t) := by omega
     have rk := hr a k a0 (by omega) hk
     have rm := hr a m a0 m1 (by omega)
     have rt := hr a t a0 hat (by omega)
     rcases Int.lt_or_le m t with g | g
     · have h1 := ho.left m (by omega) (by omega)
       have h2 := ho.none m (by omega) (by omega)
       simp only at h1 h2
       have h3 : 0 < crossI (p a) (p t) (p m) := by
        rcases Int.lt_or_eq_of_le h1 with q | q
        · exact q
        · exact absurd ⟨m1, g⟩ (h2 q.symm).1
       have id1 : (phiK K (p t) - phiK K (p a)) * crossI (p a) (p k) (p m) = (phiK K (p k) - phiK K (p a)) * crossI (p a) (p t) (p m) + (phiK K (p m) - phiK K (p a)) * crossI (p a) (p k) (p t) := by simp only [crossI, phiK]; grind
       have m1 := Int.mul_pos (show 0 < phiK K (p k) - phiK K (p a) by omega) h3
       have m2 := Int.mul_pos (show 0 < phiK K (p m) - phiK K (p a) by omega) ct
       exact pos_of (show 0 < phiK K (p t) - phiK K (p a) by omega) id1 (by omega)
     · rcases Int.lt_or_eq_of_le g with g | g
       · have h1 := hm m g m2
         have rt2 := hr t k t0 ht hk
         have rm2 := hr m k (by omega) m2 hk
         have id1 : (phiK K (p k) - phiK K (p t)) * crossI (p a) (p k) (p m) = (phiK K (p k) - phiK K (p a)) * crossI (p t) (p k) (p m) + (phiK K (p k) - phiK K (p m)) * crossI (p a) (p k) (p t) := by simp only [crossI, phiK]; grind
         have m1 := Int.mul_pos (show 0 < phiK K (p k) - phiK K (p a) by omega) h1
         have m2 := Int.mul_pos (show 0 < phiK K (p k) - phiK K (p m) by omega) ct
         exact pos_of (show 0 < phiK K (p k) - phiK K (p t) by omega) id1 (by omega)
       · subst g; exact ct
   · rw [if_neg c]
     exact ⟨t, a :: s, rfl, ⟨hat, ho, hs⟩, ht, hm, fun a' r' e => by cases e; omega⟩
theorem stk_left (hr : Rising p K n) {k : Int} (hk : k < n) : ∀ {s : List Int} {t a : Int}, Stk p k (t :: a :: s) → t < k → 0 ≤ crossI (p a) (p t) (p k) → Stk p (k + 1) (t :: a :: s)
 | s, t, a, h, ht, hc => by
   have t0 := Stk.lo h
   obtain ⟨hat, ho, hs⟩ := h
   have a0 := Stk.lo hs
   have ho' : OuterE p (k + 1) (a, t) := ⟨ho.l1, ho.l2, by have := ho.u1; omega, by have := ho.u2; omega, fun m m0 m1 => by
    rcases Int.lt_or_eq_of_le (show m ≤ k by omega) with g | g
    · exact ho.left m m0 g
    · subst g; exact hc, fun m m0 m1 z => by
    rcases Int.lt_or_eq_of_le (show m ≤ k by omega) with g | g
    · exact ho.none m m0 g z
    · subst g; simp only; omega⟩
   cases s with
   | nil => exact ⟨hat, ho', hs⟩
   | cons b s =>
     refine ⟨hat, ho', stk_left hr hk hs (by omega) ?_⟩
     have b0 := Stk.lo hs.2.2
     have hba := hs.1
     have h1 := hs.2.1.left t t0 (by omega)
     simp only at h1
     have r1 := hr b a b0 hba (by omega)
     have r2 := hr a t a0 hat (by omega)
     have r3 := hr a k a0 (by omega) hk
     have id1 : (phiK K (p t) - phiK K (p a)) * crossI (p b) (p a) (p k) = (phiK K (p a) - phiK K (p b)) * crossI (p a) (p t) (p k) + (phiK K (p k) - phiK K (p a)) * crossI (p b) (p a) (p t) := by simp only [crossI, phiK]; grind
     have m1 := Int.mul_nonneg (show 0 ≤ phiK K (p a) - phiK K (p b) by omega) hc
     have m2 := Int.mul_nonneg (show 0 ≤ phiK K (p k) - phiK K (p a) by omega) h1
     exact nonneg_of (show 0 < phiK K (p t) - phiK K (p a) by omega) id1 (by omega)
theorem stk_next (hr : Rising p K n) {k : Int} (hk : k < n) {s : List Int} (h : Stk p k ((k - 1) :: s)) : Stk p (k + 1) (k :: popS p k ((k - 1) :: s)) := by
 obtain ⟨t, r, e, h1, h2, h3, h4⟩ := pop_ok hr hk h (by omega) fun m _ _ => by omega
 rw [e]
 have t0 := Stk.lo h1
 have rk := hr t k t0 h2 hk
 have cs := crossI_self (p t) (p k)
 cases r with
 | nil =>
   simp only [Stk] at h1
   subst h1
   refine ⟨h2, ⟨by simp only; omega, by simp only; omega, by simp only; omega, by simp only; omega, fun m m0 m1 => ?_, fun m m0 m1 z => ?_⟩, rfl⟩
   · simp only
     rcases Int.lt_or_eq_of_le m0 with g | g
     · rcases Int.lt_or_eq_of_le (show m ≤ k by omega) with g2 | g2
       · have := h3 m g g2; omega
       · subst g2; omega
     · subst g; omega
   · simp only at z ⊢
     refine ⟨fun q => ?_, by omega⟩
     have := h3 m q.1 q.2; omega
 | cons a r =>
   have hl := h4 a r rfl
   refine ⟨h2, ⟨by simp only; omega, by simp only; omega, by simp only; omega, by simp only; omega, fun m m0 m1 => ?_, fun m m0 m1 z => ?_⟩, stk_left hr hk h1 h2 hl⟩
   · simp only
     rcases Int.lt_or_le t m with g | g
     · rcases Int.lt_or_eq_of_le (show m ≤ k by omega) with g2 | g2
       · have := h3 m g g2; omega
       · subst g2; omega
     · rcases Int.lt_or_eq_of_le g with g | g
       · have hm := h1.2.1.left m m0 (by omega)
         simp only at hm
         have a0 := Stk.lo h1.2.2
         have hat := h1.1
         have r1 := hr a t a0 hat (by omega)
         have r2 := hr m t m0 g (by omega)
         have id1 : (phiK K (p t) - phiK K (p a)) * crossI (p t) (p k) (p m) = (phiK K (p k) - phiK K (p t)) * crossI (p a) (p t) (p m) + (phiK K (p t) - phiK K (p m)) * crossI (p a) (p t) (p k) := by simp only [crossI, phiK]; grind
         have m1 := Int.mul_nonneg (show 0 ≤ phiK K (p k) - phiK K (p t) by omega) hm
         have m2 := Int.mul_nonneg (show 0 ≤ phiK K (p t) - phiK K (p m) by omega) hl
         exact nonneg_of (show 0 < phiK K (p t) - phiK K (p a) by omega) id1 (by omega)
       · subst g; omega
   · simp only at z ⊢
     refine ⟨fun q => ?_, by omega⟩
     have := h3 m q.1 q.2; omega
def linksS : List Int → List (Int × Int)
 | t :: a :: s => (a, t) :: linksS (a :: s)
 | _ => []
theorem stk_mem {k : Int} : ∀ {s : List Int} {e : Int × Int}, Stk p k s → e ∈ linksS s → e.1 < e.2 ∧ OuterE p k e
 | [x], e, h, he => by simp [linksS] at he
 | t :: a :: s, e, h, he => by
   simp only [linksS, List.mem_cons] at he
   rcases he with rfl | he
   · exact ⟨h.1, h.2.1⟩
   · exact stk_mem h.2.2 he
theorem stk_level {k i : Int} (h0 : 0 ≤ i) : ∀ {s : List Int} {t : Int}, Stk p k (t :: s) → i < t → ∃ e ∈ linksS (t :: s), e.1 ≤ i ∧ i < e.2
 | [], t, h, hi => by simp only [Stk] at h; omega
 | a :: s, t, h, hi => by
   rcases Int.lt_or_le i a with g | g
   · obtain ⟨e, h1, h2⟩ := stk_level h0 h.2.2 g
     exact ⟨e, List.mem_cons_of_mem _ h1, h2⟩
   · exact ⟨(a, t), by simp [linksS], g, hi⟩
theorem stk_edges (hr : Rising p K n) {s : List Int} (h : Stk p n ((n - 1) :: s)) {e : Int × Int} : e ∈ linksS ((n - 1) :: s) ↔ e.1 < e.2 ∧ OuterE p n e := by
 constructor
 · exact stk_mem h
 · rintro ⟨h1, h2⟩
   obtain ⟨f, f1, f2, f3⟩ := stk_level h2.l1 h (by have := h2.u2; omega)
   have fo := stk_mem h f1
   have a1 := h2.l1; have a2 := h2.u2; have b1 := fo.2.l1; have b2 := fo.2.u2; have b3 := fo.1
   have hi : e.1 + 1 < n := by omega
   have te := (midV_thru hr a1 hi a1 (by omega) (by omega) a2).2 ⟨Int.le_refl _, h1⟩
   have tf := (midV_thru hr a1 hi b1 (by omega) (by omega) b2).2 ⟨f2, f3⟩
   rw [outer_one hr (by simp [midV]) h2 te fo.2 tf]
   exact f1
end
end Go.Proofs.Ytollcjadobpfdaa.Rw
namespace Go.Proofs.Ytollcjadobpfdaa.Rw
set_option linter.unusedVariables false
set_option linter.unusedSimpArgs false
def allE (N : Nat) : List (Int × Int) := (List.range N).flatMap fun (i : Nat) => (List.range N).map fun (k : Nat) => ((i : Int), (k : Int))
theorem allE_mem {N : Nat} {e : Int × Int} : e ∈ allE N ↔ 0 ≤ e.1 ∧ e.1 < N ∧ 0 ≤ e.2 ∧ e.2 < N := by
 unfold allE
 rw [List.mem_flatMap]
 constructor
 · rintro ⟨i, hi, h⟩
   obtain ⟨k, hk, rfl⟩ := List.mem_map.1 h
   rw [List.mem_range] at hi hk
   simp only
   omega
 · rintro ⟨a, b, c, d⟩
   exact ⟨e.1.toNat, List.mem_range.2 (by omega), List.mem_map.2 ⟨e.2.toNat, List.mem_range.2 (by omega), Prod.ext (by simp only; omega) (by simp only; omega)⟩⟩
theorem allE_nodup (N : Nat) : (allE N).Nodup := by
 unfold allE
 refine List.pairwise_flatMap.2 ⟨fun i _ => ?_, ?_⟩
 · rw [List.pairwise_map]
   refine List.Pairwise.imp (R := fun a b : Nat => a ≠ b) (fun {a b} h => ?_) List.nodup_range
   intro z
   refine h ?_
   simp only [Prod.mk.injEq] at z
   omega
 · refine List.Pairwise.imp (R := fun a b : Nat => a ≠ b) (fun {a b} h => ?_) List.nodup_range
   intro x hx y hy z
   refine h ?_
   subst z
   obtain ⟨k, _, rfl⟩ := List.mem_map.1 hx
   obtain ⟨k', _, e⟩ := List.mem_map.1 hy
   simp only [Prod.mk.injEq] at e
   omega
section
variable {p : Int → Int × Int} {K n : Int} {c d : Cell3} {cs : List Cell3} {M : List (Int × Int)}
open Classical in
noncomputable def maxL (p : Int → Int × Int) (N : Nat) : List (Int × Int) := (allE N).filter fun e => decide (MaxE p N e ∧ e.1 ≠ e.2)
open Classical in
noncomputable def outL (p : Int → Int × Int) (N : Nat) : List (Int × Int) := (allE N).filter fun e => decide (OuterE p N e ∧ e.1 ≠ e.2)
theorem maxL_mem {N : Nat} {e : Int × Int} : e ∈ maxL p N ↔ MaxE p N e ∧ e.1 ≠ e.2 := by
 classical
 unfold maxL
 rw [List.mem_filter, decide_eq_true_iff, allE_mem]
 exact ⟨fun h => h.2, fun h => ⟨⟨h.1.l1, h.1.u1, h.1.l2, h.1.u2⟩, h⟩⟩
theorem outL_mem {N : Nat} {e : Int × Int} : e ∈ outL p N ↔ OuterE p N e ∧ e.1 ≠ e.2 := by
 classical
 unfold outL
 rw [List.mem_filter, decide_eq_true_iff, allE_mem]
 exact ⟨fun h => h.2, fun h => ⟨⟨h.1.l1, h.1.u1, h.1.l2, h.1.u2⟩, h⟩⟩
def TilesV (p : Int → Int × Int) (n : Int) (cs : List Cell3) : Prop :=
 (edgesL cs).Nodup ∧ (∀ e ∈ edgesL cs, OuterE p n e ↔ (e.2, e.1) ∉ edgesL cs) ∧ ∀ i, 0 ≤ i → i < n → ∃ c ∈ cs, cornerC c i
def TilesM (p : Int → Int × Int) (N : Nat) (cs : List Cell3) : Prop :=
 (∀ c ∈ cs, ∀ d ∈ cs, c ≠ d → partedBy p c d ∨ partedBy p d c) ∧ (∀ c ∈ cs, ∀ r : Int, 0 ≤ r → r < N → ¬ cornerC c r → ¬ ∀ e ∈ edgesC c, 0 ≤ crossI (p e.1) (p e.2) (p r)) ∧ (∀ i : Int, 0 ≤ i → i < N → ∃ c ∈ cs, cornerC c i) ∧
 sumF (fun c => crossI (p c.1) (p c.2.1) (p c.2.2)) cs = sumF (shoe p) (maxL p N)
theorem tiles_iff {N : Nat} (hK : 0 < K) (hr : Rising p K N) (hc : ∀ c ∈ cs, CellOK p N c) (hn : cs.Nodup) (hne : cs ≠ []) : TilesV p N cs ↔ TilesM p N cs := by
 constructor
 · rintro ⟨h1, h2, h3⟩
   have hV : MeshV p K N cs := ⟨hK, hr, hc, h1, h2, h3⟩
   have nO : (outL p N).Nodup := (allE_nodup N).filter _
   have nM : (maxL p N).Nodup := (allE_nodup N).filter _
   have h0 : (1 : Int) ≤ N := by
    cases cs with
    | nil => exact absurd rfl hne
    | cons c l => have := (hc c (by simp)).lo; have := (hc c (by simp)).b; have := (hc c (by simp)).bn; omega
   refine ⟨fun c h d h' hne => hV.parted h h' hne, fun c h r r0 r1 hr' => hV.empty h r0 r1 hr', h3, ?_⟩
   rw [hV.area nO fun e => outL_mem]
   exact hull_same hr h0 nO nM (fun e => outL_mem) fun e => maxL_mem
 · rintro ⟨h1, h2, h3, h4⟩
   have hM : MeshM p K N cs (maxL p N) := ⟨hK, hr, hc, hn, h1, h2, h3, (allE_nodup N).filter _, fun e => maxL_mem, h4⟩
   have hV := hM.meshV
   exact ⟨hV.nod, hV.rim, h3⟩
end
end Go.Proofs.Ytollcjadobpfdaa.Rw
namespace Go.Proofs.Ytollcjadobpfdaa.Rw
set_option linter.unusedVariables false
set_option linter.unusedSimpArgs false
def ptA (l : List (Int × Int)) (i : Int) : Int × Int := l.getD i.toNat (0, 0)
def okQ (q : Int × Int) : Prop := -1048576 ≤ q.1 ∧ q.1 ≤ 1048576 ∧ -1048576 ≤ q.2 ∧ q.2 ≤ 1048576
def ltQ (x y : Int × Int) : Prop := x.1 < y.1 ∨ x.1 = y.1 ∧ x.2 < y.2
def ltC3 (x y : Cell3) : Prop := x.1 < y.1 ∨ x.1 = y.1 ∧ (x.2.1 < y.2.1 ∨ x.2.1 = y.2.1 ∧ x.2.2 < y.2.2)
theorem ptA_ok {l : List (Int × Int)} (h : ∀ q ∈ l, okQ q) (i : Int) : okQ (ptA l i) := by
 unfold ptA
 rw [List.getD_eq_getElem?_getD]
 by_cases g : i.toNat < l.length
 · rw [List.getElem?_eq_getElem g]; exact h _ (List.getElem_mem g)
 · rw [List.getElem?_eq_none (by omega)]; simp [okQ]
theorem rows_up {α : Type} {R : α → α → Prop} (tr : ∀ {a b c}, R a b → R b c → R a c) (f : Int → α) {n : Int} (h : ∀ i, 1 ≤ i → i < n → R (f (i - 1)) (f i)) : ∀ (d : Nat) (i : Int), 0 ≤ i → i + d + 1 < n → R (f i) (f (i + d + 1))
 | 0, i, h0, h1 => by
   have := h (i + 1) (by omega) (by omega)
   rw [show i + 1 - 1 = i by omega] at this
   simpa using this
 | d + 1, i, h0, h1 => by
   have h1' : i + (d : Int) + 1 + 1 < n := by omega
   have a := rows_up (R := R) tr f h d i h0 (by omega)
   have b := h (i + d + 2) (by omega) (by omega)
   rw [show i + (d : Int) + 2 - 1 = i + d + 1 by omega] at b
   have := tr a b
   rw [show i + ((d + 1 : Nat) : Int) + 1 = i + d + 2 by omega]
   exact this
theorem ltQ_trans {a b c : Int × Int} (h1 : ltQ a b) (h2 : ltQ b c) : ltQ a c := by unfold ltQ at *; omega
theorem ltC3_trans {a b c : Cell3} (h1 : ltC3 a b) (h2 : ltC3 b c) : ltC3 a c := by unfold ltC3 at *; omega
def sortedQ (l : List (Int × Int)) : Prop := ∀ i : Int, 1 ≤ i → i < l.length → ltQ (ptA l (i - 1)) (ptA l i)
theorem sortedQ_lt {l : List (Int × Int)} (h : sortedQ l) {i j : Int} (h0 : 0 ≤ i) (h1 : i < j) (h2 : j < l.length) : ltQ (ptA l i) (ptA l j) := by
 have := rows_up (R := ltQ) ltQ_trans (ptA l) (n := l.length) h (j - i - 1).toNat i h0 (by omega)
 rwa [show i + ((j - i - 1).toNat : Int) + 1 = j by omega] at this
theorem rising_of {l : List (Int × Int)} (ho : ∀ q ∈ l, okQ q) (h : sortedQ l) : Rising (ptA l) 2097153 l.length := fun i j h0 h1 h2 => by
 have a := ptA_ok ho i
 have b := ptA_ok ho j
 have c := sortedQ_lt h h0 h1 h2
 unfold okQ at a b
 unfold ltQ at c
 unfold phiK
 omega
theorem ltQ_iff {l : List (Int × Int)} (h : sortedQ l) {i j : Int} (i0 : 0 ≤ i) (i1 : i < l.length) (j0 : 0 ≤ j) (j1 : j < l.length) : ltQ (ptA l i) (ptA l j) ↔ i < j := by
 constructor
 · intro g
   rcases Int.lt_or_le i j with q | q
   · exact q
   · rcases Int.lt_or_eq_of_le q with q | q
     · have := sortedQ_lt h j0 q i1
       unfold ltQ at *; omega
     · subst q; unfold ltQ at g; omega
 · exact fun g => sortedQ_lt h i0 g j1
def ctA (l : List Cell3) (i : Int) : Cell3 := l.getD i.toNat (0, 0, 0)
def sortedC (l : List Cell3) : Prop := ∀ i : Int, 1 ≤ i → i < l.length → ltC3 (ctA l (i - 1)) (ctA l i)
theorem sortedC_nodup {l : List Cell3} (h : sortedC l) : l.Nodup := by
 refine List.pairwise_iff_getElem.2 fun i j hi hj hij e => ?_
 have := rows_up (R := ltC3) ltC3_trans (ctA l) (n := l.length) h (j - i - 1) i (by omega) (by omega)
 rw [show (i : Int) + ((j - i - 1 : Nat) : Int) + 1 = (j : Int) by omega] at this
 unfold ctA at this
 simp only [Int.toNat_natCast, List.getD_eq_getElem?_getD, List.getElem?_eq_getElem hi, List.getElem?_eq_getElem hj, Option.getD_some, e] at this
 unfold ltC3 at this
 omega
structure FormOK (ps : List (Int × Int)) (cs : List Cell3) : Prop where
 len : ps.length ≤ 200
 clen : cs.length ≤ 400
 ok : ∀ q ∈ ps, okQ q
 up : sortedQ ps
 cup : sortedC cs
 cell : ∀ c ∈ cs, CellOK (ptA ps) ps.length c
theorem FormOK.iff {ps : List (Int × Int)} {cs : List Cell3} (h : FormOK ps cs) (hne : cs ≠ []) : TilesV (ptA ps) ps.length cs ↔ TilesM (ptA ps) ps.length cs :=
 tiles_iff (by decide) (rising_of h.ok h.up) h.cell (sortedC_nodup h.cup) hne
theorem maxE_iff {ps : List (Int × Int)} (h : sortedQ ps) {i k : Int} (i0 : 0 ≤ i) (i1 : i < ps.length) (k0 : 0 ≤ k) (k1 : k < ps.length) :
 MaxE (ptA ps) ps.length (i, k) ↔ ∀ m : Int, 0 ≤ m → m < ps.length → ¬ (crossI (ptA ps i) (ptA ps k) (ptA ps m) < 0 ∨ crossI (ptA ps i) (ptA ps k) (ptA ps m) = 0 ∧ m ≠ i ∧ m ≠ k ∧ (ltQ (ptA ps m) (ptA ps i) ↔ ltQ (ptA ps m) (ptA ps k))) := by
 constructor
 · intro g m m0 m1 z
   rcases z with z | ⟨z, a, b, c⟩
   · have := g.left m m0 m1; simp only at this; omega
   · have := g.all m m0 m1 z
     rw [ltQ_iff h m0 m1 i0 i1, ltQ_iff h m0 m1 k0 k1] at c
     simp only at this
     omega
 · intro g
   refine ⟨i0, k0, i1, k1, fun m m0 m1 => ?_, fun m m0 m1 z => ?_⟩
   · have := g m m0 m1; simp only; omega
   · have := g m m0 m1
     rw [ltQ_iff h m0 m1 i0 i1, ltQ_iff h m0 m1 k0 k1] at this
     simp only at z ⊢
     omega
end Go.Proofs.Ytollcjadobpfdaa.Rw
namespace Go.Proofs.Ytollcjadobpfdaa.Rw
open Go.Rx
set_option linter.unusedVariables false
set_option linter.unusedSimpArgs false
theorem mul_size {A B x y : Int} (h1 : -A ≤ x) (h2 : x ≤ A) (h3 : -B ≤ y) (h4 : y ≤ B) : -(A * B) ≤ x * y ∧ x * y ≤ A * B := by
 have a := Int.mul_nonneg (show 0 ≤ A - x by omega) (show 0 ≤ B - y by omega)
 have b := Int.mul_nonneg (show 0 ≤ A + x by omega) (show 0 ≤ B + y by omega)
 have c := Int.mul_nonneg (show 0 ≤ A - x by omega) (show 0 ≤ B + y by omega)
 have d := Int.mul_nonneg (show 0 ≤ A + x by omega) (show 0 ≤ B - y by omega)
 have e1 : (A - x) * (B - y) = A * B - A * y - x * B + x * y := by grind
 have e2 : (A + x) * (B + y) = A * B + A * y + x * B + x * y := by grind
 have e3 : (A - x) * (B + y) = A * B + A * y - x * B - x * y := by grind
 have e4 : (A + x) * (B - y) = A * B - A * y + x * B - x * y := by grind
 omega
def sg (x : Int) : Int := if 0 < x then 1 else if x < 0 then -1 else 0
theorem sg_pos {x : Int} : 0 < sg x ↔ 0 < x := by
 unfold sg
 repeat' split
 all_goals omega
theorem sg_neg {x : Int} : sg x < 0 ↔ x < 0 := by
 unfold sg
 repeat' split
 all_goals omega
theorem sg_zero {x : Int} : sg x = 0 ↔ x = 0 := by
 unfold sg
 repeat' split
 all_goals omega
theorem sg_one {x : Int} : sg x = 1 ↔ 0 < x := by
 unfold sg
 repeat' split
 all_goals omega
theorem sg_cases (x : Int) : sg x = 1 ∨ sg x = -1 ∨ sg x = 0 := by
 unfold sg
 repeat' split
 all_goals omega
theorem cross_size {a b c : Int × Int} (ha : okQ a) (hb : okQ b) (hc : okQ c) : -8796093022208 ≤ crossI a b c ∧ crossI a b c ≤ 8796093022208 := by
 unfold okQ at *
 have h1 := mul_size (A := 2097152) (B := 2097152) (x := b.1 - a.1) (y := c.2 - a.2) (by omega) (by omega) (by omega) (by omega)
 have h2 := mul_size (A := 2097152) (B := 2097152) (x := c.1 - a.1) (y := b.2 - a.2) (by omega) (by omega) (by omega) (by omega)
 unfold crossI
 omega
theorem cross_w64 {a b c : Int × Int} (ha : okQ a) (hb : okQ b) (hc : okQ c) : w64 (w64 (w64 (b.1 - a.1) * w64 (c.2 - a.2)) - w64 (w64 (c.1 - a.1) * w64 (b.2 - a.2))) = crossI a b c := by
 have hs := cross_size ha hb hc
 unfold okQ at *
 have h1 := mul_size (A := 2097152) (B := 2097152) (x := b.1 - a.1) (y := c.2 - a.2) (by omega) (by omega) (by omega) (by omega)
 have h2 := mul_size (A := 2097152) (B := 2097152) (x := c.1 - a.1) (y := b.2 - a.2) (by omega) (by omega) (by omega) (by omega)
 rw [w64_id (n := b.1 - a.1) (by omega) (by omega), w64_id (n := c.2 - a.2) (by omega) (by omega), w64_id (n := c.1 - a.1) (by omega) (by omega), w64_id (n := b.2 - a.2) (by omega) (by omega)]
 rw [w64_id (n := (b.1 - a.1) * (c.2 - a.2)) (by omega) (by omega), w64_id (n := (c.1 - a.1) * (b.2 - a.2)) (by omega) (by omega)]
 unfold crossI at *
 exact w64_id (by omega) (by omega)
theorem turnR {k : Nat} {a b c : Int × Int} (ha : okQ a) (hb : okQ b) (hc : okQ c) : f64 k a b c = some (sg (crossI a b c), ()) := by
 simp only [f64, f64_entry_B]
 rw [cross_w64 ha hb hc]
 unfold sg
 split
 · rfl
 · split <;> rfl
theorem clamp_ok {k : Nat} {a : Int × Int} (ha : okQ a) : f56 k a = some (a, ()) := by
 unfold okQ at ha
 simp only [f56, f56_entry_B, f89, f89_entry_B, Option.bind_some, mx2_min, mx2_max]
 rw [w64_id (by omega) (by omega)]
 have e1 : max (0 - 1048576) (min a.1 1048576) = a.1 := by omega
 have e2 : max (0 - 1048576) (min a.2 1048576) = a.2 := by omega
 rw [e1, e2]
theorem clamp_in (k : Nat) (a : Int × Int) : ∃ b, f56 k a = some (b, ()) ∧ okQ b ∧ (a = b ↔ okQ a) := by
 refine ⟨(max (0 - 1048576) (min a.1 1048576), max (0 - 1048576) (min a.2 1048576)), ?_, ?_, ?_⟩
 · simp only [f56, f56_entry_B, f89, f89_entry_B, Option.bind_some, mx2_min, mx2_max]
   rw [w64_id (by omega) (by omega)]
 · unfold okQ; simp only; omega
 · unfold okQ
   constructor
   · intro h; have h1 := congrArg Prod.fst h; have h2 := congrArg Prod.snd h; simp only at h1 h2; omega
   · intro h; exact Prod.ext (by simp only; omega) (by simp only; omega)
open Classical in
theorem ok_ev (k : Nat) (a : Int × Int) : f49 k a = some (decide (okQ a), ()) := by
 obtain ⟨b, h1, h2, h3⟩ := clamp_in k a
 simp only [f49, f49_entry_B]
 rw [h1, Option.bind_some]
 congr 2
 rw [← h3]
 simp only [decide_eq_decide]
 constructor
 · exact fun h => Prod.ext h.1 h.2
 · intro h; rw [← h]; exact ⟨rfl, rfl⟩
open Classical in
theorem pointOK_ev (k : Nat) (a : Int × Int) : f14 k a = some (decide (okQ a), ()) := by
 simp only [f14, f14_entry_B, f14_r1, f14_r1_B]
 unfold okQ
 by_cases h1 : (-1048576) ≤ a.1 <;> by_cases h2 : a.1 ≤ 1048576 <;> by_cases h3 : (-1048576) ≤ a.2 <;> by_cases h4 : a.2 ≤ 1048576 <;> simp [h1, h2, h3, h4]
theorem cmpI (k : Nat) (a b : Int) : f79 k a b = some (if a < b then -1 else if b < a then 1 else 0, ()) := by
 simp only [f79, f79_entry_B, f101, f101_entry_B]
 by_cases h1 : a < b <;> by_cases h2 : b < a <;> simp [h1, h2]
theorem crossP {k : Nat} {a b c : Int × Int} (ha : okQ a) (hb : okQ b) (hc : okQ c) : f50 k a b c = some (crossI a b c, ()) := by
 simp only [f50, f50_entry_B, f84, f84_entry_B]
 have e : ∀ {q : Int × Int}, okQ q → f56 k (q.1, q.2) = some (q, ()) := fun h => clamp_ok h
 rw [e ha, e hb, e hc]
 simp only [Option.bind_some]
 have hs := cross_size ha hb hc
 unfold okQ at *
 have h1 := mul_size (A := 2097152) (B := 2097152) (x := b.1 - a.1) (y := c.2 - a.2) (by omega) (by omega) (by omega) (by omega)
 have h2 := mul_size (A := 2097152) (B := 2097152) (x := b.2 - a.2) (y := c.1 - a.1) (by omega) (by omega) (by omega) (by omega)
 rw [w64_id (n := b.1 - a.1) (by omega) (by omega), w64_id (n := c.2 - a.2) (by omega) (by omega), w64_id (n := c.1 - a.1) (by omega) (by omega), w64_id (n := b.2 - a.2) (by omega) (by omega)]
 rw [w64_id (n := (b.1 - a.1) * (c.2 - a.2)) (by omega) (by omega), w64_id (n := (b.2 - a.2) * (c.1 - a.1)) (by omega) (by omega)]
 have e2 : (b.1 - a.1) * (c.2 - a.2) - (b.2 - a.2) * (c.1 - a.1) = crossI a b c := by unfold crossI; grind
 rw [e2, w64_id (by omega) (by omega)]
theorem turnP {k : Nat} {a b c : Int × Int} (ha : okQ a) (hb : okQ b) (hc : okQ c) : f55 k a b c = some (sg (crossI a b c), ()) := by
 simp only [f55, f55_entry_B]
 have e := crossP (k := k) ha hb hc
 rw [show f50 k (a.1, a.2) (b.1, b.2) (c.1, c.2) = f50 k a b c from rfl, e, Option.bind_some, cmpI, Option.bind_some]
 congr 2
 unfold sg
 rcases Int.lt_trichotomy (crossI a b c) 0 with g | g | g
 · simp only; rw [if_pos g, if_neg (by omega), if_pos g]
 · simp only; rw [g]; rfl
 · simp only; rw [if_neg (by omega), if_pos g, if_pos g]
open Classical in
theorem cmpQ_ev (k : Nat) (a b : Int × Int) : f107 k a b = some (if ltQ a b then -1 else if ltQ b a then 1 else 0, ()) := by
 simp only [f107, f107_entry_B, cmpI, Option.bind_some]
 unfold ltQ
 rcases Int.lt_trichotomy a.1 b.1 with g | g | g
 · simp [g]
 · rw [g]
   rcases Int.lt_trichotomy a.2 b.2 with g2 | g2 | g2
   · simp [g2]
   · simp [g2]
   · have : ¬ a.2 < b.2 := by omega
     simp [g2, this]
 · have h1 : ¬ a.1 < b.1 := by omega
   have h2 : ¬ a.1 = b.1 := by omega
   simp [g, h1, h2]
theorem less_ev (k : Nat) {a b : Int × Int} (ha : okQ a) (hb : okQ b) : ∃ r, f81 k a b = some (r, ()) ∧ (r < 0 ↔ ltQ a b) := by
 simp only [f81, f81_entry_B]
 unfold okQ at *
 unfold ltQ
 by_cases h : a.1 = b.1
 · rw [if_neg (fun z => z h)]
   exact ⟨_, rfl, by rw [w64_id (by omega) (by omega)]; omega⟩
 · rw [if_pos h]
   exact ⟨_, rfl, by rw [w64_id (by omega) (by omega)]; omega⟩
theorem cmp3_ev (k : Nat) (x y : Cell3) : ∃ r, f41 (k + 4) [x.1, x.2.1, x.2.2] [y.1, y.2.1, y.2.2] = some (r, ()) ∧ (r < 0 ↔ ltC3 x y) ∧ (0 < r ↔ ltC3 y x) := by
 obtain ⟨a, b, c⟩ := x
 obtain ⟨d, e, g⟩ := y
 have w1 : w64 1 = 1 := w64_id (by omega) (by omega)
 have w2 : w64 2 = 2 := w64_id (by omega) (by omega)
 have w3 : w64 3 = 3 := w64_id (by omega) (by omega)
 simp only [f41, f41_entry_B]
 unfold ltC3
 simp only
 rcases Int.lt_trichotomy a d with h1 | h1 | h1
 · refine ⟨-1, ?_, by omega, by omega⟩
   simp [f41_l0, f41_l0_B, cmpI, w1, w2, w3, h1]
 · subst h1
   rcases Int.lt_trichotomy b e with h2 | h2 | h2
   · refine ⟨-1, ?_, by omega, by omega⟩
     simp [f41_l0, f41_l0_B, cmpI, w1, w2, w3, h2]
   · subst h2
     rcases Int.lt_trichotomy c g with h3 | h3 | h3
     · refine ⟨-1, ?_, by omega, by omega⟩
       simp [f41_l0, f41_l0_B, cmpI, w1, w2, w3, h3]
     · subst h3
       refine ⟨0, ?_, by omega, by omega⟩
       simp [f41_l0, f41_l0_B, cmpI, w1, w2, w3]
     · refine ⟨1, ?_, by omega, by omega⟩
       have : ¬ c < g := by omega
       simp [f41_l0, f41_l0_B, cmpI, w1, w2, w3, h3, this]
   · refine ⟨1, ?_, by omega, by omega⟩
     have : ¬ b < e := by omega
     simp [f41_l0, f41_l0_B, cmpI, w1, w2, w3, h2, this]
 · refine ⟨1, ?_, by omega, by omega⟩
   have : ¬ a < d := by omega
   simp [f41_l0, f41_l0_B, cmpI, w1, w2, w3, h1, this]
end Go.Proofs.Ytollcjadobpfdaa.Rw
namespace Go.Proofs.Ytollcjadobpfdaa.Rw
open Go.Rx
set_option linter.unusedVariables false
set_option linter.unusedSimpArgs false
def inR (ps : List (Int × Int)) (a : Int) : Prop := 0 ≤ a ∧ a < ps.length
open Classical in
noncomputable def cellF (ps : List (Int × Int)) (cs : List Cell3) (i : Int) : Int :=
 if ¬ (inR ps (ctA cs i).1 ∧ inR ps (ctA cs i).2.1 ∧ inR ps (ctA cs i).2.2) then 1
 else if (ctA cs i).2.1 < (ctA cs i).1 ∨ (ctA cs i).2.2 < (ctA cs i).1 ∨ (0 < i ∧ ¬ ltC3 (ctA cs (i - 1)) (ctA cs i)) then 9
 else if crossI (ptA ps (ctA cs i).1) (ptA ps (ctA cs i).2.1) (ptA ps (ctA cs i).2.2) ≤ 0 then 3 else 0
noncomputable def cellsF (ps : List (Int × Int)) (cs : List Cell3) : Nat → Int → Int
 | 0, _ => 0
 | d + 1, i => if cellF ps cs i = 0 then cellsF ps cs d (i + 1) else cellF ps cs i
open Classical in
noncomputable def formV (ps : List (Int × Int)) (cs : List Cell3) : Int :=
 if 200 < ps.length ∨ 400 < cs.length then 2 else if ¬ ∀ q ∈ ps, okQ q then 1 else if ¬ sortedQ ps then 9 else cellsF ps cs cs.length 0
theorem ok_all {ps : List (Int × Int)} : (∀ j : Int, 0 ≤ j → j < ps.length → okQ (ptA ps j)) ↔ ∀ q ∈ ps, okQ q := by
 constructor
 · intro h q hq
   obtain ⟨i, hi, rfl⟩ := List.mem_iff_getElem.1 hq
   have := h i (by omega) (by omega)
   unfold ptA at this
   simpa [List.getD_eq_getElem?_getD, List.getElem?_eq_getElem hi] using this
 · exact fun h j _ _ => ptA_ok h j
section
variable {ps : List (Int × Int)} {cs : List Cell3} {k : Nat}
open Classical in
theorem form_l0 (h2 : ps.length ≤ 200) : ∀ (d : Nat) (i n : Nat), i + d = ps.length → d < n → f85_l0 k n ps cs (ps.length : Int) (i : Int) = if ∀ j : Int, i ≤ j → j < ps.length → okQ (ptA ps j) then f85_l2 k k ps cs 1 else some (1, ())
 | 0, i, n + 1, hd, hn => by
   rw [f85_l0, f85_l0_B, if_neg (by omega), if_pos (fun j h1 h2 => by omega)]
 | d + 1, i, n + 1, hd, hn => by
   rw [f85_l0, f85_l0_B, if_pos (by omega), if_pos (by omega), if_pos (by omega)]
   rw [show ((ps.getD ((i : Int)).toNat (0, 0)).1, (ps.getD ((i : Int)).toNat (0, 0)).2) = ptA ps i from rfl, ok_ev, Option.bind_some]
   simp only
   rw [w64_id (by omega) (by omega), show (i : Int) + 1 = ((i + 1 : Nat) : Int) by omega]
   by_cases h : okQ (ptA ps i)
   · rw [if_neg (by simp [h]), form_l0 h2 d (i + 1) n (by omega) (by omega)]
     by_cases g : ∀ j : Int, ((i + 1 : Nat) : Int) ≤ j → j < ps.length → okQ (ptA ps j)
     · rw [if_pos g, if_pos (fun j h1 h2 => ?_)]
       rcases Int.lt_or_eq_of_le h1 with q | q
       · exact g j (by omega) h2
       · subst q; exact h
     · rw [if_neg g, if_neg (fun z => g fun j h1 h2 => z j (by omega) h2)]
   · rw [if_pos (by simp [h]), if_neg (fun z => h (z i (by omega) (by omega)))]
open Classical in
theorem form_l2 (h2 : ps.length ≤ 200) : ∀ (d : Nat) (i n : Nat), 1 ≤ i → i + d = ps.length + 1 → d < n → f85_l2 k n ps cs (i : Int) = if ∀ j : Int, i ≤ j → j < ps.length → ltQ (ptA ps (j - 1)) (ptA ps j) then f85_l4 k k ps cs (cs.length : Int) 0 else some (9, ())
 | 0, i, n + 1, h1, hd, hn => by
   rw [f85_l2, f85_l2_B, if_neg (by omega), if_pos (fun j h1 h2 => by omega)]
 | d + 1, i, n + 1, h1, hd, hn => by
   rw [f85_l2, f85_l2_B]
   by_cases hi : (i : Int) < (ps.length : Int)
   · rw [w64_id (n := (i : Int) - 1) (by omega) (by omega), if_pos hi, if_pos (by omega), if_pos (by omega), if_pos (by omega), if_pos hi]
     rw [show ((ps.getD ((i : Int)).toNat (0, 0)).1, (ps.getD ((i : Int)).toNat (0, 0)).2) = ptA ps i from rfl, show ((ps.getD ((i : Int) - 1).toNat (0, 0)).1, (ps.getD ((i : Int) - 1).toNat (0, 0)).2) = ptA ps ((i : Int) - 1) from rfl, cmpQ_ev, Option.bind_some]
     simp only
     rw [w64_id (by omega) (by omega), show (i : Int) + 1 = ((i + 1 : Nat) : Int) by omega]
     by_cases h : ltQ (ptA ps ((i : Int) - 1)) (ptA ps i)
     · rw [if_pos h, if_neg (by omega), form_l2 h2 d (i + 1) n (by omega) (by omega) (by omega)]
       by_cases g : ∀ j : Int, ((i + 1 : Nat) : Int) ≤ j → j < ps.length → ltQ (ptA ps (j - 1)) (ptA ps j)
       · rw [if_pos g, if_pos (fun j h1 h2 => ?_)]
         rcases Int.lt_or_eq_of_le h1 with q | q
         · exact g j (by omega) h2
         · subst q; exact h
       · rw [if_neg g, if_neg (fun z => g fun j h1 h2 => z j (by omega) h2)]
     · rw [if_neg h, if_pos (by split <;> omega), if_neg (fun z => h (z i (by omega) hi))]
   · rw [if_neg hi, if_pos (fun j h1 h2 => by omega)]
open Classical in
theorem form_l6 {r4 : f85_t_l4} {x53 x54 : Int} (a b c : Int) (n : Nat) (hn : 4 ≤ n) : f85_l6 k r4 n ps cs a b c x53 x54 0 = if inR ps a ∧ inR ps b ∧ inR ps c then (if b < a then (f85_r23 k r4 ps cs (a, (b, c)) x53 x54 true) else (if c < a then (f85_r23 k r4 ps cs (a, (b, c)) x53 x54 true) else (if 0 < x54 then (if 0 ≤ (w64 (x54 - 1)) then (if (w64 (x54 - 1)) < (cs.length : Int) then ((f41 k ([(cs.getD (w64 (x54 - 1)).toNat (0, (0, 0))).1, ((cs.getD (w64 (x54 - 1)).toNat (0, (0, 0))).2).1, ((cs.getD (w64 (x54 - 1)).toNat (0, (0, 0))).2).2]) ([a, b, c])).bind fun r1 => (f85_r23 k r4 ps cs (a, (b, c)) x53 x54 (decide (0 ≤ r1.1)))) else none) else none) else (f85_r23 k r4 ps cs (a, (b, c)) x53 x54 false)))) else some (1, ()) := by
 obtain ⟨n, rfl⟩ : ∃ m, n = m + 4 := ⟨n - 4, by omega⟩
 have w1 : w64 1 = 1 := w64_id (by omega) (by omega)
 have w2 : w64 2 = 2 := w64_id (by omega) (by omega)
 have w3 : w64 3 = 3 := w64_id (by omega) (by omega)
 have step : ∀ (m : Nat) (x : Int) (q : Int), 0 ≤ x → x < 3 → ([a, b, c] : List Int).getD x.toNat 0 = q → f85_l6 k r4 (m + 1) ps cs a b c x53 x54 x = if inR ps q then f85_l6 k r4 m ps cs a b c x53 x54 (x + 1) else some (1, ()) := fun m x q h0 h3 hq => by
  rw [f85_l6, f85_l6_B, if_pos h3, if_pos h0, if_pos h3, hq]
  simp only [f85_r20, f85_r20_B]
  rw [w64_id (by omega) (by omega)]
  unfold inR
  by_cases h1 : q < 0
  · rw [if_pos h1, if_pos trivial, if_neg (by omega)]
  · rw [if_neg h1]
    by_cases h2 : (ps.length : Int) ≤ q
    · rw [if_pos (decide_eq_true h2), if_neg (by omega)]
    · rw [if_neg (by simp; omega), if_pos (by omega)]
 rw [step (n + 3) 0 a (by omega) (by omega) rfl]
 by_cases ha : inR ps a
 · rw [if_pos ha, step (n + 2) (0 + 1) b (by omega) (by omega) rfl]
   by_cases hb : inR ps b
   · rw [if_pos hb, step (n + 1) (0 + 1 + 1) c (by omega) (by omega) rfl]
     by_cases hc : inR ps c
     · rw [if_pos hc, if_pos ⟨ha, hb, hc⟩, f85_l6, f85_l6_B, if_neg (by omega)]
     · rw [if_neg hc, if_neg (fun z => hc z.2.2)]
   · rw [if_neg hb, if_neg (fun z => hb z.2.1)]
 · rw [if_neg ha, if_neg (fun z => ha z.1)]
open Classical in
theorem form_r23 {r4 : f85_t_l4} {c : Cell3} {x53 x54 : Int} {q : Bool} (ho : ∀ q ∈ ps, okQ q) (h0 : 0 ≤ x54) (h1 : x54 < 400) (hc : inR ps c.1 ∧ inR ps c.2.1 ∧ inR ps c.2.2) : f85_r23 k r4 ps cs c x53 x54 q = if q = true then some (9, ()) else if crossI (ptA ps c.1) (ptA ps c.2.1) (ptA ps c.2.2) ≤ 0 then some (3, ()) else r4 ps cs x53 (x54 + 1) := by
 unfold inR at hc
 obtain ⟨⟨a1, a2⟩, ⟨b1, b2⟩, c1, c2⟩ := hc
 simp only [f85_r23, f85_r23_B]
 by_cases hq : q = true
 · rw [if_pos hq, if_pos hq]
 · rw [if_neg hq, if_neg hq, if_pos a1, if_pos a2, if_pos b1, if_pos b2, if_pos c1, if_pos c2]
   have e : ∀ i : Int, ((ps.getD i.toNat (0, 0)).1, (ps.getD i.toNat (0, 0)).2) = ptA ps i := fun i => rfl
   rw [e, e, e, turnP (ptA_ok ho _) (ptA_ok ho _) (ptA_ok ho _), Option.bind_some]
   simp only
   rw [w64_id (by omega) (by omega)]
   have := @sg_pos (crossI (ptA ps c.1) (ptA ps c.2.1) (ptA ps c.2.2))
   by_cases g : crossI (ptA ps c.1) (ptA ps c.2.1) (ptA ps c.2.2) ≤ 0
   · rw [if_pos (by omega), if_pos g]
   · rw [if_neg (by omega), if_neg g]
open Classical in
theorem form_l4 (hk : 1000 ≤ k) (ho : ∀ q ∈ ps, okQ q) (h2 : cs.length ≤ 400) : ∀ (d : Nat) (i n : Nat), i + d = cs.length → d < n → f85_l4 k n ps cs (cs.length : Int) (i : Int) = some (cellsF ps cs d i, ())
 | 0, i, n + 1, hd, hn => by
   rw [f85_l4, f85_l4_B, if_neg (by omega)]; rfl
 | d + 1, i, n + 1, hd, hn => by
   rw [f85_l4, f85_l4_B, if_pos (by omega), if_pos (by omega), if_pos (by omega), form_l6 _ _ _ _ (by omega)]
   rw [show (cs.getD ((i : Int)).toNat (0, (0, 0))) = ctA cs i from rfl]
   have hF : ∀ v, v ≠ 0 → cellF ps cs i = v → cellsF ps cs (d + 1) i = v := fun v h1 h2 => by unfold cellsF; rw [h2, if_neg h1]
   have h0 : cellF ps cs i = 0 → cellsF ps cs (d + 1) i = cellsF ps cs d (i + 1) := fun h => by unfold cellsF; rw [if_pos h]; cases d <;> rfl
   have ih := form_l4 hk ho h2 d (i + 1) n (by omega) (by omega)
   rw [show (((i + 1 : Nat)) : Int) = (i : Int) + 1 by omega] at ih
   by_cases hr : inR ps (ctA cs i).1 ∧ inR ps (ctA cs i).2.1 ∧ inR ps (ctA cs i).2.2
   · rw [if_pos hr]
     have c1 : ((ctA cs i).2.1 < (ctA cs i).1 ∨ (ctA cs i).2.2 < (ctA cs i).1 ∨ (0 < (i : Int) ∧ ¬ ltC3 (ctA cs ((i : Int) - 1)) (ctA cs i))) → cellsF ps cs (d + 1) i = 9 := fun z => hF 9 (by omega) (by unfold cellF; rw [if_neg (fun q => q hr), if_pos z])
     have c2 : ¬ ((ctA cs i).2.1 < (ctA cs i).1 ∨ (ctA cs i).2.2 < (ctA cs i).1 ∨ (0 < (i : Int) ∧ ¬ ltC3 (ctA cs ((i : Int) - 1)) (ctA cs i))) → (if crossI (ptA ps (ctA cs i).1) (ptA ps (ctA cs i).2.1) (ptA ps (ctA cs i).2.2) ≤ 0 then some (3, ()) else f85_l4 k n ps cs (cs.length : Int) ((i : Int) + 1)) = some (cellsF ps cs (d + 1) i, ()) := fun z => by
      by_cases g : crossI (ptA ps (ctA cs i).1) (ptA ps (ctA cs i).2.1) (ptA ps (ctA cs i).2.2) ≤ 0
      · rw [if_pos g, hF 3 (by omega) (by unfold cellF; rw [if_neg (fun q => q hr), if_neg z, if_pos g])]
      · rw [if_neg g, ih, h0 (by unfold cellF; rw [if_neg (fun q => q hr), if_neg z, if_neg g])]
     have rr : ∀ q, f85_r23 k (f85_l4 k n) ps cs ((ctA cs i).1, ((ctA cs i).2.1, (ctA cs i).2.2)) (cs.length : Int) (i : Int) q = if q = true then some (9, ()) else if crossI (ptA ps (ctA cs i).1) (ptA ps (ctA cs i).2.1) (ptA ps (ctA cs i).2.2) ≤ 0 then some (3, ()) else f85_l4 k n ps cs (cs.length : Int) ((i : Int) + 1) := fun q => form_r23 ho (by omega) (by omega) hr
     by_cases g1 : (ctA cs i).2.1 < (ctA cs i).1
     · rw [if_pos g1, rr, if_pos rfl, c1 (.inl g1)]
     · rw [if_neg g1]
       by_cases g2 : (ctA cs i).2.2 < (ctA cs i).1
       · rw [if_pos g2, rr, if_pos rfl, c1 (.inr (.inl g2))]
       · rw [if_neg g2]
         by_cases g3 : (0 : Int) < i
         · rw [if_pos g3, w64_id (by omega) (by omega), if_pos (by omega), if_pos (by omega)]
           rw [show (cs.getD ((i : Int) - 1).toNat (0, (0, 0))) = ctA cs ((i : Int) - 1) from rfl]
           obtain ⟨k', rfl⟩ : ∃ m, k = m + 4 := ⟨k - 4, by omega⟩
           obtain ⟨r, e, r1, r2⟩ := cmp3_ev k' (ctA cs ((i : Int) - 1)) (ctA cs i)
           rw [e, Option.bind_some, rr]
           by_cases g4 : ltC3 (ctA cs ((i : Int) - 1)) (ctA cs i)
           · have := r1.2 g4
             rw [if_neg (by simp; omega), c2 (fun z => z.elim g1 fun z => z.elim g2 fun z => z.2 g4)]
           · have : ¬ r < 0 := fun z => g4 (r1.1 z)
             rw [if_pos (by simp; omega), c1 (.inr (.inr ⟨g3, g4⟩))]
         · rw [if_neg g3, rr, if_neg (by simp), c2 (fun z => z.elim g1 fun z => z.elim g2 fun z => g3 z.1)]
   · rw [if_neg hr, hF 1 (by omega) (by unfold cellF; rw [if_pos hr])]
theorem form_ev (hk : 1000 ≤ k) (hc : cs.length < 4611686018427387904) (hp : ps.length < 4611686018427387904) : f85 k (ps, cs) = some (formV ps cs, ()) := by
 classical
 simp only [f85, f85_entry_B, f85_r1, f85_r1_B]
 unfold formV
 by_cases h1 : (200 : Int) < ps.length
 · rw [if_pos h1, if_pos trivial, if_pos (.inl (by omega))]
 · rw [if_neg h1]
   by_cases h2 : (400 : Int) < cs.length
   · rw [if_pos (decide_eq_true h2), if_pos (.inr (by omega))]
   · rw [if_neg (by simp; omega), if_neg (by omega)]
     have e := form_l0 (cs := cs) (k := k) (ps := ps) (by omega) ps.length 0 k (by omega) (by omega)
     rw [show (((0 : Nat)) : Int) = 0 from rfl] at e
     rw [e]
     by_cases h3 : ∀ q ∈ ps, okQ q
     · rw [if_pos (ok_all.2 h3), if_neg (fun z => z h3)]
       have e := form_l2 (cs := cs) (k := k) (ps := ps) (by omega) ps.length 1 k (by omega) (by omega) (by omega)
       rw [show (((1 : Nat)) : Int) = 1 from rfl] at e
       rw [e]
       by_cases h4 : sortedQ ps
       · rw [if_pos (show ∀ j : Int, 1 ≤ j → j < ps.length → ltQ (ptA ps (j - 1)) (ptA ps j) from h4), if_neg (fun z => z h4)]
         exact form_l4 hk h3 (by omega) cs.length 0 k (by omega) (by omega)
       · rw [if_neg (show ¬ ∀ j : Int, 1 ≤ j → j < ps.length → ltQ (ptA ps (j - 1)) (ptA ps j) from h4), if_pos h4]
     · rw [if_neg (fun z => h3 (ok_all.1 z)), if_pos h3]
end
end Go.Proofs.Ytollcjadobpfdaa.Rw
namespace Go.Proofs.Ytollcjadobpfdaa.Rw
open Go.Rx
set_option linter.unusedVariables false
set_option linter.unusedSimpArgs false
section
variable {ps : List (Int × Int)} {cs : List Cell3} {k : Nat}
open Classical in
theorem mesh_l0 (h2 : ps.length ≤ 200) : ∀ (d : Nat) (i n : Nat), i + d = ps.length → d < n → f46_l0 k n ps cs (ps.length : Int) (i : Int) = if ∀ j : Int, i ≤ j → j < ps.length → okQ (ptA ps j) then f46_l2 k k ps cs 1 else some (1, ())
 | 0, i, n + 1, hd, hn => by
   rw [f46_l0, f46_l0_B, if_neg (by omega), if_pos (fun j h1 h2 => by omega)]
 | d + 1, i, n + 1, hd, hn => by
   rw [f46_l0, f46_l0_B, if_pos (by omega), if_pos (by omega), if_pos (by omega)]
   rw [show ((ps.getD ((i : Int)).toNat (0, 0)).1, (ps.getD ((i : Int)).toNat (0, 0)).2) = ptA ps i from rfl, pointOK_ev, Option.bind_some]
   simp only
   rw [w64_id (by omega) (by omega), show (i : Int) + 1 = ((i + 1 : Nat) : Int) by omega]
   by_cases h : okQ (ptA ps i)
   · rw [if_neg (by simp [h]), mesh_l0 h2 d (i + 1) n (by omega) (by omega)]
     by_cases g : ∀ j : Int, ((i + 1 : Nat) : Int) ≤ j → j < ps.length → okQ (ptA ps j)
     · rw [if_pos g, if_pos (fun j h1 h2 => ?_)]
       rcases Int.lt_or_eq_of_le h1 with q | q
       · exact g j (by omega) h2
       · subst q; exact h
     · rw [if_neg g, if_neg (fun z => g fun j h1 h2 => z j (by omega) h2)]
   · rw [if_pos (by simp [h]), if_neg (fun z => h (z i (by omega) (by omega)))]
open Classical in
theorem mesh_l2 (ho : ∀ q ∈ ps, okQ q) (h2 : ps.length ≤ 200) : ∀ (d : Nat) (i n : Nat), 1 ≤ i → i + d = ps.length + 1 → d < n → f46_l2 k n ps cs (i : Int) = if ∀ j : Int, i ≤ j → j < ps.length → ltQ (ptA ps (j - 1)) (ptA ps j) then f46_l4 k k ps cs (cs.length : Int) 0 else some (9, ())
 | 0, i, n + 1, h1, hd, hn => by
   rw [f46_l2, f46_l2_B, if_neg (by omega), if_pos (fun j h1 h2 => by omega)]
 | d + 1, i, n + 1, h1, hd, hn => by
   rw [f46_l2, f46_l2_B]
   by_cases hi : (i : Int) < (ps.length : Int)
   · rw [w64_id (n := (i : Int) - 1) (by omega) (by omega), if_pos hi, if_pos (by omega), if_pos (by omega), if_pos (by omega), if_pos hi]
     rw [show ((ps.getD ((i : Int)).toNat (0, 0)).1, (ps.getD ((i : Int)).toNat (0, 0)).2) = ptA ps i from rfl, show ((ps.getD ((i : Int) - 1).toNat (0, 0)).1, (ps.getD ((i : Int) - 1).toNat (0, 0)).2) = ptA ps ((i : Int) - 1) from rfl]
     obtain ⟨r, e, er⟩ := less_ev k (ptA_ok ho ((i : Int) - 1)) (ptA_ok ho (i : Int))
     rw [e, Option.bind_some]
     simp only
     rw [w64_id (by omega) (by omega), show (i : Int) + 1 = ((i + 1 : Nat) : Int) by omega]
     by_cases h : ltQ (ptA ps ((i : Int) - 1)) (ptA ps i)
     · have := er.2 h
       rw [if_neg (by omega), mesh_l2 ho h2 d (i + 1) n (by omega) (by omega) (by omega)]
       by_cases g : ∀ j : Int, ((i + 1 : Nat) : Int) ≤ j → j < ps.length → ltQ (ptA ps (j - 1)) (ptA ps j)
       · rw [if_pos g, if_pos (fun j h1 h2 => ?_)]
         rcases Int.lt_or_eq_of_le h1 with q | q
         · exact g j (by omega) h2
         · subst q; exact h
       · rw [if_neg g, if_neg (fun z => g fun j h1 h2 => z j (by omega) h2)]
     · rw [if_pos (by have := mt er.1 h; omega), if_neg (fun z => h (z i (by omega) hi))]
   · rw [if_neg hi, if_pos (fun j h1 h2 => by omega)]
open Classical in
theorem mesh_l6 {r4 : f46_t_l4} {x53 x54 : Int} (a b c : Int) (n : Nat) (hn : 4 ≤ n) : f46_l6 k r4 n ps cs a b c x53 x54 0 = if inR ps a ∧ inR ps b ∧ inR ps c then (if (mx2 false b c) < a then (f46_r24 k r4 ps cs (a, (b, c)) x53 x54 true) else (if 0 < x54 then (if 0 ≤ (w64 (x54 - 1)) then (if (w64 (x54 - 1)) < (cs.length : Int) then ((f41 k ([a, b, c]) ([(cs.getD (w64 (x54 - 1)).toNat (0, (0, 0))).1, ((cs.getD (w64 (x54 - 1)).toNat (0, (0, 0))).2).1, ((cs.getD (w64 (x54 - 1)).toNat (0, (0, 0))).2).2])).bind fun r1 => (f46_r24 k r4 ps cs (a, (b, c)) x53 x54 (decide (r1.1 ≤ 0)))) else none) else none) else (f46_r24 k r4 ps cs (a, (b, c)) x53 x54 false))) else some (1, ()) := by
 obtain ⟨n, rfl⟩ : ∃ m, n = m + 4 := ⟨n - 4, by omega⟩
 have w1 : w64 1 = 1 := w64_id (by omega) (by omega)
 have w2 : w64 2 = 2 := w64_id (by omega) (by omega)
 have w3 : w64 3 = 3 := w64_id (by omega) (by omega)
 have step : ∀ (m : Nat) (x : Int) (q : Int), 0 ≤ x → x < 3 → ([a, b, c] : List Int).getD x.toNat 0 = q → f46_l6 k r4 (m + 1) ps cs a b c x53 x54 x = if inR ps q then f46_l6 k r4 m ps cs a b c x53 x54 (x + 1) else some (1, ()) := fun m x q h0 h3 hq => by
  rw [f46_l6, f46_l6_B, if_pos h3, if_pos h0, if_pos h3, hq]
  simp only [f46_r21, f46_r21_B]
  rw [w64_id (by omega) (by omega)]
  unfold inR
  by_cases h1 : q < 0
  · rw [if_pos h1, if_pos trivial, if_neg (by omega)]
  · rw [if_neg h1]
    by_cases h2 : (ps.length : Int) ≤ q
    · rw [if_pos (decide_eq_true h2), if_neg (by omega)]
    · rw [if_neg (by simp; omega), if_pos (by omega)]
 rw [step (n + 3) 0 a (by omega) (by omega) rfl]
 by_cases ha : inR ps a
 · rw [if_pos ha, step (n + 2) (0 + 1) b (by omega) (by omega) rfl]
   by_cases hb : inR ps b
   · rw [if_pos hb, step (n + 1) (0 + 1 + 1) c (by omega) (by omega) rfl]
     by_cases hc : inR ps c
     · rw [if_pos hc, if_pos ⟨ha, hb, hc⟩, f46_l6, f46_l6_B, if_neg (by omega)]
     · rw [if_neg hc, if_neg (fun z => hc z.2.2)]
   · rw [if_neg hb, if_neg (fun z => hb z.2.1)]
 · rw [if_neg ha, if_neg (fun z => ha z.1)]
open Classical in
theorem mesh_r24 {r4 : f46_t_l4} {c : Cell3} {x53 x54 : Int} {q : Bool} (ho : ∀ q ∈ ps, okQ q) (h0 : 0 ≤ x54) (h1 : x54 < 400) (hc : inR ps c.1 ∧ inR ps c.2.1 ∧ inR ps c.2.2) : f46_r24 k r4 ps cs c x53 x54 q = if q = true then some (9, ()) else if crossI (ptA ps c.1) (ptA ps c.2.1) (ptA ps c.2.2) ≤ 0 then some (3, ()) else r4 ps cs x53 (x54 + 1) := by
 unfold inR at hc
 obtain ⟨⟨a1, a2⟩, ⟨b1, b2⟩, c1, c2⟩ := hc
 simp only [f46_r24, f46_r24_B]
 by_cases hq : q = true
 · rw [if_pos hq, if_pos hq]
 · rw [if_neg hq, if_neg hq, if_pos a1, if_pos a2, if_pos b1, if_pos b2, if_pos c1, if_pos c2]
   have e : ∀ i : Int, ((ps.getD i.toNat (0, 0)).1, (ps.getD i.toNat (0, 0)).2) = ptA ps i := fun i => rfl
   rw [e, e, e, turnR (ptA_ok ho _) (ptA_ok ho _) (ptA_ok ho _), Option.bind_some]
   simp only
   rw [w64_id (by omega) (by omega)]
   have := @sg_one (crossI (ptA ps c.1) (ptA ps c.2.1) (ptA ps c.2.2))
   by_cases g : crossI (ptA ps c.1) (ptA ps c.2.1) (ptA ps c.2.2) ≤ 0
   · rw [if_pos (by omega), if_pos g]
   · rw [if_neg (fun z => z (this.2 (by omega))), if_neg g]
open Classical in
theorem mesh_l4 (hk : 1000 ≤ k) (ho : ∀ q ∈ ps, okQ q) (h2 : cs.length ≤ 400) : ∀ (d : Nat) (i n : Nat), i + d = cs.length → d < n → f46_l4 k n ps cs (cs.length : Int) (i : Int) = if cellsF ps cs d i = 0 then (if cs.length = 0 then some (14, ()) else (f82 k (ps, cs)).bind fun r => some (r.1, ())) else some (cellsF ps cs d i, ())
 | 0, i, n + 1, hd, hn => by
   rw [f46_l4, f46_l4_B, if_neg (by omega), if_pos (show cellsF ps cs 0 i = 0 from rfl)]
   by_cases h : cs.length = 0
   · rw [if_pos (by omega), if_pos h]
   · rw [if_neg (by omega), if_neg h]
 | d + 1, i, n + 1, hd, hn => by
   rw [f46_l4, f46_l4_B, if_pos (by omega), if_pos (by omega), if_pos (by omega), mesh_l6 _ _ _ _ (by omega)]
   rw [show (cs.getD ((i : Int)).toNat (0, (0, 0))) = ctA cs i from rfl]
   have hF : ∀ v, v ≠ 0 → cellF ps cs i = v → cellsF ps cs (d + 1) i = v := fun v h1 h2 => by unfold cellsF; rw [h2, if_neg h1]
   have h0 : cellF ps cs i = 0 → cellsF ps cs (d + 1) i = cellsF ps cs d (i + 1) := fun h => by unfold cellsF; rw [if_pos h]; cases d <;> rfl
   have ih := mesh_l4 hk ho h2 d (i + 1) n (by omega) (by omega)
   rw [show (((i + 1 : Nat)) : Int) = (i : Int) + 1 by omega] at ih
   by_cases hr : inR ps (ctA cs i).1 ∧ inR ps (ctA cs i).2.1 ∧ inR ps (ctA cs i).2.2
   · rw [if_pos hr]
     have c1 : ((ctA cs i).2.1 < (ctA cs i).1 ∨ (ctA cs i).2.2 < (ctA cs i).1 ∨ (0 < (i : Int) ∧ ¬ ltC3 (ctA cs ((i : Int) - 1)) (ctA cs i))) → cellsF ps cs (d + 1) i = 9 := fun z => hF 9 (by omega) (by unfold cellF; rw [if_neg (fun q => q hr), if_pos z])
     have c2 : ¬ ((ctA cs i).2.1 < (ctA cs i).1 ∨ (ctA cs i).2.2 < (ctA cs i).1 ∨ (0 < (i : Int) ∧ ¬ ltC3 (ctA cs ((i : Int) - 1)) (ctA cs i))) → (if crossI (ptA ps (ctA cs i).1) (ptA ps (ctA cs i).2.1) (ptA ps (ctA cs i).2.2) ≤ 0 then some (3, ()) else f46_l4 k n ps cs (cs.length : Int) ((i : Int) + 1)) = (if cellsF ps cs (d + 1) i = 0 then (if cs.length = 0 then some (14, ()) else (f82 k (ps, cs)).bind fun r => some (r.1, ())) else some (cellsF ps cs (d + 1) i, ())) := fun z => by
      by_cases g : crossI (ptA ps (ctA cs i).1) (ptA ps (ctA cs i).2.1) (ptA ps (ctA cs i).2.2) ≤ 0
      · rw [if_pos g, hF 3 (by omega) (by unfold cellF; rw [if_neg (fun q => q hr), if_neg z, if_pos g]), if_neg (by omega)]
      · rw [if_neg g, ih, h0 (by unfold cellF; rw [if_neg (fun q => q hr), if_neg z, if_neg g])]
     have rr : ∀ q, f46_r24 k (f46_l4 k n) ps cs ((ctA cs i).1, ((ctA cs i).2.1, (ctA cs i).2.2)) (cs.length : Int) (i : Int) q = if q = true then some (9, ()) else if crossI (ptA ps (ctA cs i).1) (ptA ps (ctA cs i).2.1) (ptA ps (ctA cs i).2.2) ≤ 0 then some (3, ()) else f46_l4 k n ps cs (cs.length : Int) ((i : Int) + 1) := fun q => mesh_r24 ho (by omega) (by omega) hr
     rw [mx2_min]
     by_cases g1 : min (ctA cs i).2.1 (ctA cs i).2.2 < (ctA cs i).1
     · rw [if_pos g1, rr, if_pos rfl, c1 (by omega), if_neg (by omega)]
     · rw [if_neg g1]
       · skip
         by_cases g3 : (0 : Int) < i
         · rw [if_pos g3, w64_id (by omega) (by omega), if_pos (by omega), if_pos (by omega)]
           rw [show (cs.getD ((i : Int) - 1).toNat (0, (0, 0))) = ctA cs ((i : Int) - 1) from rfl]
           obtain ⟨k', rfl⟩ : ∃ m, k = m + 4 := ⟨k - 4, by omega⟩
           obtain ⟨r, e, r1, r2⟩ := cmp3_ev k' (ctA cs i) (ctA cs ((i : Int) - 1))
           rw [e, Option.bind_some, rr]
           by_cases g4 : ltC3 (ctA cs ((i : Int) - 1)) (ctA cs i)
           · have := r2.2 g4
             rw [if_neg (by simp; omega), c2 (fun z => z.elim (fun z => g1 (by omega)) fun z => z.elim (fun z => g1 (by omega)) fun z => z.2 g4)]
           · have : ¬ 0 < r := fun z => g4 (r2.1 z)
             rw [if_pos (by simp; omega), c1 (.inr (.inr ⟨g3, g4⟩)), if_neg (by omega)]
         · rw [if_neg g3, rr, if_neg (by simp), c2 (fun z => z.elim (fun z => g1 (by omega)) fun z => z.elim (fun z => g1 (by omega)) fun z => g3 z.1)]
   · rw [if_neg hr, hF 1 (by omega) (by unfold cellF; rw [if_pos hr]), if_neg (by omega)]
theorem mesh_ev (hk : 1000 ≤ k) : f46 k (ps, cs) = if formV ps cs = 0 then (if cs.length = 0 then some (14, ()) else (f82 k (ps, cs)).bind fun r => some (r.1, ())) else some (formV ps cs, ()) := by
 classical
 simp only [f46, f46_entry_B, f46_r2, f46_r2_B]
 have v : ∀ x : Int, formV ps cs = x → x ≠ 0 → (if formV ps cs = 0 then (if cs.length = 0 then some (14, ()) else (f82 k (ps, cs)).bind fun r => some (r.1, ())) else some (formV ps cs, ())) = some (x, ()) := fun x h1 h2 => by rw [h1, if_neg h2]
 by_cases h1 : (200 : Int) < ps.length
 · rw [if_pos h1, if_pos trivial, v 2 (by unfold formV; rw [if_pos (.inl (by omega))]) (by omega)]
 · rw [if_neg h1]
   by_cases h2 : (400 : Int) < cs.length
   · rw [if_pos (decide_eq_true h2), v 2 (by unfold formV; rw [if_pos (.inr (by omega))]) (by omega)]
   · rw [if_neg (by simp; omega)]
     have e := mesh_l0 (cs := cs) (k := k) (ps := ps) (by omega) ps.length 0 k (by omega) (by omega)
     rw [show (((0 : Nat)) : Int) = 0 from rfl] at e
     rw [e]
     by_cases h3 : ∀ q ∈ ps, okQ q
     · rw [if_pos (ok_all.2 h3)]
       have e := mesh_l2 (cs := cs) (k := k) (ps := ps) h3 (by omega) ps.length 1 k (by omega) (by omega) (by omega)
       rw [show (((1 : Nat)) : Int) = 1 from rfl] at e
       rw [e]
       by_cases h4 : sortedQ ps
       · rw [if_pos (show ∀ j : Int, 1 ≤ j → j < ps.length → ltQ (ptA ps (j - 1)) (ptA ps j) from h4)]
         have hv : formV ps cs = cellsF ps cs cs.length 0 := by unfold formV; rw [if_neg (by omega), if_neg (fun z => z h3), if_neg (fun z => z h4)]
         rw [hv]
         exact mesh_l4 hk h3 (by omega) cs.length 0 k (by omega) (by omega)
       · rw [if_neg (show ¬ ∀ j : Int, 1 ≤ j → j < ps.length → ltQ (ptA ps (j - 1)) (ptA ps j) from h4), v 9 (by unfold formV; rw [if_neg (by omega), if_neg (fun z => z h3), if_pos h4]) (by omega)]
     · rw [if_neg (fun z => h3 (ok_all.1 z)), v 1 (by unfold formV; rw [if_neg (by omega), if_pos h3]) (by omega)]
theorem cells_ok (h : cellsF ps cs cs.length 0 = 0) : ∀ i : Int, 0 ≤ i → i < cs.length → cellF ps cs i = 0 := by
 have key : ∀ (d : Nat) (j : Int), cellsF ps cs d j = 0 → ∀ i, j ≤ i → i < j + d → cellF ps cs i = 0 := fun d => by
  induction d with
  | zero => intro j _ i h1 h2; omega
  | succ d ih =>
    intro j hj i h1 h2
    unfold cellsF at hj
    split at hj
    · rename_i g
      rcases Int.lt_or_eq_of_le h1 with q | q
      · exact ih (j + 1) hj i (by omega) (by omega)
      · subst q; exact g
    · rename_i g; exact absurd hj g
 intro i h0 h1
 exact key cs.length 0 h i h0 (by omega)
theorem formV_ok (h : formV ps cs = 0) : FormOK ps cs := by
 classical
 unfold formV at h
 split at h
 · omega
 · rename_i g1
   split at h
   · omega
   · rename_i g2
     have g2 := Classical.not_not.1 g2
     split at h
     · omega
     · rename_i g3
       have g3 := Classical.not_not.1 g3
       have hc := cells_ok h
       have split : ∀ i : Int, 0 ≤ i → i < cs.length → (inR ps (ctA cs i).1 ∧ inR ps (ctA cs i).2.1 ∧ inR ps (ctA cs i).2.2) ∧ ¬ ((ctA cs i).2.1 < (ctA cs i).1 ∨ (ctA cs i).2.2 < (ctA cs i).1 ∨ (0 < i ∧ ¬ ltC3 (ctA cs (i - 1)) (ctA cs i))) ∧ 0 < crossI (ptA ps (ctA cs i).1) (ptA ps (ctA cs i).2.1) (ptA ps (ctA cs i).2.2) := fun i h0 h1 => by
        have := hc i h0 h1
        unfold cellF at this
        split at this
        · omega
        · rename_i a
          split at this
          · omega
          · rename_i b
            split at this
            · omega
            · exact ⟨Classical.not_not.1 a, b, by omega⟩
       refine ⟨by omega, by omega, g2, g3, fun i h1 h2 => ?_, fun c hcm => ?_⟩
       · exact Classical.byContradiction fun z => (split i (by omega) h2).2.1 (.inr (.inr ⟨by omega, z⟩))
       · obtain ⟨i, hi, rfl⟩ := List.mem_iff_getElem.1 hcm
         have e : ctA cs (i : Int) = cs[i] := by unfold ctA; simp [List.getD_eq_getElem?_getD, List.getElem?_eq_getElem hi]
         obtain ⟨⟨a, b, c⟩, s1, s2⟩ := split (i : Int) (by omega) (by omega)
         rw [e] at a b c s1 s2
         unfold inR at a b c
         have n1 : cs[i].1 ≠ cs[i].2.1 := fun z => by
          rw [← z] at s2
          have : crossI (ptA ps cs[i].1) (ptA ps cs[i].1) (ptA ps cs[i].2.2) = 0 := by simp only [crossI]; grind
          omega
         have n2 : cs[i].1 ≠ cs[i].2.2 := fun z => by
          rw [← z] at s2
          have : crossI (ptA ps cs[i].1) (ptA ps cs[i].2.1) (ptA ps cs[i].1) = 0 := by simp only [crossI]; grind
          omega
         exact ⟨a.1, by omega, by omega, b.2, c.2, s2⟩
end
end Go.Proofs.Ytollcjadobpfdaa.Rw
namespace Go.Proofs.Ytollcjadobpfdaa.Rw
open Go.Rx
set_option linter.unusedVariables false
set_option linter.unusedSimpArgs false
abbrev kE : (Int × Int) → (Int × Int) → Bool := kB (.pair (.int .i64) (.int .i64))
theorem kE_iff {a b : Int × Int} : kE a b = true ↔ a = b := by
 show (iB a.1 b.1 && iB a.2 b.2) = true ↔ a = b
 rw [Bool.and_eq_true, iB_eq, iB_eq]
 exact ⟨fun h => Prod.ext h.1 h.2, fun h => by rw [h]; exact ⟨rfl, rfl⟩⟩
theorem kE_self (a : Int × Int) : kE a a = true := kE_iff.2 rfl
theorem kE_ne {a b : Int × Int} (h : a ≠ b) : kE a b = false := by
 cases e : kE a b with
 | false => rfl
 | true => exact absurd (kE_iff.1 e) h
section
variable {β : Type}
theorem mget_mset (v : β) (k e : Int × Int) : ∀ l : List ((Int × Int) × β), mgetB kE (msetB kE l k v) e = if e = k then some v else mgetB kE l e
 | [] => by
   by_cases h : e = k
   · subst h; simp [msetB, mgetB, kE_self]
   · simp [msetB, mgetB, kE_ne h, h]
 | (k', v') :: r => by
   by_cases g : k = k'
   · subst g
     simp only [msetB, kE_self]
     by_cases h : e = k
     · subst h; simp [mgetB, kE_self]
     · simp [mgetB, kE_ne h, h]
   · simp only [msetB, kE_ne g]
     by_cases h : e = k'
     · subst h
       have : ¬ e = k := fun z => g z.symm
       simp [mgetB, kE_self, this]
     · simp only [mgetB, kE_ne h]
       exact mget_mset v k e r
open Classical in
noncomputable def insK (s : List (Int × Int)) (x : Int × Int) : List (Int × Int) := if x ∈ s then s else s ++ [x]
theorem mset_keys (v : β) (k : Int × Int) : ∀ l : List ((Int × Int) × β), (msetB kE l k v).map Prod.fst = insK (l.map Prod.fst) k
 | [] => by simp [msetB, insK]
 | (k', v') :: r => by
   by_cases g : k = k'
   · subst g
     simp [msetB, kE_self, insK]
   · simp only [msetB, kE_ne g, List.map_cons, mset_keys v k r]
     unfold insK
     by_cases h : k ∈ r.map Prod.fst
     · rw [if_pos h, if_pos (List.mem_cons_of_mem _ h)]
     · rw [if_neg h, if_neg (fun z => (List.mem_cons.1 z).elim g h), List.cons_append]
theorem insK_mem {s : List (Int × Int)} {x y : Int × Int} : y ∈ insK s x ↔ y ∈ s ∨ y = x := by
 unfold insK
 by_cases h : x ∈ s
 · rw [if_pos h]; exact ⟨.inl, fun z => z.elim id fun e => e ▸ h⟩
 · rw [if_neg h]; simp
theorem foldK_mem : ∀ {E s : List (Int × Int)} {y : Int × Int}, y ∈ E.foldl insK s ↔ y ∈ s ∨ y ∈ E
 | [], s, y => by simp
 | x :: E, s, y => by rw [List.foldl_cons, foldK_mem, insK_mem, List.mem_cons, or_assoc]
theorem foldK_le : ∀ {E s : List (Int × Int)}, (E.foldl insK s).length ≤ s.length + E.length
 | [], s => by simp
 | x :: E, s => by
   have := foldK_le (E := E) (s := insK s x)
   have h : (insK s x).length ≤ s.length + 1 := by unfold insK; split <;> simp
   rw [List.foldl_cons, List.length_cons]; omega
theorem foldK_len : ∀ {E s : List (Int × Int)}, (E.foldl insK s).length = s.length + E.length ↔ E.Nodup ∧ ∀ x ∈ E, x ∉ s
 | [], s => by simp
 | x :: E, s => by
   rw [List.foldl_cons, List.length_cons, List.nodup_cons]
   by_cases g : x ∈ s
   · have := foldK_le (E := E) (s := insK s x)
     have h : (insK s x).length = s.length := by unfold insK; rw [if_pos g]
     constructor
     · intro z; omega
     · intro z; exact absurd g (z.2 x (by simp))
   · have h : (insK s x).length = s.length + 1 := by unfold insK; rw [if_neg g]; simp
     have ih := foldK_len (E := E) (s := insK s x)
     rw [h, show s.length + 1 + E.length = s.length + (E.length + 1) by omega] at ih
     rw [ih]
     constructor
     · rintro ⟨a, b⟩
       refine ⟨⟨fun z => b x z (insK_mem.2 (.inr rfl)), a⟩, fun y hy => ?_⟩
       rcases List.mem_cons.1 hy with rfl | hy
       · exact g
       · exact fun z => b y hy (insK_mem.2 (.inl z))
     · rintro ⟨⟨a, b⟩, c⟩
       refine ⟨b, fun y hy z => ?_⟩
       rcases insK_mem.1 z with z | z
       · exact c y (List.mem_cons_of_mem _ hy) z
       · subst z; exact a hy
theorem mget_key {l : List ((Int × Int) × β)} {e : Int × Int} : (mgetB kE l e).isSome = true ↔ e ∈ l.map Prod.fst := by
 induction l with
 | nil => simp [mgetB]
 | cons x l ih =>
   obtain ⟨k, v⟩ := x
   by_cases h : e = k
   · subst h; simp [mgetB, kE_self]
   · simp only [mgetB, kE_ne h, List.map_cons, List.mem_cons, h, false_or]
     exact ih
end
def setC (m : List ((Int × Int) × Int)) (c : Cell3) : List ((Int × Int) × Int) := msetB kE (msetB kE (msetB kE m (c.1, c.2.1) c.2.2) (c.2.1, c.2.2) c.1) (c.2.2, c.1) c.2.1
theorem setC_keys : ∀ (cs : List Cell3) (m : List ((Int × Int) × Int)), (cs.foldl setC m).map Prod.fst = (edgesL cs).foldl insK (m.map Prod.fst)
 | [], m => rfl
 | c :: cs, m => by
   rw [List.foldl_cons, setC_keys cs, show edgesL (c :: cs) = edgesC c ++ edgesL cs from rfl, List.foldl_append]
   congr 1
   simp only [setC, mset_keys, edgesC, List.foldl_cons, List.foldl_nil]
section
variable {ps : List (Int × Int)} {cs : List Cell3} {k : Nat}
theorem edges_l2 {r0 : f86_t_l0} (m : List ((Int × Int) × Int)) (a b c x9 : Int) (i n : Nat) (hi : i < 4611686018427387904) (hn : 4 ≤ n) : f86_l2 k r0 n a b c m i 0 cs x9 = r0 (setC m (a, (b, c))) ((i + 1 : Nat) : Int) cs x9 := by
 obtain ⟨n, rfl⟩ : ∃ m, n = m + 4 := ⟨n - 4, by omega⟩
 have w1 : w64 1 = 1 := w64_id (by omega) (by omega)
 have w2 : w64 2 = 2 := w64_id (by omega) (by omega)
 have w3 : w64 3 = 3 := w64_id (by omega) (by omega)
 have w4 : w64 4 = 4 := w64_id (by omega) (by omega)
 have wi : w64 ((i : Int) + 1) = (i : Int) + 1 := w64_id (by omega) (by omega)
 have t1 : Int.tmod 3 3 = 0 := by decide
 have t2 : Int.tmod 4 3 = 1 := by decide
 have t3 : Int.tmod 1 3 = 1 := by decide
 have t4 : Int.tmod 2 3 = 2 := by decide
 simp [f86_l2, f86_l2_B, w1, w2, w3, w4, wi, t1, t2, t3, t4, setC]
theorem edges_l0 (hk : 1000 ≤ k) (h2 : cs.length ≤ 400) : ∀ (d : Nat) (i n : Nat) (m : List ((Int × Int) × Int)), i + d = cs.length → d < n → f86_l0 k n m (i : Int) cs (cs.length : Int) = some (((cs.drop i).foldl setC m, ()), ())
 | 0, i, n + 1, m, hd, hn => by
   rw [f86_l0, f86_l0_B, if_neg (by omega), List.drop_of_length_le (by omega)]
   rfl
 | d + 1, i, n + 1, m, hd, hn => by
   have hi : i < cs.length := by omega
   rw [f86_l0, f86_l0_B, if_pos (by omega), if_pos (by omega), if_pos (by omega)]
   rw [edges_l2 _ _ _ _ _ i k (by omega) (by omega), edges_l0 hk h2 d (i + 1) n _ (by omega) (by omega)]
   rw [List.drop_eq_getElem_cons hi, List.foldl_cons]
   simp [List.getD_eq_getElem?_getD, List.getElem?_eq_getElem hi]
theorem edges_ev (hk : 1000 ≤ k) (h2 : cs.length ≤ 400) : f86 k cs = some ((cs.foldl setC [], ()), ()) := by
 simp only [f86, f86_entry_B]
 exact edges_l0 hk h2 cs.length 0 k [] (by omega) (by omega)
end
end Go.Proofs.Ytollcjadobpfdaa.Rw
