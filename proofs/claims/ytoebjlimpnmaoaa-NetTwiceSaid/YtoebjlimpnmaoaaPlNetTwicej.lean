/- A network that is turned around: it is valid; what begins at a node ends there. No condition. -/
import Derived.Test.YtoebjlimpnmaoaaPlNetTwicei
namespace Go.Proofs.Ytoebjlimpnmaoaa.Rw
open Go.Rx
set_option linter.unusedVariables false
set_option linter.unusedSimpArgs false

theorem swE_swE (l : List Ed) : (l.map swE).map swE = l := by
  rw [List.map_map]; exact List.map_id' l
theorem swP_swP (l : List Pt) : (l.map swP).map swP = l := by
  rw [List.map_map]; exact List.map_id' l
theorem backF_backF (n : Nt) : backF (backF n) = n := by
  obtain ⟨N, E, B⟩ := n
  unfold backF
  simp only [swE_swE, swP_swP]
theorem sw_getD (E : List Ed) (i : Nat) : (E.map swE).getD i zE = swE (E.getD i zE) := by
  rw [List.getD_eq_getElem?_getD, List.getElem?_map, List.getD_eq_getElem?_getD]
  cases E[i]? <;> rfl
theorem sw_from (E : List Ed) (i : Int) : fromE (E.map swE) i = toE E i := by unfold fromE toE; rw [sw_getD]; rfl
theorem sw_to (E : List Ed) (i : Int) : toE (E.map swE) i = fromE E i := by unfold fromE toE; rw [sw_getD]; rfl
theorem swP_inj : ∀ {p q : Pt}, swP p = swP q → p = q := fun {p q} h => by
  obtain ⟨a, b⟩ := p; obtain ⟨c, d⟩ := q
  simp only [swP, Prod.mk.injEq] at h
  rw [h.1, h.2]
theorem sw_goodE {n : Nat} {E : List Ed} (h : GoodE n E) : GoodE n (E.map swE) := fun e he => by
  obtain ⟨x, hx, rfl⟩ := List.mem_map.1 he
  have := h x hx
  exact ⟨this.2.1, this.1, fun z => this.2.2.1 z.symm, this.2.2.2.1, this.2.2.2.2⟩
theorem sw_goodB {E : List Ed} {B : List Pt} (h : GoodB E B) : GoodB (E.map swE) (B.map swP) := by
  refine ⟨?_, fun b hb => ?_⟩
  · have hp : List.Pairwise (fun a b => swP a ≠ swP b) B := h.1.imp fun {a b} hab e => hab (swP_inj e)
    exact List.pairwise_map.2 hp
  · obtain ⟨x, hx, rfl⟩ := List.mem_map.1 hb
    have := h.2 x hx
    rw [List.length_map]
    exact ⟨this.2.1, this.1, by rw [sw_to, sw_from]; exact this.2.2.symm⟩
theorem sw_valid {N : List Pt} {E : List Ed} {B : List Pt} (h1 : GoodN N) (h2 : N.length ≤ 8) (h3 : GoodE N.length E) (h4 : E.length ≤ 16) (h5 : GoodB E B) (h6 : B.length ≤ 3) : netF (backF (N, (E, B))) = 0 :=
  made_valid h1 h2 (sw_goodE h3) (by simpa using h4) (sw_goodB h5) (by simpa using h6)
def outL (u : Int) : Nat → List Ed → List Int
  | _, [] => []
  | i, e :: l => if e.1 = u then (i : Int) :: outL u (i + 1) l else outL u (i + 1) l
def inL (u : Int) : Nat → List Ed → List Int
  | _, [] => []
  | i, e :: l => if e.2.1 = u then (i : Int) :: inL u (i + 1) l else inL u (i + 1) l
theorem outL_sw (u : Int) : ∀ (l : List Ed) (i : Nat), outL u i (l.map swE) = inL u i l
  | [], i => rfl
  | e :: l, i => by
    simp only [List.map_cons, outL, inL, swE]
    rw [outL_sw u l (i + 1)]
theorem inL_sw (u : Int) : ∀ (l : List Ed) (i : Nat), inL u i (l.map swE) = outL u i l
  | [], i => rfl
  | e :: l, i => by
    simp only [List.map_cons, outL, inL, swE]
    rw [inL_sw u l (i + 1)]
theorem outL_len (u : Int) : ∀ (l : List Ed) (i : Nat), (outL u i l).length ≤ l.length
  | [], i => by simp [outL]
  | e :: l, i => by
    have := outL_len u l (i + 1)
    simp only [outL]
    split <;> simp <;> omega
theorem inL_len (u : Int) : ∀ (l : List Ed) (i : Nat), (inL u i l).length ≤ l.length
  | [], i => by simp [inL]
  | e :: l, i => by
    have := inL_len u l (i + 1)
    simp only [inL]
    split <;> simp <;> omega
end Go.Proofs.Ytoebjlimpnmaoaa.Rw
