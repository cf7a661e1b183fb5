/- Reflection, part Sh: contracts of the kit's shelf, told as ours. -/
import Derived.Test.YtoebjlimpnmaoaaRxW
import Derived.Shelf.Sort.Plain
import Derived.Shelf.Slices.In.SortNone
namespace Go.Rx
open Go.Shelf Go.Sort Go.Proofs
/-- One row alone stands apart. -/
theorem Sep.one {w : World} {R : Nat → RL} {Pr : Nat → Prop} {e : Ty} {l : List e.D} (h1 : RepOb w R Pr 0 (.vec e l)) (h2 : real R 0 (.vec e l) → ¬ Pr (R 0).blk) : Sep w R Pr [(0, .vec e l)] := by
  have key : ∀ (i κ : Nat) (o : Ob), ([(0, Ob.vec e l)] : List (Nat × Ob))[i]? = some (κ, o) → i = 0 ∧ κ = 0 ∧ o = .vec e l := fun i κ o h => by
    cases i with
    | zero => simp at h; exact ⟨rfl, h.1.symm, h.2.symm⟩
    | succ i => simp at h
  refine ⟨fun i κ o h => ?_, fun i κ o b h hb => ?_, fun i j κ o κ' o' b h h' hne _ => ?_, fun i κ o h _ => ?_⟩
  · obtain ⟨_, rfl, rfl⟩ := key i κ o h; exact h1
  · obtain ⟨_, rfl, rfl⟩ := key i κ o h
    rcases hb with ⟨q1, rfl⟩ | q
    · exact h2 q1
    · exact q.elim
  · exact absurd ((key i κ o h).1.trans (key j κ' o' h').1.symm) hne
  · obtain ⟨_, rfl, rfl⟩ := key i κ o h; exact fun q => q.elim
theorem putRow_other (w : World) (n blk off : Nat) (d : Array Int) (os : Array Obj) (b : Nat) (hb : b < w.heap.size) (hne : b ≠ blk) : (grow (putRow (Value.int .i64) (Sort.ahead w n) blk off d) os).heap[b]? = w.heap[b]? := by
  show ((w.heap.modify blk (onCells (putCells (Value.int .i64) off d))) ++ os)[b]? = _
  rw [Array.getElem?_append_left (by simpa using hb), Array.getElem?_modify, if_neg (Ne.symm hne)]
theorem putRow_same (w : World) (n blk off : Nat) (d : Array Int) (os : Array Obj) {c : Array Value} {el : TypeId} {fr : Nat × Nat} (h : w.heap[blk]? = some (.cells c el fr)) : (grow (putRow (Value.int .i64) (Sort.ahead w n) blk off d) os).heap[blk]? = some (.cells (putCells (Value.int .i64) off d c) el fr) := by
  have hb : blk < w.heap.size := (Array.getElem?_eq_some_iff.1 h).1
  show ((w.heap.modify blk (onCells (putCells (Value.int .i64) off d))) ++ os)[blk]? = _
  rw [Array.getElem?_append_left (by simpa using hb), Array.getElem?_modify, if_pos rfl, h]
  rfl
def sortN (l : List Int) : List Int := l.mergeSort fun a b => decide (a ≤ b)
def sortF (l : List Int) : Option ((List Int × Unit) × Unit) := if l.length < 4611686018427387904 then some ((sortN l, ()), ()) else none
theorem sort_calls {P : Program} {ρ : Ren} (Ly : Lays.n189 P ρ) (l : List Int) (hlen : l.length < 4611686018427387904) (w : World) (Pr : Nat → Prop) (Lo : Nat → RL) (hp : ∀ b, Pr b → b < w.heap.size) (hS : Sep w Lo Pr [(0, .vec (.int .i64) l)]) :
    Calls P (ρ.f 189) #[(Lo 0).hdr] w fun e w' => ∃ Pr' rv Lo', e = .returned (packV (selfV true [.row (.int .i64)] Lo' ++ rv)) ∧ (∀ i, i < 1 → (true = true ∨ (i = 0 ∧ mvd true [.row (.int .i64)] = false)) → Lo' i = Lo i) ∧ (∀ b, b < w.heap.size → ¬ Bl w Lo [(0, .vec (.int .i64) l)] b → w'.heap[b]? = w.heap[b]?) ∧ Grow w w' ∧ (∀ b, Pr b → Pr' b) ∧
      (∀ b, Pr' b → b < w.heap.size → Pr b ∨ Bl w Lo [(0, .vec (.int .i64) l)] b) ∧ (∀ b, Pr' b → b < w'.heap.size) ∧ Sep w' Lo' Pr' [(0, .vec (.int .i64) (sortN l))] ∧ (∀ b, Bl w' Lo' [(0, .vec (.int .i64) (sortN l))] b → Bl w Lo [(0, .vec (.int .i64) l)] b ∨ w.heap.size ≤ b) ∧ rv = [] := by
  have hlen' : (sortN l).length = l.length := by unfold sortN; exact List.length_mergeSort ..
  obtain ⟨h0, h1⟩ := hS.ob 0 0 (.vec (.int .i64) l) rfl
  have hun : real Lo 0 (.vec (.int .i64) l) → ¬ Pr (Lo 0).blk := fun hre => hS.un 0 0 _ _ rfl (.inl ⟨hre, rfl⟩)
  rcases h1 with ⟨h1, hl⟩ | ⟨off, cap, cells, el, h1, h2, h3, h4, h5⟩
  · have hl : l = [] := hl
    subst hl
    have hc := Any.slices_Sort_int_none Ly none 0 w
    rw [h1]
    refine hc.mono ?_
    rintro e w' ⟨rfl, rfl⟩
    exact ⟨Pr, [], Lo, rfl, fun _ _ _ => rfl, fun _ _ _ => rfl, Grow.refl _, fun _ h => h, fun _ h _ => .inl h, hp, by simpa [sortN] using hS, fun _ h => .inl (by simpa [sortN] using h), rfl⟩
  · have h1 : (Lo 0).hdr = .slice (some ⟨(Lo 0).blk, off, none⟩) l.length cap := h1
    have h4 : off + cap * 1 ≤ cells.size := h4
    have hre : real Lo 0 (.vec (.int .i64) l) := fun z => by rw [z] at h1; cases h1
    have hblk : (Lo 0).blk < w.heap.size := (Array.getElem?_eq_some_iff.1 h3).1
    have hcell : ∀ j (z : Int), l[j]? = some z → cells[off + j]? = some (.int .i64 z) := fun j z hj => by
      obtain ⟨us, m1, m2⟩ := h5 j z hj
      have m2 : us = [.int .i64 z] := m2
      subst m2
      have := m1 0 _ rfl
      rw [show off + j * (Ty.int .i64).n + 0 = off + j * 1 from rfl, Nat.mul_one] at this
      exact this
    have hH : Holds (Value.int .i64) w (Lo 0).blk off l.toArray := fun j hj => by
      have hj' : j < l.length := by simpa using hj
      have := hcell j _ (List.getElem?_eq_getElem hj')
      refine ⟨?_, ?_⟩
      · simp only [World.cell?, h3]
        rw [this]
        simp [hj']
      · simp [World.frozen?, h3]
    have hc := Any.slices_Sort_int Ly (Lo 0).blk off cap l w hH hblk hlen
    rw [h1]
    refine hc.mono ?_
    rintro e w' ⟨rfl, n, os, rfl⟩
    have hsame := putRow_same w n (Lo 0).blk off (sortN l).toArray os h3
    have hoth := fun b hb hne => putRow_other w n (Lo 0).blk off (sortN l).toArray os b hb hne
    have hpr : ∀ b, Pr b → b ≠ (Lo 0).blk := fun b hb e => hun hre (e ▸ hb)
    have hnb : ∀ b, ¬ Bl w Lo [(0, .vec (.int .i64) l)] b → b ≠ (Lo 0).blk := fun b hb e => hb ⟨0, 0, _, rfl, .inl ⟨hre, e⟩⟩
    have hg : w.heap.size ≤ (grow (putRow (Value.int .i64) (Sort.ahead w n) (Lo 0).blk off (sortN l).toArray) os).heap.size := by
      show _ ≤ ((w.heap.modify _ _) ++ os).size
      simp
    have hre' : real Lo 0 (.vec (.int .i64) (sortN l)) := fun z => by rw [z] at h1; cases h1
    have hrep : RepOb (grow (putRow (Value.int .i64) (Sort.ahead w n) (Lo 0).blk off (sortN l).toArray) os) Lo Pr 0 (.vec (.int .i64) (sortN l)) := by
      have e1 : (Lo 0).len = (sortN l).length := h0.trans hlen'.symm
      have e2 : (Lo 0).hdr = .slice (some ⟨(Lo 0).blk, off, none⟩) (sortN l).length cap := by rw [hlen']; exact h1
      have e3 : (sortN l).length ≤ cap := by rw [hlen']; exact h2
      refine ⟨e1, .inr ⟨off, cap, _, el, e2, e3, hsame, by rw [show (putCells (Value.int .i64) off (sortN l).toArray cells).size = cells.size by simp [putCells]]; exact h4, fun j z hj => ?_⟩⟩
      refine ⟨[.int .i64 z], fun c u hu => ?_, rfl⟩
      have hz : (sortN l)[j]? = some (z : Int) := hj
      have hj' : j < (sortN l).length := (List.getElem?_eq_some_iff.1 hz).1
      rw [hlen'] at hj'
      have hc0 : c = 0 := by
        cases c with
        | zero => rfl
        | succ c => simp at hu
      subst hc0
      simp only [List.getElem?_cons_zero, Option.some.injEq] at hu
      subst hu
      rw [show off + j * (Ty.int .i64).n + 0 = off + j * 1 from rfl, Nat.mul_one]
      have hlt : off + j < cells.size := by
        omega
      unfold putCells
      rw [Array.getElem?_mapIdx, Array.getElem?_eq_getElem hlt]
      simp only [Option.map_some]
      rw [if_pos ⟨by omega, by simp; omega⟩, Nat.add_sub_cancel_left]
      have hq : (sortN l).toArray[j]! = (z : Int) := by
        rw [getElem!_def]
        simp only [List.getElem?_toArray]
        rw [hz]
      rw [hq]
    refine ⟨Pr, [], Lo, rfl, fun _ _ _ => rfl, fun b hb hne => hoth b hb (hnb b hne), ⟨hg, rfl, rfl, rfl⟩, fun _ h => h, fun _ h _ => .inl h, fun b hb => Nat.lt_of_lt_of_le (hp b hb) hg, Sep.one hrep fun _ => hun hre, fun b hb => ?_, rfl⟩
    obtain ⟨i, κ, o, hi, hoc⟩ := hb
    cases i with
    | zero =>
      have : κ = 0 ∧ o = .vec (.int .i64) (sortN l) := by
        have h : some ((0 : Nat), Ob.vec (.int .i64) (sortN l)) = some (κ, o) := hi
        simp only [Option.some.injEq, Prod.mk.injEq] at h
        exact ⟨h.1.symm, h.2.symm⟩
      obtain ⟨rfl, rfl⟩ := this
      rcases hoc with ⟨_, rfl⟩ | q
      · exact .inl ⟨0, 0, _, rfl, .inl ⟨hre, rfl⟩⟩
      · exact q.elim
    | succ i => 
      have h : ([] : List (Nat × Ob))[i]? = some (κ, o) := hi
      simp at h
theorem sort_box {P : Program} {ρ : Ren} (Ly : Lays.n189 P ρ) : BoxOK P (ρ.f 189) 0 true [.row (.int .i64)] [] [] (fun x _ => sortF x.1) := by
  intro x xs y r hr w Pr vs Lo hp hS ha
  obtain ⟨l, ⟨⟩⟩ := x
  have hvs : vs = [] := ha
  subst hvs
  have hr : sortF l = some (y, r) := hr
  unfold sortF at hr
  split at hr
  · rename_i hlen
    have hr : ((sortN l, ()), ()) = (y, r) := Option.some.inj hr
    obtain ⟨rfl, rfl⟩ := Prod.mk.inj hr
    exact sort_calls Ly l hlen w Pr Lo hp hS
  · cases hr
end Go.Rx
