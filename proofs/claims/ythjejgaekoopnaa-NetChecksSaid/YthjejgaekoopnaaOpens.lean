/- How an argument that came in is read by the kinds of the printed words: whatever reads as data of a type reads as a value of the kind, within the type's bounds and the reach. -/
import Derived.Test.YthjejgaekoopnaaWWords
import Derived.Test.YthjejgaekoopnaaWArr
import Derived.SizedLaws
import Derived.ChangeSlices
import Derived.Deep.Slices
namespace Go.Proofs.Ythjejgaekoopnaa.Opn
open Go.RowKit Go.Proofs.YthjejgaekoopnaaW.PrintWords Go.WideShapes Go.ChangeShapes
set_option linter.unusedVariables false
set_option linter.unusedSectionVars false

theorem list_of {α : Type} {p : Nat → α → Prop} : ∀ {n : Nat}, (∀ i, i < n → ∃ a, p i a) → ∃ l : List α, l.length = n ∧ ∀ (i : Nat) (a : α), l[i]? = some a → p i a
  | 0, _ => ⟨[], rfl, fun i a h => by simp at h⟩
  | n + 1, h => by
    obtain ⟨l, hl, hp⟩ := list_of (n := n) (fun i hi => h i (by omega))
    obtain ⟨a, ha⟩ := h n (by omega)
    refine ⟨l ++ [a], by simp [hl], fun i b hb => ?_⟩
    rw [List.getElem?_append] at hb
    split at hb
    · exact hp i b hb
    · have hi : i - l.length = 0 := by
        by_cases e : i - l.length = 0
        · exact e
        · rw [List.getElem?_eq_none (by simp; omega)] at hb
          cases hb
      rw [hi] at hb
      simp at hb
      have : i = n := by omega
      subst this; subst hb
      exact ha

theorem weightsAll_mem {H : Type} {P : Program} {e : TypeId} : ∀ {ds : List (DataW H)} {j : Nat} {d : DataW H}, ds[j]? = some d → ∀ n ∈ d.weights P e, n ∈ DataW.weightsAll P e ds
  | d0 :: ds, 0, d, hd, n, hn => by
    simp only [List.getElem?_cons_zero, Option.some.injEq] at hd
    subst hd
    simp only [DataW.weightsAll, List.mem_append]
    exact Or.inl hn
  | d0 :: ds, j + 1, d, hd, n, hn => by
    simp only [List.getElem?_cons_succ] at hd
    simp only [DataW.weightsAll, List.mem_append]
    exact Or.inr (weightsAll_mem hd n hn)
  | [], _, _, hd, _, _ => by simp at hd

/-- A value that reads as data of type t reads as a value of the kind d. -/
structure Opens {α : Type} (P : Program) (t : TypeId) (d : Kd α) (wf : α → Prop) : Prop where mk :: (out :
  ∀ {H : Type} (enc : TypeId × Value → H) (w : World) (base : Nat) (spare : Nat → Bool) (held : Bool) (fuel : Nat) (cs : List Value) (x : DataW H) (ps : List MemPlace),
    DataW.trod enc P w base spare held fuel t cs = some (x, ps) → (∀ n ∈ x.weights P t, n ≤ reachBytes) → ∃ a : α, d.K w a cs ∧ wf a)

theorem opens_int {P : Program} {t : TypeId} {k : IntKind} (ht : P.underlying t = some (.int k)) : Opens P t (Kd.int k) (fun n => (Lit.int k n).wf = true) := by
  refine ⟨fun {H} enc w base spare held fuel cs x ps => ?_⟩
  intro h _
  obtain ⟨n, rfl, hx, hw⟩ := DataW.trod_int ht h
  exact ⟨n, rfl, hw⟩
theorem opens_bool {P : Program} {t : TypeId} (ht : P.underlying t = some .bool) : Opens P t Kd.bool (fun _ => True) := by
  refine ⟨fun {H} enc w base spare held fuel cs x ps => ?_⟩
  intro h _
  obtain ⟨n, rfl, hx⟩ := DataW.trod_bool ht h
  exact ⟨n, rfl, trivial⟩
theorem opens_string {P : Program} {t : TypeId} (ht : P.underlying t = some .string) : Opens P t Kd.string (fun s => s.size ≤ 140737488351232) := by
  refine ⟨fun {H} enc w base spare held fuel cs x ps => ?_⟩
  intro h hw
  obtain ⟨s, rfl, hx, hs⟩ := DataW.trod_string ht h
  obtain ⟨rfl, _⟩ := Prod.mk.inj hx
  refine ⟨s, rfl, ?_⟩
  have := hw s.data.toList.length (by simp [DataW.weights])
  simpa [reachBytes] using this
theorem opens_slice {α : Type} {P : Program} {t e : TypeId} {d : Kd α} {wf : α → Prop} {B : Nat} (ht : P.underlying t = some (.slice e)) (hd : Opens P e d wf) (hz : P.cellsOf e = d.sz) (hB : P.bytesOf e = B) :
    Opens P t (Kd.slice e d) (fun l => l.length * B ≤ 140737488351232 ∧ ∀ x ∈ l, wf x) := by
  refine ⟨fun {H} enc w base spare held fuel cs x ps => ?_⟩
  intro h hw
  rcases DataW.trod_slice ht h with ⟨rfl, hx⟩ | ⟨a, len, cap, elems, rest, n, _, rfl, hx, hb, hl, hm, hlen, hel, hsp, hns⟩
  · exact ⟨[], ⟨none, 0, rfl, Nat.le_refl _, rfl, by simp, fun hn => by simp at hn⟩, by simp, fun x hx => by cases hx⟩
  · obtain ⟨rfl, _⟩ := Prod.mk.inj hx
    have hall : ∀ i, i < len → ∃ a' : α, wf a' ∧ ∃ cs', w.cells? base (a.add (i * P.cellsOf e)) (P.cellsOf e) = some cs' ∧ d.K w a' cs' := by
      intro i hi
      have h1 := hel i hi
      have hi2 : i < elems.length := by omega
      rw [List.getElem?_eq_getElem hi2] at h1
      obtain ⟨cs', hc, ht'⟩ := Option.bind_eq_some_iff.1 h1
      obtain ⟨a', hK, hwf⟩ := hd.out enc w base spare held n cs' _ _ ht' (fun m hm => hw m (by
        simp only [DataW.weights, ht]
        refine List.mem_cons_of_mem _ (List.mem_append_left _ (weightsAll_mem (j := i) (d := elems[i].1) ?_ m hm))
        simp [hi2]))
      exact ⟨a', hwf, cs', hc, hK⟩
    obtain ⟨l, hll, hlp⟩ := list_of hall
    have hmax : cap ≤ 9223372036854775807 := by simpa [maxLen] using hm
    refine ⟨l, ⟨some a, cap, by rw [hll], by omega, rfl, by omega, fun hn => ⟨a, rfl, fun j p hj => ?_⟩⟩, ?_, ?_⟩
    · obtain ⟨_, cs', hc, hK⟩ := hlp j p hj
      obtain ⟨_, hlen', hcell⟩ := World.cells?_some hc
      refine ⟨cs', by rw [hlen', hz], hK, fun i u hu => ?_⟩
      have hi : i < P.cellsOf e := by rw [← hlen']; exact (List.getElem?_eq_some_iff.1 hu).1
      rw [← Deep.add_add, ← hz, hcell i hi]
      exact hu
    · have h1 := hw ((elems.length + rest.length) * P.bytesOf e) (by simp [DataW.weights, ht])
      rw [hB] at h1
      rw [hll, ← hlen]
      have h2 : elems.length * B ≤ (elems.length + rest.length) * B := Nat.mul_le_mul_right _ (by omega)
      have h3 : reachBytes = 140737488351232 := rfl
      omega
    · intro y hy
      obtain ⟨i, hi, rfl⟩ := List.mem_iff_getElem.1 hy
      exact (hlp i _ (List.getElem?_eq_getElem hi)).1
theorem opens_array {α : Type} {P : Program} {t e : TypeId} {m : Nat} {d : Kd α} {wf : α → Prop} (hs : 0 < d.sz) (ht : P.underlying t = some (.array m e)) (hd : Opens P e d wf) (hz : P.cellsOf e = d.sz) (hcT : P.cellsOf t = m * d.sz) :
    Opens P t (Kd.arr m d hs) (fun l => l.length = m ∧ ∀ x ∈ l, wf x) := by
  refine ⟨fun {H} enc w base spare held fuel cs x ps => ?_⟩
  intro h hw
  cases fuel with
  | zero => simp [DataW.trod] at h
  | succ n =>
    unfold DataW.trod at h
    rw [ht] at h
    simp only at h
    split at h
    · rename_i hcl
      obtain ⟨xs, hxs, hx⟩ := Option.map_eq_some_iff.1 h
      obtain ⟨rfl, _⟩ := Prod.mk.inj hx
      have hlen : xs.length = m := by simpa using mapM_some_length hxs
      have hall : ∀ i, i < m → ∃ a' : α, wf a' ∧ d.K w a' ((cs.drop (i * P.cellsOf e)).take (P.cellsOf e)) := by
        intro i hi
        have h1 := mapM_some_get hxs i i (by simp [hi])
        have hi2 : i < xs.length := by omega
        rw [List.getElem?_eq_getElem hi2] at h1
        obtain ⟨a', hK, hwf⟩ := hd.out enc w base spare held n _ _ _ h1 (fun q hq => hw q (by
          simp only [DataW.weights, ht]
          exact weightsAll_mem (j := i) (d := xs[i].1) (by simp [hi2]) q hq))
        exact ⟨a', hwf, hK⟩
      obtain ⟨l, hll, hlp⟩ := list_of hall
      refine ⟨l, ⟨hll, ⟨?_, fun j p hj => ?_⟩⟩, hll, ?_⟩
      · rw [hcl, hcT, hll]
      · have := (hlp j p hj).2
        rwa [hz] at this
      · intro y hy
        obtain ⟨i, hi, rfl⟩ := List.mem_iff_getElem.1 hy
        exact (hlp i _ (List.getElem?_eq_getElem hi)).1
    · cases h

/-- Fields in line, from the offset o on. -/
structure OpensFs {α : Type} (P : Program) (fs : List Field) (o : Nat) (d : Kd α) (wf : α → Prop) : Prop where mk :: (out :
  ∀ {H : Type} (enc : TypeId × Value → H) (w : World) (base : Nat) (spare : Nat → Bool) (held : Bool) (n : Nat) (cs : List Value) (xs : List (DataW H × List MemPlace)),
    cs.length = o + d.sz → xs.length = fs.length → (∀ (i : Nat) (f : Field), fs[i]? = some f → DataW.trod enc P w base spare held n f.type ((cs.drop f.offset).take (P.cellsOf f.type)) = xs[i]?) →
    (∀ (i : Nat) (f : Field) (x : DataW H × List MemPlace), fs[i]? = some f → xs[i]? = some x → ∀ m ∈ x.1.weights P f.type, m ≤ reachBytes) → ∃ a : α, d.K w a (cs.drop o) ∧ wf a)
theorem opens_last {α : Type} {P : Program} {f : Field} {o : Nat} {d : Kd α} {wf : α → Prop} (ho : f.offset = o) (hz : P.cellsOf f.type = d.sz) (h : Opens P f.type d wf) : OpensFs P [f] o d wf := by
  refine ⟨fun {H} enc w base spare held n cs xs => ?_⟩
  intro hl hx hf hw
  match xs, hx with
  | [x], _ =>
    have h0 := hf 0 f rfl
    simp only [List.getElem?_cons_zero] at h0
    rw [ho, hz, List.take_of_length_le (by simp; omega)] at h0
    exact h.out enc w base spare held n _ _ _ h0 (hw 0 f x rfl rfl)
theorem opens_cons {α β : Type} {P : Program} {f : Field} {fs : List Field} {o : Nat} {d : Kd α} {d2 : Kd β} {wf : α → Prop} {wf2 : β → Prop} (ho : f.offset = o) (hz : P.cellsOf f.type = d.sz) (h : Opens P f.type d wf) (h2 : OpensFs P fs (o + d.sz) d2 wf2) :
    OpensFs P (f :: fs) o (Kd.pair d d2) (fun a => wf a.1 ∧ wf2 a.2) := by
  refine ⟨fun {H} enc w base spare held n cs xs => ?_⟩
  intro hl hx hf hw
  match xs, hx with
  | x :: xs, hx =>
    have h0 := hf 0 f rfl
    simp only [List.getElem?_cons_zero] at h0
    rw [ho, hz] at h0
    obtain ⟨a, hK, hwf⟩ := h.out enc w base spare held n _ _ _ h0 (hw 0 f x rfl rfl)
    have hsz : (Kd.pair d d2).sz = d.sz + d2.sz := rfl
    obtain ⟨b, hK2, hwf2⟩ := h2.out enc w base spare held n cs xs (by omega) (by simpa using hx) (fun i f hf' => hf (i + 1) f hf') (fun i f x hf' hx' => hw (i + 1) f x hf' hx')
    refine ⟨(a, b), ⟨_, _, ?_, hK, hK2⟩, hwf, hwf2⟩
    rw [← List.drop_drop, List.take_append_drop]
theorem opens_fields {α : Type} {P : Program} {t : TypeId} {fs : Array Field} {d : Kd α} {wf : α → Prop} (ht : P.underlying t = some (.struct fs)) (hz : P.cellsOf t = d.sz) (h : OpensFs P fs.toList 0 d wf) : Opens P t d wf := by
  refine ⟨fun {H} enc w base spare held fuel cs x ps => ?_⟩
  intro hx hw
  obtain ⟨xs, n, _, hx, hl, hlen, hf⟩ := DataW.trod_struct ht hx
  obtain ⟨rfl, _⟩ := Prod.mk.inj hx
  obtain ⟨a, hK, hwf⟩ := h.out enc w base spare held n cs xs (by omega) (by simpa using hlen) (fun i f hf' => hf i f (by simpa using hf')) (fun i f x hf' hx' m hm => hw m (by
    simp only [DataW.weights, ht]
    exact DataW.weights_mem_each (j := i) (t := f.type) (d := x.1) (by rw [List.getElem?_map, hf']; rfl) (by rw [List.getElem?_map, hx']; rfl) m hm))
  exact ⟨a, by simpa using hK, hwf⟩
theorem opens_iso {α β : Type} {P : Program} {t : TypeId} {d : Kd α} {wf : α → Prop} {f : β → α} (g : α → β) (hg : ∀ a, f (g a) = a) (h : Opens P t d wf) : Opens P t (Kd.iso d f) (fun b => wf (f b)) := by
  refine ⟨fun {H} enc w base spare held fuel cs x ps => ?_⟩
  intro hx hw
  obtain ⟨a, hK, hwf⟩ := h.out enc w base spare held fuel cs x ps hx hw
  exact ⟨g a, by show d.K w (f (g a)) cs; rw [hg]; exact hK, by show wf (f (g a)); rw [hg]; exact hwf⟩
theorem opens_wf {α : Type} {P : Program} {t : TypeId} {d : Kd α} {wf wf' : α → Prop} (h : Opens P t d wf) (hw : ∀ a, wf a → wf' a) : Opens P t d wf' := by
  refine ⟨fun {H} enc w base spare held fuel cs x ps => ?_⟩
  intro hx hw'
  obtain ⟨a, hK, hwf⟩ := h.out enc w base spare held fuel cs x ps hx hw'
  exact ⟨a, hK, hw a hwf⟩
/-- A parameter. -/
theorem opened {α : Type} {H : Type} {enc : TypeId × Value → H} {P : Program} {W : World} {base : Nat} {spare : Nat → Bool} {held : Bool} {t : TypeId} {v : Value} {x : DataW H} {ps : List MemPlace} {ts : List TypeId} {ds : List (DataW H)} {j : Nat} {d : Kd α} {wf : α → Prop}
    (o : Opens P t d wf) (hsz : (DataW.weightsEach P ts ds).all (· ≤ reachBytes) = true) (ht : ts[j]? = some t) (hd : ds[j]? = some x) (h : DataW.Trod enc P W base spare held t v x ps) : ∃ a : α, d.K W a v.cells.toList ∧ wf a := by
  obtain ⟨fuel, hf⟩ := h
  exact o.out enc W base spare held fuel _ _ _ hf (fun n hn => by simpa using List.all_eq_true.1 hsz n (DataW.weights_mem_each ht hd n hn))
end Go.Proofs.Ythjejgaekoopnaa.Opn
