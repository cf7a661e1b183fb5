/- A set kept in a map from pairs of numbers to true: what its block is, what reading and writing it do in a walk. -/
import Derived.Maps.OwnSet
import Derived.Maps.Views
import Derived.WideMake
import Derived.DeepKeys4
import Derived.Test.YthjejgaekoopnaaWMore
import Derived.Test.YthjejgaekoopnaaProg
namespace Go.Proofs.Ythjejgaekoopnaa.Sets
open Go.RowKit Go.Proofs.YthjejgaekoopnaaW.PrintWords Go.Proofs.YthjejgaekoopnaaW.PrintLast Go.Proofs.YthjejgaekoopnaaW.PrintMore
open Go.Maps (Keyed)
set_option linter.unusedVariables false
set_option linter.unusedSimpArgs false
theorem laidOut : laidOutB Try.prog = true := by kernel_rfl
theorem ex_succ {n k : Nat} (h : k < n) : ∃ m, n = m + 1 := ⟨n - 1, by omega⟩
/-- What a key type of two numbers is good for. -/
structure Two (t : TypeId) : Prop where
  law : Keyed Try.prog t
  key : ∀ {x y : Int}, (Lit.int .i64 x).wf = true → (Lit.int .i64 y).wf = true → ∃ l, keyOf Try.prog t (.agg #[.int .i64 x, .int .i64 y]) = some l
theorem row46 : (46 : TypeId) < Try.prog.types.size := of_decide_eq_true (by kernel_rfl)
theorem two_of {t : TypeId} {d : TypeDesc} {fs : Array Field} (ht : Try.prog.underlying t = some (.struct fs)) (hrow : t < Try.prog.types.size) (hk : Try.prog.keyTypeAt 3 t = true) (hkt : Try.prog.keyType t = true) (hc : Try.prog.cellsOf t = 2)
    (h3 : Try.prog.underlying 3 = some (.int .i64)) (hc3 : Try.prog.cellsOf 3 = 1) (hn : fs.all (·.name != "_") = true) (hf : fs.toList.map (fun f => (f.offset, f.type)) = [(0, 3), (1, 3)]) : Two t where
  law := Keyed.of_law (deep_law_laid laidOut (m := 3) (by omega) hrow hk (by rw [ht]))
  key := by
    intro x y hx hy
    obtain ⟨m, hm⟩ := ex_succ hrow
    have hl : Try.prog.keyLits (Try.prog.types.size + 1) t [.int .i64 x, .int .i64 y] = some [.int .i64 x, .int .i64 y] := by
      have hfl : ∃ f g, fs.toList = [f, g] ∧ f.offset = 0 ∧ f.type = 3 ∧ g.offset = 1 ∧ g.type = 3 := by
        rcases hh : fs.toList with _ | ⟨f, _ | ⟨g, _ | ⟨z, r⟩⟩⟩
        · rw [hh] at hf; simp at hf
        · rw [hh] at hf; simp at hf
        · rw [hh] at hf
          simp at hf
          exact ⟨f, g, rfl, hf.1.1, hf.1.2, hf.2.1, hf.2.2⟩
        · rw [hh] at hf; simp at hf
      obtain ⟨f, g, hfg, f1, f2, g1, g2⟩ := hfl
      rw [hm]
      unfold Program.keyLits
      rw [ht]
      simp only [hc, List.length_cons, List.length_nil, hn, and_self, if_true, hfg, List.mapM_cons, List.mapM_nil, f1, f2, g1, g2, hc3]
      have one : ∀ z : Int, (Lit.int .i64 z).wf = true → Try.prog.keyLits (m + 1) 3 [.int .i64 z] = some [.int .i64 z] := by
        intro z hz
        unfold Program.keyLits
        rw [h3]
        simp [hz]
      have o1 := one x hx
      have o2 := one y hy
      simp [o1, o2]
    refine ⟨.string (keyBytes [.int .i64 x, .int .i64 y]), ?_⟩
    unfold keyOf
    rw [ht]
    dsimp only
    rw [if_pos (by simp [hkt, Value.formed, ht, hc])]
    show Option.map _ (Try.prog.keyLits (Try.prog.types.size + 1) t [.int .i64 x, .int .i64 y]) = _
    rw [hl]
    rfl
/-- Block b of w is a map whose keys with true are the pairs of the list; it has at most n entries. -/
def IsSet (w : World) (t : TypeId) (b n : Nat) (l : List (Int × Int)) : Prop :=
  ∃ D : DataW Unit, w.ownsMap Try.prog t (plainElem Try.prog 4) b n D ∧ ∀ x y k, keyOf Try.prog t (.agg #[.int .i64 x, .int .i64 y]) = some k → D.atKey k (.lit (.bool false)) = .lit (.bool (decide ((x, y) ∈ l)))
theorem IsSet.made (w : World) (t : TypeId) : IsSet (w.alloc (.map #[] 0)) t w.heap.size 0 [] := ⟨_, World.ownsMap_made _ _ _ _, fun x y k _ => rfl⟩
theorem IsSet.kept {w w' : World} {t : TypeId} {b n : Nat} {l : List (Int × Int)} {row : Option Nat} (h : IsSet w t b n l) (hg : w.grownBy w' row) (hne : some b ≠ row) : IsSet w' t b n l := by
  obtain ⟨D, h1, h2⟩ := h
  exact ⟨D, h1.kept hg hne, h2⟩
theorem IsSet.lt {w : World} {t : TypeId} {b n : Nat} {l : List (Int × Int)} (h : IsSet w t b n l) : b < w.heap.size := by
  obtain ⟨D, h1, h2⟩ := h
  exact h1.lt
theorem IsSet.alloc {w : World} {t : TypeId} {b n : Nat} {l : List (Int × Int)} (h : IsSet w t b n l) (o : Obj) : IsSet (w.alloc o) t b n l := by
  obtain ⟨D, h1, h2⟩ := h
  exact ⟨D, h1.alloc o, h2⟩
theorem IsSet.drew {w : World} {t : TypeId} {b n : Nat} {l : List (Int × Int)} (h : IsSet w t b n l) : IsSet w.drew t b n l := h
theorem IsSet.drewN {w : World} {t : TypeId} {b n : Nat} {l : List (Int × Int)} (h : IsSet w t b n l) (m : Nat) : IsSet (w.drewN m) t b n l := h
theorem IsSet.setCell {w : World} {t : TypeId} {b n : Nat} {l : List (Int × Int)} (h : IsSet w t b n l) {a : Addr} (ha : b ≠ a.block) (u : Value) : IsSet (w.setCell a u) t b n l := by
  obtain ⟨D, h1, h2⟩ := h
  exact ⟨D, h1.setCell ha u, h2⟩
theorem IsSet.below {w w' : World} {t : TypeId} {b n : Nat} {l : List (Int × Int)} (h : IsSet w t b n l) (hb : Below w.heap.size w w') : IsSet w' t b n l := by
  obtain ⟨D, ⟨es, clock, h1, h3⟩, h2⟩ := h
  exact ⟨D, ⟨es, clock, (hb.block b (blk_lt' h1)).trans h1, h3⟩, h2⟩
where blk_lt' {w : World} {b : Nat} {o : Obj} (h : w.heap[b]? = some o) : b < w.heap.size := (Array.getElem?_eq_some_iff.1 h).1
theorem zero4 (h4 : Try.prog.underlying 4 = some .bool) (w : World) : (zeroValue 4).run Try.prog w = .ok (.bool false) w := by kernel_rfl
theorem bool_inv (h4 : Try.prog.underlying 4 = some .bool) {v : Value} {c : Bool} {ps : List MemPlace} (h : plainElem (H := Unit) Try.prog 4 v = some (.lit (.bool c), ps)) : v = .bool c := by
  unfold plainElem at h
  rw [h4] at h
  cases v <;> simp at h
  rw [h.1]
/-- 'm[p]' in a walk. -/
theorem lookup_at {t T : TypeId} {P : Program} (hP : P = Try.prog) (w : World) {ops : Array Oper} {rest : List Oper} {o : Oper} {a : Act} {Q : Exit → Act → World → Prop}
    (hg : o.guard = none) (m x : Operand) (hop : o.op = Op.lookup T m x false) (K : Two t) (h4 : Try.prog.underlying 4 = some .bool) (hT : Try.prog.underlying T = some (.map t 4)) (b n : Nat) (l : List (Int × Int)) (p q : Int)
    (hm : a.eval m = .map (some b)) (hs : IsSet w t b n l) (hx : a.eval x = .agg #[.int .i64 p, .int .i64 q]) (hp : (Lit.int .i64 p).wf = true) (hq : (Lit.int .i64 q).wf = true)
    (hK : wpList P ops Q rest (a.put o.dst (.bool (decide ((p, q) ∈ l)))) w) : wpList P ops Q (o :: rest) a w := by
  subst hP
  obtain ⟨D, h1, h2⟩ := hs
  obtain ⟨k, hk⟩ := K.key hp hq
  obtain ⟨v, ps, hrun, hv⟩ := h1.lookup K.law hT (zero4 h4 w) (plainElem_bool h4 false) hk
  rw [h2 p q k hk] at hv
  obtain rfl := bool_inv h4 hv
  refine wpList_plain hg fun K' hK' => ?_
  unfold Oper.wp
  simp [execOp, hop, hm, hx, hrun, Result.andThen]
  exact hK' _ _ hK
/-- 'm[p] = true' in a walk. -/
theorem update_at {t T : TypeId} {P : Program} (hP : P = Try.prog) (w : World) {ops : Array Oper} {rest : List Oper} {o : Oper} {a : Act} {Q : Exit → Act → World → Prop}
    (hg : o.guard = none) (m x v : Operand) (hop : o.op = Op.mapUpdate T m x v) (K : Two t) (h4 : Try.prog.underlying 4 = some .bool) (hT : Try.prog.underlying T = some (.map t 4)) (b n : Nat) (l : List (Int × Int)) (p q : Int) (hn : n < maxLen)
    (hm : a.eval m = .map (some b)) (hs : IsSet w t b n l) (hx : a.eval x = .agg #[.int .i64 p, .int .i64 q]) (hv : a.eval v = .bool true) (hp : (Lit.int .i64 p).wf = true) (hq : (Lit.int .i64 q).wf = true)
    (hK : ∀ w', IsSet w' t b (n + 1) (l ++ [(p, q)]) → w.grownBy w' (some b) → wpList P ops Q rest (a.put o.dst undef) w') : wpList P ops Q (o :: rest) a w := by
  subst hP
  obtain ⟨D, h1, h2⟩ := hs
  obtain ⟨k, hk⟩ := K.key hp hq
  refine wpList_mapUpdate_own (H := Unit) w hg m x v T hop t 4 K.law hT (plainElem Try.prog 4) b n D hm h1 hn _ _ k hx hv hk _ _ (plainElem_bool h4 true) fun w' r1 r2 => hK w' ⟨_, r1, fun x y k2 hk2 => ?_⟩ r2
  by_cases he : k2 = k
  · subst he
    have e := K.law.inj hk hk2
    simp at e
    rw [Maps.atKey_put_same h1.isMap (K.law.key hk), ← e.1, ← e.2]
    simp
  · rw [Maps.atKey_put_other he, h2 x y k2 hk2]
    have hne : (x, y) ≠ (p, q) := fun e => he (by
      simp only [Prod.mk.injEq] at e
      rw [e.1, e.2, hk] at hk2
      exact (Option.some.inj hk2).symm)
    have e : decide ((x, y) ∈ l) = decide ((x, y) ∈ l ++ [(p, q)]) := by simp [hne]
    rw [e]
/-- 'map[K]bool{}' in a walk. -/
theorem make_at {t T : TypeId} {P : Program} (w : World) {ops : Array Oper} {rest : List Oper} {o : Oper} {a : Act} {Q : Exit → Act → World → Prop} (hg : o.guard = none) (hop : o.op = Op.makeMap T none)
    (h : ∀ g, g = w.heap.size → ∀ w1, IsSet w1 t g 0 [] → Below w.heap.size w w1 → wpList P ops Q rest (a.put o.dst (.map (some g))) w1) : wpList P ops Q (o :: rest) a w := by
  refine Kd.event_run hg (v := .map (some w.heap.size)) (w1 := w.alloc (.map #[] 0)) ?_ (h _ rfl _ (IsSet.made w t) (below_alloc (Below.refl _ _) _))
  unfold execOp
  simp [hop, Instr.makeMap]
/-- What stays true while only new memory is written. -/
class Stab (F : World → Prop) : Prop where
  s : ∀ {W W' : World}, F W → Below W.heap.size W W' → F W'
theorem stab {F : World → Prop} [Stab F] {W W' : World} (hb : Below W.heap.size W W') (h : F W) : F W' := Stab.s h hb
instance (g : Nat) (o : Obj) : Stab (fun W => W.heap[g]? = some o) := ⟨fun h hb => (hb.block _ (IsSet.below.blk_lt' h)).trans h⟩
instance (t : TypeId) (b n : Nat) (l : List (Int × Int)) : Stab (fun W => IsSet W t b n l) := ⟨fun h hb => h.below hb⟩
instance (w : World) : Stab (fun W => Below w.heap.size w W) := ⟨fun h hb => below_step h hb⟩
instance {α : Type} (d : Kd α) (A : Option Addr) (n : Nat) (l : List α) : Stab (fun W => d.C W A n l) := ⟨fun h hb => Kd.C_below h hb⟩
instance : Stab (fun _ => True) := ⟨fun _ _ => trivial⟩
instance (F G : World → Prop) [Stab F] [Stab G] : Stab (fun W => F W ∧ G W) := ⟨fun h hb => ⟨Stab.s h.1 hb, Stab.s h.2 hb⟩⟩
/-- The three cells of a network that lies in a block of the call's own. -/
theorem net_cells {w : World} {g : Nat} {a b c : Value} {t : TypeId} (h : w.heap[g]? = some (.cells #[a, b, c] t (0, 0))) : w.cell? ⟨g, 0, none⟩ = some a ∧ w.cell? ⟨g, 1, none⟩ = some b ∧ w.cell? ⟨g, 2, none⟩ = some c ∧ w.frozen? ⟨g, 0, none⟩ = false ∧ w.frozen? ⟨g, 1, none⟩ = false ∧ w.frozen? ⟨g, 2, none⟩ = false :=
  ⟨(blk_cell h 0).trans rfl, (blk_cell h 1).trans rfl, (blk_cell h 2).trans rfl, blk_frozen h 0, blk_frozen h 1, blk_frozen h 2⟩
theorem cells2 {w : World} {g : Nat} {a b : Value} {t : TypeId} (h : w.heap[g]? = some (.cells #[a, b] t (0, 0))) : w.cell? ⟨g, 0, none⟩ = some a ∧ w.cell? ⟨g, 1, none⟩ = some b ∧ w.frozen? ⟨g, 0, none⟩ = false ∧ w.frozen? ⟨g, 1, none⟩ = false :=
  ⟨(blk_cell h 0).trans rfl, (blk_cell h 1).trans rfl, blk_frozen h 0, blk_frozen h 1⟩
theorem cells4 {w : World} {g : Nat} {a b c d : Value} {t : TypeId} (h : w.heap[g]? = some (.cells #[a, b, c, d] t (0, 0))) : w.cell? ⟨g, 0, none⟩ = some a ∧ w.cell? ⟨g, 1, none⟩ = some b ∧ w.cell? ⟨g, 2, none⟩ = some c ∧ w.cell? ⟨g, 3, none⟩ = some d ∧ w.frozen? ⟨g, 0, none⟩ = false ∧ w.frozen? ⟨g, 1, none⟩ = false ∧ w.frozen? ⟨g, 2, none⟩ = false ∧ w.frozen? ⟨g, 3, none⟩ = false :=
  ⟨(blk_cell h 0).trans rfl, (blk_cell h 1).trans rfl, (blk_cell h 2).trans rfl, (blk_cell h 3).trans rfl, blk_frozen h 0, blk_frozen h 1, blk_frozen h 2, blk_frozen h 3⟩
theorem two_Point : Two 46 := two_of (d := .bool) Try.underlying46 row46 (by kernel_rfl) (by kernel_rfl) (by kernel_rfl) Try.underlying3 (by kernel_rfl) (by kernel_rfl) (by kernel_rfl)
theorem row66 : (66 : TypeId) < Try.prog.types.size := of_decide_eq_true (by kernel_rfl)
theorem two_Ban : Two 66 := two_of (d := .bool) Try.underlying66 row66 (by kernel_rfl) (by kernel_rfl) (by kernel_rfl) Try.underlying3 (by kernel_rfl) (by kernel_rfl) (by kernel_rfl)
end Go.Proofs.Ythjejgaekoopnaa.Sets
