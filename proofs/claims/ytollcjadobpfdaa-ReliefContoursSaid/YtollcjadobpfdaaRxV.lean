/- Reflection, part V: what a text of code comes to, and that it does so. -/
import Derived.Test.YtollcjadobpfdaaRxU
namespace Go.Rx
set_option linter.unusedVariables false
set_option linter.unusedSimpArgs false
set_option linter.unusedSectionVars false
inductive Ex where
 | nx
 | ret
 | exit (id : Nat)
def Ex.to : Ex → Exit
 | .nx => .normal
 | .ret => .ret
 | .exit id => .exit id
structure Ann where
 loops : List (Nat × Cl) := []
 blks : List (Nat × Cl) := []
 conds : List (Nat × Cl) := []
 regs : List (Nat × Cl) := []
def findC : List (Nat × Cl) → Nat → Option Cl
 | [], _ => none
 | (j, c) :: r, i => match j.beq i with
   | true => some c
   | false => findC r i
def cut (l : List (Nat × Cl)) (i : Nat) (σ : St) : St :=
 match findC l i with
 | some c => c.go σ
 | none => σ
def firstReg : Code → Nat
 | .region id _ _ => id
 | .seq a b => match (firstReg a).beq 1000000 with
   | true => firstReg b
   | false => firstReg a
 | .cond _ a b => match (firstReg a).beq 1000000 with
   | true => firstReg b
   | false => firstReg a
 | .block _ c => firstReg c
 | .loop c => firstReg c
 | _ => 1000000
def condId (a b : Code) : Nat := match (firstReg a).beq 1000000 with
 | true => firstReg b
 | false => firstReg a
noncomputable def pickK {α β : Type} (l : List β) (z : Option α) (f : β → List β → Option α) : Option α :=
 open Classical in if h : ∃ y, (l = [] → z = some y) ∧ ∀ i (hi : i < l.length), f l[i] (l.eraseIdx i) = some y then some h.choose else none
theorem pickK_some {α β : Type} {l : List β} {z : Option α} {f : β → List β → Option α} {y : α} (h : pickK l z f = some y) : (l = [] → z = some y) ∧ ∀ i (hi : i < l.length), f l[i] (l.eraseIdx i) = some y := by
 unfold pickK at h
 split at h
 · rename_i g
   cases h
   exact g.choose_spec
 · cases h
theorem pickK_intro {α β : Type} {l : List β} {z : Option α} {f : β → List β → Option α} {y : α} (h1 : l = [] → z = some y) (h2 : ∀ i (hi : i < l.length), f l[i] (l.eraseIdx i) = some y) : pickK l z f = some y := by
 unfold pickK
 have h : ∃ y, (l = [] → z = some y) ∧ ∀ i (hi : i < l.length), f l[i] (l.eraseIdx i) = some y := ⟨y, h1, h2⟩
 rw [dif_pos h]
 obtain ⟨g1, g2⟩ := h.choose_spec
 cases l with
 | nil => exact (g1 rfl).symm.trans (h1 rfl)
 | cons x l => exact (g2 0 (by simp)).symm.trans (h2 0 (by simp))
abbrev Kont (α : Type) := Ex → St → Option α
def onNx {α : Type} (f : St → Option α) (K : Kont α) : Kont α
 | .nx, σ => f σ
 | e, σ => K e σ
def inBlk {α : Type} (id : Nat) (f : St → Option α) (K : Kont α) : Kont α
 | .nx, σ => f σ
 | .exit j, σ => match j.beq id with
   | true => f σ
   | false => K (.exit j) σ
 | .ret, σ => K .ret σ
def loopK {α : Type} (body : St → Kont α → Option α) (cl : St → St) (K : Kont α) : Nat → St → Option α
 | 0, _ => none
 | k + 1, σ => body σ (onNx (fun σ' => loopK body cl K k (cl σ')) K)
section
variable (T : Tab) (Y : Tys) (E : Env) (A : Ann) (k : Nat)
noncomputable def regK {α : Type} (ops : List Oper) (σ : St) (K : St → List Foot → Option α) : Option α :=
 match ops with
 | o :: r => match o.op with
   | .next x false => match o.guard, σ.ρ x with
     | none, .cp (.one (.ptr d 0)) => match σ.ob d with
       | some (.tok κ) => match σ.ob κ with
         | some (.map KT VT l (some (d', left, _))) => match d'.beq d with
           | true => pickK left (runK T Y E ops 1 r ((σ.setOb κ (some (.map KT VT l none))).put o.dst (.tup [.one (.lit false)])) K)
              (fun kv rest => runK T Y E ops 1 r ((σ.setOb κ (some (.map KT VT l (some (d, rest, some kv))))).put o.dst (.tup [.one (.lit true), .one .any, .one .any])) K)
           | false => none
         | _ => none
       | _ => none
     | _, _ => none
   | _ => runK T Y E ops 0 ops σ K
 | [] => runK T Y E ops 0 ops σ K
noncomputable def den {α : Type} : Code → Nat → St → Kont α → Option α
 | .skip, _, σ, K => K .nx σ
 | .ret, _, σ, K => K .ret σ
 | .exit id, _, σ, K => K (.exit id) σ
 | .seq a b, n, σ, K => den a n σ (onNx (fun σ' => den b n σ' K) K)
 | .cond c a b, n, σ, K => match σ.ρ c with
   | .cp (.one (.lit true)) => den a n σ (onNx (fun σ' => K .nx (cut A.conds (condId a b) σ')) K)
   | .cp (.one (.lit false)) => den b n σ (onNx (fun σ' => K .nx (cut A.conds (condId a b) σ')) K)
   | .cp (.one (.prop p d)) => @ite _ p d (den a n σ (onNx (fun σ' => K .nx (cut A.conds (condId a b) σ')) K)) (den b n σ (onNx (fun σ' => K .nx (cut A.conds (condId a b) σ')) K))
   | _ => none
 | .block id c, _, σ, K => den c id σ (inBlk id (fun σ' => K .nx (cut A.blks id σ')) K)
 | .loop c, n, σ, K => loopK (fun σ K => den c n σ K) (cut A.loops n) K k (cut A.loops n σ)
 | .region id ops false, _, σ, K => regK T Y E ops.toList σ fun σ' _ => K .nx (cut A.regs id σ')
 | .region id ops true, _, σ, K => runK T Y E ops.toList 0 ops.toList σ fun σ' Fs => match indepB ops.toList Fs with
   | true => K .nx (cut A.regs id σ')
   | false => none
 | _, _, _, _ => none
end
def drawOK : Code → Bool
 | .seq a b => drawOK a && drawOK b
 | .cond _ a b => drawOK a && drawOK b
 | .block _ c => drawOK c
 | .loop c => drawOK c
 | .region _ ops true => drawB ops.toList
 | _ => true
section
variable {w0 : World} {Fz Pr0 : Nat → Prop} {Lo : Nat → RL}
variable {P : Program} {T : Tab} {Y : Tys} {E : Env} {A : Ann} {k : Nat}
def Ok (w0 : World) (Fz Pr0 : Nat → Prop) (Lo : Nat → RL) {α : Type} (y : α) (K : Kont α) (Q : Exit → Act → World → Prop) : Prop := ∀ e σ R Pr a w, Inv w0 Fz Pr0 Lo R Pr σ a w → K e σ = some y → Q e.to a w
theorem cut_inv (hFz : ∀ b, b < w0.heap.size → Fz b ∨ Pr0 b) {l : List (Nat × Cl)} {i : Nat} {σ : St} {R : Nat → RL} {Pr : Nat → Prop} {a : Act} {w : World} (h : Inv w0 Fz Pr0 Lo R Pr σ a w) : ∃ R' Pr', Inv w0 Fz Pr0 Lo R' Pr' (cut l i σ) a w := by
 unfold cut
 split
 · exact h.clean hFz _
 · exact ⟨R, Pr, h⟩
theorem leftL_other {α : Type} {b : Nat} {seen : Array Nat} : ∀ {es : List MapEntry} {l : List α}, b ∉ es.map (·.born) → leftL es l (seen.push b) = leftL es l seen
 | [], l, _ => by cases l <;> rfl
 | e :: es, [], _ => rfl
 | e :: es, x :: l, h => by
   simp only [List.map_cons, List.mem_cons, not_or] at h
   have hc : (seen.push b).contains e.born = seen.contains e.born := by
    rw [Array.contains_push]
    have : (e.born == b) = false := by simpa using fun z : e.born = b => h.1 z.symm
    rw [this, Bool.or_false]
   rw [leftL, leftL, hc, leftL_other h.2]
theorem leftL_pick {α : Type} {seen : Array Nat} {e : MapEntry} : ∀ {es : List MapEntry} {l : List α} {j : Nat} {x : α}, es.length = l.length → (es.map (·.born)).Nodup → es[j]? = some e → l[j]? = some x → seen.contains e.born = false →
 ∃ i, ∃ hi : i < (leftL es l seen).length, (leftL es l seen)[i] = x ∧ leftL es l (seen.push e.born) = (leftL es l seen).eraseIdx i
 | [], _, j, _, _, _, he, _, _ => by simp at he
 | e0 :: es, [], j, _, hl, _, _, _, _ => by simp at hl
 | e0 :: es, x0 :: l, j, x, hl, hn, he, hx, hs => by
   rw [List.map_cons, List.nodup_cons] at hn
   cases j with
   | zero =>
     simp only [List.getElem?_cons_zero, Option.some.injEq] at he hx
     subst he hx
     have h1 : leftL (e0 :: es) (x0 :: l) seen = x0 :: leftL es l seen := by rw [leftL, hs]
     have h2 : leftL (e0 :: es) (x0 :: l) (seen.push e0.born) = leftL es l seen := by
      have : (seen.push e0.born).contains e0.born = true := by simp
      rw [leftL, this, leftL_other hn.1]
     exact ⟨0, by rw [h1]; simp, by simp [h1], by rw [h2, h1]; rfl⟩
   | succ j =>
     simp only [List.getElem?_cons_succ] at he hx
     obtain ⟨i, hi, g1, g2⟩ := leftL_pick (by simpa using hl) hn.2 he hx hs
     have hne : e0.born ≠ e.born := fun z => hn.1 (by rw [z]; exact List.mem_map.2 ⟨e, List.mem_of_getElem? he, rfl⟩)
     have hc : (seen.push e.born).contains e0.born = seen.contains e0.born := by
      rw [Array.contains_push]
      have : (e0.born == e.born) = false := by simpa using hne
      rw [this, Bool.or_false]
     cases hb : seen.contains e0.born with
     | true =>
       have h1 : leftL (e0 :: es) (x0 :: l) seen = leftL es l seen := by rw [leftL, hb]
       have h2 : leftL (e0 :: es) (x0 :: l) (seen.push e.born) = leftL es l (seen.push e.born) := by rw [leftL, hc, hb]
       exact ⟨i, by rw [h1]; exact hi, by simp only [h1]; exact g1, by rw [h2, h1]; exact g2⟩
     | false =>
       have h1 : leftL (e0 :: es) (x0 :: l) seen = x0 :: leftL es l seen := by rw [leftL, hb]
       have h2 : leftL (e0 :: es) (x0 :: l) (seen.push e.born) = x0 :: leftL es l (seen.push e.born) := by rw [leftL, hc, hb]
       exact ⟨i + 1, by rw [h1]; simpa using hi, by simp only [h1, List.getElem_cons_succ]; exact g1, by rw [h2, h1, g2]; rfl⟩
theorem leftL_none {α : Type} {seen : Array Nat} : ∀ {es : List MapEntry} {l : List α}, (∀ e ∈ es, seen.contains e.born = true) → leftL es l seen = []
 | [], l, _ => by cases l <;> rfl
 | e :: es, [], _ => rfl
 | e :: es, x :: l, h => by
   rw [leftL, h e (List.mem_cons_self ..)]
   exact leftL_none fun e' he => h e' (List.mem_cons_of_mem _ he)
theorem next_wp (hFz : ∀ b, b < w0.heap.size → Fz b ∨ Pr0 b) {σ : St} {R : Nat → RL} {Pr : Nat → Prop} {a : Act} {w : World} (h : Inv w0 Fz Pr0 Lo R Pr σ a w) {o : Oper} {x : Operand} (ho : o.op = .next x false) {d κ : Nat} {KT VT : Ty} {l left : List (KT.D × VT.D)} {cur : Option (KT.D × VT.D)}
 (hx : σ.ρ x = .cp (.one (.ptr d 0))) (hκ : σ.ob κ = some (.map KT VT l (some (d, left, cur)))) {K : Act → World → Prop} {Q : Exit → Act → World → Prop}
 (hz : left = [] → ∀ u R' Pr' w', Inv w0 Fz Pr0 Lo R' Pr' ((σ.setOb κ (some (.map KT VT l none))).put o.dst (.tup [.one (.lit false)])) (a.put o.dst u) w' → K (a.put o.dst u) w')
 (hf : ∀ i (hi : i < left.length), ∀ u R' Pr' w', Inv w0 Fz Pr0 Lo R' Pr' ((σ.setOb κ (some (.map KT VT l (some (d, left.eraseIdx i, some left[i]))))).put o.dst (.tup [.one (.lit true), .one .any, .one .any])) (a.put o.dst u) w' → K (a.put o.dst u) w') : o.wp P a w K Q := by
 obtain ⟨dst, op, ty, pos, after, guard⟩ := o
 simp only at ho hz hf
 subst ho
 have hxv := h.opd x
 rw [hx] at hxv
 have hxv : a.eval x = .pointer (some ⟨(R d).blk, 0, none⟩) := hxv
 obtain ⟨es, clock, g1, ⟨g2, g2'⟩, g3, g4, g5⟩ := h.ob κ _ hκ
 obtain ⟨since, seen, k1, k2, k3, k4, _⟩ := g5 d left cur rfl
 have hexec : execOp a.eval ⟨dst, .next x false, ty, pos, after, guard⟩ = (do pure (.value (← Instr.next (a.eval x) false ty))) := rfl
 have hdp : σ.ob d ≠ none := h.wo κ _ d hκ (List.mem_singleton.2 rfl)
 unfold Oper.wp
 rcases run_next_at (P := P) w ty (R d).blk (R κ).blk since clock seen es clock k1 g1 k3 k2 with ⟨m1, m2⟩ | ⟨e, he, w1, hw1, m2⟩
 · rw [hexec, hxv, Sem.run_bind, m2]
   have hl : left = [] := by
    rw [k4]
    refine leftL_none fun e he => ?_
    have hm : leftOf es seen = #[] := Array.eq_empty_of_size_eq_zero m1
    unfold leftOf at hm
    rw [Array.filter_eq_empty_iff] at hm
    have := hm e (by simpa using he)
    simpa using this
   have h1 := h.upd κ _ (.map KT VT l none) hκ (w' := w) (R' := R) (fun _ _ => rfl) (.inl rfl) (fun _ _ _ => rfl) (Grow.refl _) (fun _ => .inr ⟨trivial, rfl⟩) ⟨es, clock, g1, ⟨g2, g2'⟩, g3, g4, fun _ _ _ z => by cases z⟩ (fun _ z => by cases z) (fun b z => by obtain ⟨_, _, z, _⟩ := z; cases z)
   exact hz hl _ R Pr w (h1.put dst _ _ ⟨_, rfl, rfl, trivial⟩ (fun κ z => by cases z))
 · rw [hexec, hxv, Sem.run_bind, m2]
   obtain ⟨he1, he2⟩ := mem_left he
   obtain ⟨j, hj⟩ := List.getElem?_of_mem he1
   have hjl : j < l.length := by rw [← g3]; exact (List.getElem?_eq_some_iff.1 hj).1
   obtain ⟨i, hi, q1, q2⟩ := leftL_pick g3 g2 hj (List.getElem?_eq_getElem hjl) he2
   have hnb : (R κ).blk ≠ (R d).blk := fun z => ((h.lm κ _ _ hκ ⟨d, _, rfl, rfl⟩).2.2 κ _ hκ).1 trivial z
   have hheap : ∀ b, (ChangeMaps.setBlock w1 (R d).blk (.mapIter (some (R κ).blk) since (seen.push e.born) clock)).heap[b]? = if b = (R d).blk then some (.mapIter (some (R κ).blk) since (seen.push e.born) clock) else w.heap[b]? := fun b => by
    have hlt : (R d).blk < w.heap.size := (Array.getElem?_eq_some_iff.1 k1).1
    have : (ChangeMaps.setBlock w1 (R d).blk (.mapIter (some (R κ).blk) since (seen.push e.born) clock)).heap = w.heap.setIfInBounds (R d).blk (.mapIter (some (R κ).blk) since (seen.push e.born) clock) := by
     rcases hw1 with rfl | rfl <;> rfl
    rw [this, Array.getElem?_setIfInBounds]
    by_cases hb : (R d).blk = b
    · subst hb; simp [hlt]
    · rw [if_neg hb, if_neg (fun z => hb z.symm)]
   have hsz : (ChangeMaps.setBlock w1 (R d).blk (.mapIter (some (R κ).blk) since (seen.push e.born) clock)).heap.size = w.heap.size := by
    have e1 : w1.heap = w.heap := by rcases hw1 with rfl | rfl <;> rfl
    show (w1.heap.setIfInBounds _ _).size = _
    rw [Array.size_setIfInBounds, e1]
   have hgr : Grow w (ChangeMaps.setBlock w1 (R d).blk (.mapIter (some (R κ).blk) since (seen.push e.born) clock)) := ⟨by rw [hsz]; exact Nat.le_refl _, by rcases hw1 with rfl | rfl <;> rfl, by rcases hw1 with rfl | rfl <;> rfl, by rcases hw1 with rfl | rfl <;> rfl, by rcases hw1 with rfl | rfl <;> first | exact Nat.le_refl _ | exact Nat.le_succ _⟩
   generalize hw' : ChangeMaps.setBlock w1 (R d).blk (.mapIter (some (R κ).blk) since (seen.push e.born) clock) = w' at *
   have hocc : ∀ w2 b, Occ w2 R κ (.map KT VT l (some (d, left.eraseIdx i, some (l[j]'hjl)))) b → Occ w R κ (.map KT VT l (some (d, left, cur))) b := fun w2 b hoc => by
    rcases hoc with ⟨_, z⟩ | ⟨d', L, z1, z2⟩
    · exact .inl ⟨trivial, z⟩
    · cases z1; exact .inr ⟨d, _, rfl, z2⟩
   have hPrd : ¬ Pr (R d).blk := (h.lm κ _ _ hκ ⟨d, _, rfl, rfl⟩).1
   have hrep : RepOb w' R Pr κ (.map KT VT l (some (d, left.eraseIdx i, some (l[j]'hjl)))) := by
    refine ⟨es, clock, by rw [hheap, if_neg hnb]; exact g1, ⟨g2, g2'⟩, g3, fun i kv en z1 z2 => (g4 i kv en z1 z2).move (fun b hb => by rw [hheap, if_neg (fun (z : b = (R d).blk) => hPrd (z ▸ hb))]) (fun _ h => h), fun d' L cur' z => ?_⟩
    cases z
    refine ⟨since, seen.push e.born, by rw [hheap, if_pos rfl], k2, k3, ?_, fun kv z => ?_⟩
    · rw [q2]; congr 1
    · cases z
      exact ⟨j, e, seen, List.getElem?_eq_getElem hjl, hj, rfl⟩
   have key : ∀ (q κ1 : Nat) (o1 : Ob), ([(κ, Ob.map KT VT l (some (d, left.eraseIdx i, some (l[j]'hjl))))] : List (Nat × Ob))[q]? = some (κ1, o1) → q = 0 ∧ κ1 = κ ∧ o1 = .map KT VT l (some (d, left.eraseIdx i, some (l[j]'hjl))) := fun q κ1 o1 z => by
    cases q with
    | zero => simp at z; exact ⟨rfl, z.1.symm, z.2.symm⟩
    | succ q => simp at z
   have h2 := h.lent2 [(κ, .map KT VT l (some (d, left.eraseIdx i, some (l[j]'hjl))))] (w' := w') (R' := R) (Pr' := Pr) (by simp) (fun κ1 hκ1 => by
    simp only [List.map_cons, List.map_nil, List.mem_singleton] at hκ1
    subst hκ1; rw [hκ]; simp) (fun _ _ => rfl) (fun _ => .inl rfl)
    ⟨fun q κ1 o1 z => by obtain ⟨_, rfl, rfl⟩ := key q κ1 o1 z; exact hrep, fun q κ1 o1 b z hoc => by obtain ⟨_, rfl, rfl⟩ := key q κ1 o1 z; exact (h.occ_un hκ (hocc _ b hoc)).1, fun q q' κ1 o1 κ2 o2 b z z' hne _ => absurd ((key q κ1 o1 z).1.trans (key q' κ2 o2 z').1.symm) hne, fun q κ1 o1 z _ hi => by
      obtain ⟨_, rfl, rfl⟩ := key q κ1 o1 z
      obtain ⟨d', L, e1, e2⟩ := hi
      cases e1; exact hnb e2⟩ (fun κ1 o1 z κ2 hk => by
      simp only [List.mem_singleton, Prod.mk.injEq] at z
      obtain ⟨rfl, rfl⟩ := z
      simp only [Ob.refs, List.mem_singleton] at hk
      subst hk; exact hdp) (fun b ⟨q, κ1, o1, z, hoc⟩ => by
      obtain ⟨_, rfl, rfl⟩ := key q κ1 o1 z
      exact .inl ⟨κ1, by simp, _, hκ, hocc _ b hoc⟩) (fun b _ hall => by
      rw [hheap, if_neg (fun z => hall κ (by simp) _ hκ (.inr ⟨d, _, rfl, z⟩))]) hgr (fun _ z => z) (fun b z _ => .inl z) (fun b z => by rw [hsz]; exact h.pr b z) hFz
   have hi' : i < left.length := by rw [k4]; exact hi
   have hq : left[i] = l[j] := by
    have : left[i] = (leftL es.toList l seen)[i] := by congr 1
    rw [this]; exact q1
   refine hf i hi' _ R Pr w' (Inv.put ?_ dst _ _ ⟨_, rfl, rfl, trivial, trivial, trivial⟩ (fun κ z => by cases z))
   rw [hq]; exact h2
theorem den_sound (hT : TabOK P T) (hE : EnvOK P E) (hE' : EnvE P E) (hFz : ∀ b, b < w0.heap.size → Fz b ∨ Pr0 b) (hm : P.follows .mixedOrders = true) {α : Type} (y : α) : ∀ (c : Code), drawOK c = true → ∀ (n : Nat) (σ : St) (K : Kont α) (R : Nat → RL) (Pr : Nat → Prop) (a : Act) (w : World) (Q : Exit → Act → World → Prop),
 Inv w0 Fz Pr0 Lo R Pr σ a w → den T Y E A k c n σ K = some y → Ok w0 Fz Pr0 Lo y K Q → c.wp P Q a w
 | .skip, _, n, σ, K, R, Pr, a, w, Q, h, hd, hq => wp_skip (hq .nx σ R Pr a w h hd)
 | .ret, _, n, σ, K, R, Pr, a, w, Q, h, hd, hq => wp_ret (hq .ret σ R Pr a w h hd)
 | .exit id, _, n, σ, K, R, Pr, a, w, Q, h, hd, hq => wp_exit (hq (.exit id) σ R Pr a w h hd)
 | .seq x z, hdr, n, σ, K, R, Pr, a, w, Q, h, hd, hq => by
   simp only [drawOK, Bool.and_eq_true] at hdr
   refine wp_seq (den_sound hT hE hE' hFz hm y x hdr.1 n σ _ R Pr a w _ h hd ?_)
   intro e σ' R' Pr' a' w' h' hk
   cases e with
   | nx => exact den_sound hT hE hE' hFz hm y z hdr.2 n σ' K R' Pr' a' w' Q h' hk hq
   | ret => exact hq .ret σ' R' Pr' a' w' h' hk
   | exit id => exact hq (.exit id) σ' R' Pr' a' w' h' hk
 | .cond c x z, hdr, n, σ, K, R, Pr, a, w, Q, h, hd, hq => by
   simp only [drawOK, Bool.and_eq_true] at hdr
   have hc := h.opd c
   have hq' : Ok w0 Fz Pr0 Lo y (onNx (fun σ' => K .nx (cut A.conds (condId x z) σ')) K) Q := fun e σ' R' Pr' a' w' h' hk => by
    cases e with
    | nx =>
      obtain ⟨R2, Pr2, h2⟩ := cut_inv hFz (l := A.conds) (i := condId x z) h'
      exact hq .nx _ R2 Pr2 a' w' h2 hk
    | ret => exact hq .ret σ' R' Pr' a' w' h' hk
    | exit id => exact hq (.exit id) σ' R' Pr' a' w' h' hk
   unfold den at hd
   split at hd
   · rename_i e
     rw [e] at hc
     exact wp_cond_true hc (den_sound hT hE hE' hFz hm y x hdr.1 n σ _ R Pr a w Q h hd hq')
   · rename_i e
     rw [e] at hc
     exact wp_cond_false hc (den_sound hT hE hE' hFz hm y z hdr.2 n σ _ R Pr a w Q h hd hq')
   · rename_i p d e
     rw [e] at hc
     have hc : a.eval c = .bool (@decide p d) := hc
     by_cases hp : p
     · rw [if_pos hp] at hd
       refine wp_cond_true (by rw [hc]; simp [hp]) (den_sound hT hE hE' hFz hm y x hdr.1 n σ _ R Pr a w Q h hd hq')
     · rw [if_neg hp] at hd
       refine wp_cond_false (by rw [hc]; simp [hp]) (den_sound hT hE hE' hFz hm y z hdr.2 n σ _ R Pr a w Q h hd hq')
   · cases hd
 | .block id c, hdr, n, σ, K, R, Pr, a, w, Q, h, hd, hq => by
   refine wp_block (den_sound hT hE hE' hFz hm y c hdr id σ _ R Pr a w _ h hd ?_)
   intro e σ' R' Pr' a' w' h' hk
   have hcut : K .nx (cut A.blks id σ') = some y → Q .normal a' w' := fun hk => by
    obtain ⟨R2, Pr2, h2⟩ := cut_inv hFz (l := A.blks) (i := id) h'
    exact hq .nx _ R2 Pr2 a' w' h2 hk
   cases e with
   | nx => exact hcut hk
   | ret => exact hq .ret σ' R' Pr' a' w' h' hk
   | exit j =>
     simp only [inBlk] at hk
     split at hk
     · rename_i hj
       rw [Nat.beq_eq] at hj
       subst hj
       show Exit.inBlock j Q (.exit j) a' w'
       simp only [Exit.inBlock, if_true]
       exact hcut hk
     · rename_i hj
       have hj' : ¬ j = id := fun e => by subst e; simp at hj
       show Exit.inBlock id Q (.exit j) a' w'
       simp only [Exit.inBlock, if_neg hj']
       exact hq (.exit j) σ' R' Pr' a' w' h' hk
 | .loop c, hdr, n, σ, K, R, Pr, a, w, Q, h, hd, hq => by
   obtain ⟨R1, Pr1, h1⟩ := cut_inv hFz (l := A.loops) (i := n) h
   refine wp_loop_ghost (fun j a w => ∃ σ R Pr, Inv w0 Fz Pr0 Lo R Pr σ a w ∧ loopK (fun σ K => den T Y E A k c n σ K) (cut A.loops n) K j σ = some y) k ⟨_, R1, Pr1, h1, hd⟩ ?_
   rintro j a w ⟨σ, R, Pr, h, hd⟩
   cases j with
   | zero => simp only [loopK] at hd; cases hd
   | succ j =>
     simp only [loopK] at hd
     refine den_sound hT hE hE' hFz hm y c hdr n _ _ R Pr a w _ h hd ?_
     intro e σ' R' Pr' a' w' h' hk
     cases e with
     | nx =>
       obtain ⟨R2, Pr2, h2⟩ := cut_inv hFz (l := A.loops) (i := n) h'
       exact ⟨j, by omega, _, R2, Pr2, h2, hk⟩
     | ret => exact hq .ret σ' R' Pr' a' w' h' hk
     | exit id => exact hq (.exit id) σ' R' Pr' a' w' h' hk
 | .region id ops false, hdr, n, σ, K, R, Pr, a, w, Q, h, hd, hq => by
   refine wp_region_list ?_
   have go : ∀ {i : Nat} {r : List Oper} {σ : St} {R : Nat → RL} {Pr : Nat → Prop} {a : Act} {w : World}, Inv w0 Fz Pr0 Lo R Pr σ a w → runK T Y E ops.toList i r σ (fun σ' _ => K .nx (cut A.regs id σ')) = some y → wpList P ops.toList.toArray Q r a w := fun h hd => by
    obtain ⟨σ', Fs, hL, hk⟩ := runK_some T Y E hd
    exact lex_sound (Q := Q) hT hE hE' hFz hL h fun R' Pr' a' w' h' => by
     obtain ⟨R2, Pr2, h2⟩ := cut_inv hFz (l := A.regs) (i := id) h'
     exact hq .nx _ R2 Pr2 a' w' h2 hk
   suffices hs : wpList P ops.toList.toArray Q ops.toList a w by simpa using hs
   have hd : regK T Y E ops.toList σ (fun σ' _ => K .nx (cut A.regs id σ')) = some y := hd
   unfold regK at hd
   split at hd
   · rename_i o r hops
     split at hd
     · rename_i x hox
       split at hd
       · rename_i d hg hx
         split at hd
         · rename_i κ hdt
           split at hd
           · rename_i KT VT l d' left cur hκ
             split at hd
             · rename_i hdd
               have hdd := Nat.eq_of_beq_eq_true hdd
               subst hdd
               obtain ⟨p1, p2⟩ := pickK_some hd
               rw [hops]
               refine wpList_step fun K2 hK2 => ?_
               have hwt : Region.wanted o (yielded (o :: r).toArray a.tmps) = true := by simp [Region.wanted, hg]
               rw [hwt, if_pos rfl]
               rw [hops] at go p1 p2
               exact next_wp hFz h hox hx hκ (fun hl u R' Pr' w' h' => hK2 _ _ (go h' (p1 hl))) (fun i hi u R' Pr' w' h' => hK2 _ _ (go h' (p2 i hi)))
             · cases hd
           · cases hd
         · cases hd
       · cases hd
     · rename_i hne
       exact go h hd
   · rename_i hnil
     exact go h hd
 | .region id ops true, hdr, n, σ, K, R, Pr, a, w, Q, h, hd, hq => by
   obtain ⟨σ', Fs, hL, hk⟩ := runK_some T Y E hd
   split at hk
   · rename_i hi
     have := drawn_sound (Q := Q) (id := id) hT hE hE' hFz hm hdr hL hi h fun R' Pr' a' w' h' => by
      obtain ⟨R2, Pr2, h2⟩ := cut_inv hFz (l := A.regs) (i := id) h'
      exact hq .nx _ R2 Pr2 a' w' h2 hk
     simpa using this
   · cases hk
 | .rangeFunc .., _, n, σ, K, R, Pr, a, w, Q, h, hd, hq => by cases hd
 | .scope .., _, n, σ, K, R, Pr, a, w, Q, h, hd, hq => by cases hd
 | .label .., _, n, σ, K, R, Pr, a, w, Q, h, hd, hq => by cases hd
 | .goto .., _, n, σ, K, R, Pr, a, w, Q, h, hd, hq => by cases hd
 | .refuse .., _, n, σ, K, R, Pr, a, w, Q, h, hd, hq => by cases hd
end
end Go.Rx
