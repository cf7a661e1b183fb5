/- Reflection, part V: what a text of code comes to, and that it does so. -/
import Derived.Test.YtoebjlimpnmaoaaRxU
namespace Go.Rx
set_option linter.unusedVariables false
set_option linter.unusedSimpArgs false
set_option linter.unusedSectionVars false

inductive Ex where
  | nx
  | ret
  | exit (id : Nat)
def Ex.to : Ex → Exit
  | .nx => .normal
  | .ret => .ret
  | .exit id => .exit id
/-- Where what is known is cut down: at loops and blocks (by the block's number), behind conditions (by the slot), behind regions. -/
structure Ann where
  loops : List (Nat × Cl) := []
  blks : List (Nat × Cl) := []
  conds : List (Nat × Cl) := []
  regs : List (Nat × Cl) := []
def findC : List (Nat × Cl) → Nat → Option Cl
  | [], _ => none
  | (j, c) :: r, i => match j.beq i with
    | true => some c
    | false => findC r i
def cut (l : List (Nat × Cl)) (i : Nat) (σ : St) : St :=
  match findC l i with
  | some c => c.go σ
  | none => σ
/-- The first region of a text. -/
def firstReg : Code → Nat
  | .region id _ _ => id
  | .seq a b => match (firstReg a).beq 1000000 with
    | true => firstReg b
    | false => firstReg a
  | .cond _ a b => match (firstReg a).beq 1000000 with
    | true => firstReg b
    | false => firstReg a
  | .block _ c => firstReg c
  | .loop c => firstReg c
  | _ => 1000000
def condId (a b : Code) : Nat := match (firstReg a).beq 1000000 with
  | true => firstReg b
  | false => firstReg a

abbrev Kont (α : Type) := Ex → St → Option α
def onNx {α : Type} (f : St → Option α) (K : Kont α) : Kont α
  | .nx, σ => f σ
  | e, σ => K e σ
def inBlk {α : Type} (id : Nat) (f : St → Option α) (K : Kont α) : Kont α
  | .nx, σ => f σ
  | .exit j, σ => match j.beq id with
    | true => f σ
    | false => K (.exit j) σ
  | .ret, σ => K .ret σ
def loopK {α : Type} (body : St → Kont α → Option α) (cl : St → St) (K : Kont α) : Nat → St → Option α
  | 0, _ => none
  | k + 1, σ => body σ (onNx (fun σ' => loopK body cl K k (cl σ')) K)

section
variable (T : Tab) (Y : Tys) (E : Env) (A : Ann) (k : Nat)
def den {α : Type} : Code → Nat → St → Kont α → Option α
  | .skip, _, σ, K => K .nx σ
  | .ret, _, σ, K => K .ret σ
  | .exit id, _, σ, K => K (.exit id) σ
  | .seq a b, n, σ, K => den a n σ (onNx (fun σ' => den b n σ' K) K)
  | .cond c a b, n, σ, K => match σ.ρ c with
    | .cp (.one (.lit true)) => den a n σ (onNx (fun σ' => K .nx (cut A.conds (condId a b) σ')) K)
    | .cp (.one (.lit false)) => den b n σ (onNx (fun σ' => K .nx (cut A.conds (condId a b) σ')) K)
    | .cp (.one (.prop p d)) => @ite _ p d (den a n σ (onNx (fun σ' => K .nx (cut A.conds (condId a b) σ')) K)) (den b n σ (onNx (fun σ' => K .nx (cut A.conds (condId a b) σ')) K))
    | _ => none
  | .block id c, _, σ, K => den c id σ (inBlk id (fun σ' => K .nx (cut A.blks id σ')) K)
  | .loop c, n, σ, K => loopK (fun σ K => den c n σ K) (cut A.loops n) K k (cut A.loops n σ)
  | .region id ops false, _, σ, K => runK T Y E ops.toList 0 ops.toList σ fun σ' _ => K .nx (cut A.regs id σ')
  | .region id ops true, _, σ, K => runK T Y E ops.toList 0 ops.toList σ fun σ' Fs => match indepB ops.toList Fs with
    | true => K .nx (cut A.regs id σ')
    | false => none
  | _, _, _, _ => none
end
def drawOK : Code → Bool
  | .seq a b => drawOK a && drawOK b
  | .cond _ a b => drawOK a && drawOK b
  | .block _ c => drawOK c
  | .loop c => drawOK c
  | .region _ ops true => drawB ops.toList
  | _ => true

section
variable {w0 : World} {Fz Pr0 : Nat → Prop} {Lo : Nat → RL}
variable {P : Program} {T : Tab} {Y : Tys} {E : Env} {A : Ann} {k : Nat}
def Ok (w0 : World) (Fz Pr0 : Nat → Prop) (Lo : Nat → RL) {α : Type} (y : α) (K : Kont α) (Q : Exit → Act → World → Prop) : Prop := ∀ e σ R Pr a w, Inv w0 Fz Pr0 Lo R Pr σ a w → K e σ = some y → Q e.to a w

theorem cut_inv (hFz : ∀ b, b < w0.heap.size → Fz b ∨ Pr0 b) {l : List (Nat × Cl)} {i : Nat} {σ : St} {R : Nat → RL} {Pr : Nat → Prop} {a : Act} {w : World} (h : Inv w0 Fz Pr0 Lo R Pr σ a w) : ∃ R' Pr', Inv w0 Fz Pr0 Lo R' Pr' (cut l i σ) a w := by
  unfold cut
  split
  · exact h.clean hFz _
  · exact ⟨R, Pr, h⟩

theorem den_sound (hT : TabOK P T) (hE : EnvOK P E) (hE' : EnvE P E) (hFz : ∀ b, b < w0.heap.size → Fz b ∨ Pr0 b) (hm : P.follows .mixedOrders = true) {α : Type} (y : α) : ∀ (c : Code), drawOK c = true → ∀ (n : Nat) (σ : St) (K : Kont α) (R : Nat → RL) (Pr : Nat → Prop) (a : Act) (w : World) (Q : Exit → Act → World → Prop),
    Inv w0 Fz Pr0 Lo R Pr σ a w → den T Y E A k c n σ K = some y → Ok w0 Fz Pr0 Lo y K Q → c.wp P Q a w
  | .skip, _, n, σ, K, R, Pr, a, w, Q, h, hd, hq => wp_skip (hq .nx σ R Pr a w h hd)
  | .ret, _, n, σ, K, R, Pr, a, w, Q, h, hd, hq => wp_ret (hq .ret σ R Pr a w h hd)
  | .exit id, _, n, σ, K, R, Pr, a, w, Q, h, hd, hq => wp_exit (hq (.exit id) σ R Pr a w h hd)
  | .seq x z, hdr, n, σ, K, R, Pr, a, w, Q, h, hd, hq => by
    simp only [drawOK, Bool.and_eq_true] at hdr
    refine wp_seq (den_sound hT hE hE' hFz hm y x hdr.1 n σ _ R Pr a w _ h hd ?_)
    intro e σ' R' Pr' a' w' h' hk
    cases e with
    | nx => exact den_sound hT hE hE' hFz hm y z hdr.2 n σ' K R' Pr' a' w' Q h' hk hq
    | ret => exact hq .ret σ' R' Pr' a' w' h' hk
    | exit id => exact hq (.exit id) σ' R' Pr' a' w' h' hk
  | .cond c x z, hdr, n, σ, K, R, Pr, a, w, Q, h, hd, hq => by
    simp only [drawOK, Bool.and_eq_true] at hdr
    have hc := h.opd c
    have hq' : Ok w0 Fz Pr0 Lo y (onNx (fun σ' => K .nx (cut A.conds (condId x z) σ')) K) Q := fun e σ' R' Pr' a' w' h' hk => by
      cases e with
      | nx =>
        obtain ⟨R2, Pr2, h2⟩ := cut_inv hFz (l := A.conds) (i := condId x z) h'
        exact hq .nx _ R2 Pr2 a' w' h2 hk
      | ret => exact hq .ret σ' R' Pr' a' w' h' hk
      | exit id => exact hq (.exit id) σ' R' Pr' a' w' h' hk
    unfold den at hd
    split at hd
    · rename_i e
      rw [e] at hc
      exact wp_cond_true hc (den_sound hT hE hE' hFz hm y x hdr.1 n σ _ R Pr a w Q h hd hq')
    · rename_i e
      rw [e] at hc
      exact wp_cond_false hc (den_sound hT hE hE' hFz hm y z hdr.2 n σ _ R Pr a w Q h hd hq')
    · rename_i p d e
      rw [e] at hc
      have hc : a.eval c = .bool (@decide p d) := hc
      by_cases hp : p
      · rw [if_pos hp] at hd
        refine wp_cond_true (by rw [hc]; simp [hp]) (den_sound hT hE hE' hFz hm y x hdr.1 n σ _ R Pr a w Q h hd hq')
      · rw [if_neg hp] at hd
        refine wp_cond_false (by rw [hc]; simp [hp]) (den_sound hT hE hE' hFz hm y z hdr.2 n σ _ R Pr a w Q h hd hq')
    · cases hd
  | .block id c, hdr, n, σ, K, R, Pr, a, w, Q, h, hd, hq => by
    refine wp_block (den_sound hT hE hE' hFz hm y c hdr id σ _ R Pr a w _ h hd ?_)
    intro e σ' R' Pr' a' w' h' hk
    have hcut : K .nx (cut A.blks id σ') = some y → Q .normal a' w' := fun hk => by
      obtain ⟨R2, Pr2, h2⟩ := cut_inv hFz (l := A.blks) (i := id) h'
      exact hq .nx _ R2 Pr2 a' w' h2 hk
    cases e with
    | nx => exact hcut hk
    | ret => exact hq .ret σ' R' Pr' a' w' h' hk
    | exit j =>
      simp only [inBlk] at hk
      split at hk
      · rename_i hj
        rw [Nat.beq_eq] at hj
        subst hj
        show Exit.inBlock j Q (.exit j) a' w'
        simp only [Exit.inBlock, if_true]
        exact hcut hk
      · rename_i hj
        have hj' : ¬ j = id := fun e => by subst e; simp at hj
        show Exit.inBlock id Q (.exit j) a' w'
        simp only [Exit.inBlock, if_neg hj']
        exact hq (.exit j) σ' R' Pr' a' w' h' hk
  | .loop c, hdr, n, σ, K, R, Pr, a, w, Q, h, hd, hq => by
    obtain ⟨R1, Pr1, h1⟩ := cut_inv hFz (l := A.loops) (i := n) h
    refine wp_loop_ghost (fun j a w => ∃ σ R Pr, Inv w0 Fz Pr0 Lo R Pr σ a w ∧ loopK (fun σ K => den T Y E A k c n σ K) (cut A.loops n) K j σ = some y) k ⟨_, R1, Pr1, h1, hd⟩ ?_
    rintro j a w ⟨σ, R, Pr, h, hd⟩
    cases j with
    | zero => simp only [loopK] at hd; cases hd
    | succ j =>
      simp only [loopK] at hd
      refine den_sound hT hE hE' hFz hm y c hdr n _ _ R Pr a w _ h hd ?_
      intro e σ' R' Pr' a' w' h' hk
      cases e with
      | nx =>
        obtain ⟨R2, Pr2, h2⟩ := cut_inv hFz (l := A.loops) (i := n) h'
        exact ⟨j, by omega, _, R2, Pr2, h2, hk⟩
      | ret => exact hq .ret σ' R' Pr' a' w' h' hk
      | exit id => exact hq (.exit id) σ' R' Pr' a' w' h' hk
  | .region id ops false, hdr, n, σ, K, R, Pr, a, w, Q, h, hd, hq => by
    obtain ⟨σ', Fs, hL, hk⟩ := runK_some T Y E hd
    refine wp_region_list ?_
    have := lex_sound (Q := Q) hT hE hE' hFz hL h fun R' Pr' a' w' h' => by
      obtain ⟨R2, Pr2, h2⟩ := cut_inv hFz (l := A.regs) (i := id) h'
      exact hq .nx _ R2 Pr2 a' w' h2 hk
    simpa using this
  | .region id ops true, hdr, n, σ, K, R, Pr, a, w, Q, h, hd, hq => by
    obtain ⟨σ', Fs, hL, hk⟩ := runK_some T Y E hd
    split at hk
    · rename_i hi
      have := drawn_sound (Q := Q) (id := id) hT hE hE' hFz hm hdr hL hi h fun R' Pr' a' w' h' => by
        obtain ⟨R2, Pr2, h2⟩ := cut_inv hFz (l := A.regs) (i := id) h'
        exact hq .nx _ R2 Pr2 a' w' h2 hk
      simpa using this
    · cases hk
  | .rangeFunc .., _, n, σ, K, R, Pr, a, w, Q, h, hd, hq => by cases hd
  | .scope .., _, n, σ, K, R, Pr, a, w, Q, h, hd, hq => by cases hd
  | .label .., _, n, σ, K, R, Pr, a, w, Q, h, hd, hq => by cases hd
  | .goto .., _, n, σ, K, R, Pr, a, w, Q, h, hd, hq => by cases hd
  | .refuse .., _, n, σ, K, R, Pr, a, w, Q, h, hd, hq => by cases hd
end
end Go.Rx
