/- Reflection, part Q: regions whose operations come in their order. -/
import Derived.Test.YtollcjadobpfdaaRxP
namespace Go.Rx
set_option linter.unusedVariables false
set_option linter.unusedSimpArgs false
set_option linter.unusedSectionVars false
def isGuard (all : List Oper) (i : Nat) : Bool := all.any fun o => match o.guard with
 | some (j, _) => j.beq i
 | none => false
def guardSt (all : List Oper) (σ : St) (j : Nat) : Option (Option Bool) :=
 match all[j]? with
 | some o => match o.dst with
   | some d => match σ.get d with
     | .cp (.one (.lit b)) => some (some b)
     | .tup [] => some none
     | _ => none
   | none => none
 | none => none
def noFoot : Foot := ft [] [] false
def dstL : Option Nat → List Nat
 | some d => [d]
 | none => []
def oldR (σ : St) : Option Nat → List Nat
 | some d => (σ.get d).refs
 | none => []
def obR (σ : St) (κ : Nat) : List Nat := match σ.ob κ with
 | some o => o.refs
 | none => []
theorem obR_mem {σ : St} {κ : Nat} {o : Ob} (h : σ.ob κ = some o) {r : Nat} (hr : r ∈ o.refs) : r ∈ obR σ κ := by unfold obR; rw [h]; exact hr
def updR (F : Foot) (σ σ1 : St) : List Nat := F.upd.flatMap fun κ => obR σ κ ++ obR σ1 κ
theorem updR_spec (F : Foot) (σ σ1 : St) : ∀ κ ∈ F.upd, ∀ o, σ.ob κ = some o ∨ σ1.ob κ = some o → ∀ r ∈ o.refs, r ∈ updR F σ σ1 := fun κ hκ o ho r hr =>
 List.mem_flatMap.2 ⟨κ, hκ, by
  rcases ho with ho | ho
  · exact List.mem_append_left _ (obR_mem ho hr)
  · exact List.mem_append_right _ (obR_mem ho hr)⟩
def Foot.at (F : Foot) (all : List Oper) (o : Oper) (σ σ1 : St) (v : AV) : Foot := { F with vr := oldR σ o.dst ++ v.refs, os := o.looksAt all.toArray ++ dstL o.dst, ur := updR F σ σ1 }
section
variable (T : Tab) (Y : Tys) (E : Env)
def stepK {α : Type} (all : List Oper) (lit : Bool) (o : Oper) (σ : St) (K : St → Foot → Option α) : Option α :=
 preK T Y E o σ fun σ1 v F => litK lit v fun v' => K (σ1.put o.dst v') (F.at all o σ σ1 v')
def runK {α : Type} (all : List Oper) : Nat → List Oper → St → (St → List Foot → Option α) → Option α
 | _, [], σ, K => K σ []
 | i, o :: r, σ, K => match o.guard with
   | none => stepK T Y E all (isGuard all i) o σ fun σ' F => runK all (i + 1) r σ' fun σ'' Fs => K σ'' (F :: Fs)
   | some (j, want) => match guardSt all σ j with
     | some none => runK all (i + 1) r (σ.put o.dst (.tup [])) fun σ'' Fs => K σ'' (noFoot.at all o σ σ (.tup []) :: Fs)
     | some (some b) => match b, want with
       | true, true => stepK T Y E all (isGuard all i) o σ fun σ' F => runK all (i + 1) r σ' fun σ'' Fs => K σ'' (F :: Fs)
       | false, false => stepK T Y E all (isGuard all i) o σ fun σ' F => runK all (i + 1) r σ' fun σ'' Fs => K σ'' (F :: Fs)
       | _, _ => runK all (i + 1) r (σ.put o.dst (.tup [])) fun σ'' Fs => K σ'' (noFoot.at all o σ σ (.tup []) :: Fs)
     | none => none
inductive Step1 (all : List Oper) (o : Oper) (σ : St) : St → Foot → Prop where
 | run (hg : o.guard = none ∨ ∃ j b, o.guard = some (j, b) ∧ guardSt all σ j = some (some b)) (σ1 : St) (v v' : AV) (F : Foot) (hp : Pre T Y E o σ σ1 v F) (hv : LitV v v') (V S : List Nat) (hV : (∀ κ ∈ oldR σ o.dst, κ ∈ V) ∧ ∀ κ ∈ v'.refs, κ ∈ V)
    (hS : ∀ t ∈ o.looksAt all.toArray ++ dstL o.dst, t ∈ S) (U : List Nat) (hU : ∀ κ ∈ F.upd, ∀ o, σ.ob κ = some o ∨ σ1.ob κ = some o → ∀ r ∈ o.refs, r ∈ U) : Step1 all o σ (σ1.put o.dst v') { F with vr := V, os := S, ur := U }
 | skip (j : Nat) (b : Bool) (b' : Option Bool) (hg : o.guard = some (j, b)) (hs : guardSt all σ j = some b') (hne : b' ≠ some b) (V S : List Nat) (hV : ∀ κ ∈ oldR σ o.dst, κ ∈ V)
    (hS : ∀ t ∈ o.looksAt all.toArray ++ dstL o.dst, t ∈ S) : Step1 all o σ (σ.put o.dst (.tup [])) { noFoot with vr := V, os := S }
inductive Lex (all : List Oper) : List Oper → St → St → List Foot → Prop where
 | nil (σ : St) : Lex all [] σ σ []
 | cons (o : Oper) (r : List Oper) (σ σ1 σ2 : St) (F : Foot) (Fs : List Foot) (h : Step1 T Y E all o σ σ1 F) (t : Lex all r σ1 σ2 Fs) : Lex all (o :: r) σ σ2 (F :: Fs)
theorem runK_some {α : Type} {all : List Oper} {y : α} : ∀ {l : List Oper} {i : Nat} {σ : St} {K : St → List Foot → Option α}, runK T Y E all i l σ K = some y → ∃ σ' Fs, Lex T Y E all l σ σ' Fs ∧ K σ' Fs = some y
 | [], i, σ, K, h => ⟨σ, [], .nil σ, h⟩
 | o :: r, i, σ, K, h => by
   have go : ∀ (hg : o.guard = none ∨ ∃ j b, o.guard = some (j, b) ∧ guardSt all σ j = some (some b)), stepK T Y E all (isGuard all i) o σ (fun σ' F => runK T Y E all (i + 1) r σ' fun σ'' Fs => K σ'' (F :: Fs)) = some y → ∃ σ' Fs, Lex T Y E all (o :: r) σ σ' Fs ∧ K σ' Fs = some y := fun hg h => by
    obtain ⟨σ1, v, F, hp, h⟩ := preK_some T Y E h
    obtain ⟨v', hv, h⟩ := litK_some h
    obtain ⟨σ', Fs, hl, h⟩ := runK_some h
    exact ⟨σ', F.at all o σ σ1 v' :: Fs, .cons o r σ _ σ' _ Fs (.run hg σ1 v v' F hp hv _ _ ⟨fun κ hκ => List.mem_append_left _ hκ, fun κ hκ => List.mem_append_right _ hκ⟩ (fun _ h => h) _ (updR_spec F σ σ1)) hl, h⟩
   unfold runK at h
   split at h
   · rename_i hg; exact go (.inl hg) h
   · rename_i j want hg
     split at h
     · rename_i hs
       obtain ⟨σ', Fs, hl, h⟩ := runK_some h
       exact ⟨σ', noFoot.at all o σ σ (.tup []) :: Fs, .cons o r σ _ σ' _ Fs (.skip j want none hg hs (by simp) _ _ (fun κ hκ => List.mem_append_left _ hκ) (fun _ h => h)) hl, h⟩
     · rename_i b hs
       have sk : b ≠ want → runK T Y E all (i + 1) r (σ.put o.dst (.tup [])) (fun σ'' Fs => K σ'' (noFoot.at all o σ σ (.tup []) :: Fs)) = some y → ∃ σ' Fs, Lex T Y E all (o :: r) σ σ' Fs ∧ K σ' Fs = some y := fun hne h => by
        obtain ⟨σ', Fs, hl, h⟩ := runK_some h
        exact ⟨σ', noFoot.at all o σ σ (.tup []) :: Fs, .cons o r σ _ σ' _ Fs (.skip j want (some b) hg hs (by simpa using hne) _ _ (fun κ hκ => List.mem_append_left _ hκ) (fun _ h => h)) hl, h⟩
       cases b <;> cases want
       · exact go (.inr ⟨j, false, hg, hs⟩) h
       · exact sk (by simp) h
       · exact sk (by simp) h
       · exact go (.inr ⟨j, true, hg, hs⟩) h
     · cases h
end
section
variable {w0 : World} {Fz Pr0 : Nat → Prop} {Lo : Nat → RL} {R : Nat → RL} {Pr : Nat → Prop} {σ : St} {a : Act} {w : World}
variable {P : Program} {T : Tab} {Y : Tys} {E : Env}
theorem guard_rep (h : Inv w0 Fz Pr0 Lo R Pr σ a w) {all : List Oper} {j : Nat} {b : Option Bool} (hs : guardSt all σ j = some b) : yielded all.toArray a.tmps j = b := by
 unfold guardSt at hs
 split at hs
 · rename_i o ho
   split at hs
   · rename_i d hd
     split at hs
     · rename_i b' hget
       cases hs
       have := h.tm d
       rw [hget] at this
       have hv : a.tmps.getD d undef = .bool b' := this
       have hs : a.tmps[d]? = some (.bool b') := by
        rw [Array.getD_eq_getD_getElem?] at hv
        cases hx : a.tmps[d]? with
        | none => rw [hx] at hv; simp [undef] at hv
        | some x => rw [hx] at hv; simp at hv; rw [hv]
       unfold yielded
       rw [List.getElem?_toArray, ho]
       simp [hd, hs]
     · rename_i hget
       cases hs
       have := h.tm d
       rw [hget] at this
       obtain ⟨vs, hv, hvs⟩ := this
       have hvs : vs = #[] := by
        obtain ⟨l⟩ := vs
        cases l with
        | nil => rfl
        | cons x l => exact hvs.elim
       subst hvs
       unfold yielded
       rw [List.getElem?_toArray, ho]
       cases hx : a.tmps[d]? with
       | none => simp [hd, hx]
       | some x =>
         rw [Array.getD_eq_getD_getElem?, hx] at hv
         simp at hv
         simp [hd, hx, hv]
     · cases hs
   · cases hs
 · cases hs
theorem step1_sound (hT : TabOK P T) (hE : EnvOK P E) (hE' : EnvE P E) (hFz : ∀ b, b < w0.heap.size → Fz b ∨ Pr0 b) (h : Inv w0 Fz Pr0 Lo R Pr σ a w) {all : List Oper} {o : Oper} {σ' : St} {F : Foot} (hs : Step1 T Y E all o σ σ' F) {K : Act → World → Prop} {Q : Exit → Act → World → Prop}
 (hn : ∀ u R' Pr' w', Inv w0 Fz Pr0 Lo R' Pr' σ' (a.put o.dst u) w' → K (a.put o.dst u) w') :
 if Region.wanted o (yielded all.toArray a.tmps) then o.wp P a w K Q else K (a.put o.dst undef) w := by
 cases hs with
 | run hg σ1 v v' F hp hv V S hV hS =>
   have hw : Region.wanted o (yielded all.toArray a.tmps) = true := by
    rcases hg with hg | ⟨j, b, hg, hs⟩
    · simp [Region.wanted, hg]
    · simp [Region.wanted, hg, guard_rep h hs]
   rw [if_pos hw]
   exact pre_sound hT hE hE' hFz h hp hv hn
 | skip j b b' hg hs hne V S hV hS =>
   have hw : Region.wanted o (yielded all.toArray a.tmps) = false := by
    simp [Region.wanted, hg, guard_rep h hs, hne]
   rw [if_neg (by rw [hw]; simp)]
   exact hn undef R Pr w (h.put o.dst (.tup []) undef ⟨#[], rfl, trivial⟩ fun κ hκ => by cases hκ)
theorem lex_sound (hT : TabOK P T) (hE : EnvOK P E) (hE' : EnvE P E) (hFz : ∀ b, b < w0.heap.size → Fz b ∨ Pr0 b) {all : List Oper} {Q : Exit → Act → World → Prop} : ∀ {l : List Oper} {σ σ' : St} {Fs : List Foot} {R : Nat → RL} {Pr : Nat → Prop} {a : Act} {w : World},
 Lex T Y E all l σ σ' Fs → Inv w0 Fz Pr0 Lo R Pr σ a w → (∀ R' Pr' a' w', Inv w0 Fz Pr0 Lo R' Pr' σ' a' w' → Q .normal a' w') → wpList P all.toArray Q l a w
 | [], σ, σ', Fs, R, Pr, a, w, hl, h, hq => by
   cases hl
   exact wpList_nil (hq R Pr a w h)
 | o :: r, σ, σ', Fs, R, Pr, a, w, hl, h, hq => by
   cases hl with
   | cons _ _ _ σ1 _ F Fs' h1 ht =>
     refine wpList_step fun K hK => ?_
     exact step1_sound hT hE hE' hFz h h1 fun u R' Pr' w' hi => hK _ _ (lex_sound hT hE hE' hFz ht hi hq)
end
end Go.Rx
