/- Reflection, part H: rows of data; objects that are forgotten, made, written. -/
import Derived.Test.YtollcjadobpfdaaRxG
import Derived.Laws.Append
import Derived.Laws.AppendOwn
namespace Go.Rx
set_option linter.unusedVariables false
set_option linter.unusedSimpArgs false
set_option linter.unusedSectionVars false
def RepRows (w : World) (Pr : Nat → Prop) (e : Ty) : List e.D → List Value → Prop
 | [], us => us = []
 | y :: l, us => ∃ u1 u2, us = u1 ++ u2 ∧ RepTy w Pr e y u1 ∧ RepRows w Pr e l u2
section
variable {w : World} {R : Nat → RL} {Pr : Nat → Prop} {e : Ty}
theorem RepRows.len : ∀ {l : List e.D} {us : List Value}, RepRows w Pr e l us → us.length = l.length * e.n
 | [], us, h => by rw [show us = [] from h]; simp
 | y :: l, us, h => by
   obtain ⟨u1, u2, rfl, h1, h2⟩ := h
   rw [List.length_append, h1.len, RepRows.len h2, List.length_cons, Nat.add_mul]; omega
theorem RepRows.append : ∀ {l l' : List e.D} {us us' : List Value}, RepRows w Pr e l us → RepRows w Pr e l' us' → RepRows w Pr e (l ++ l') (us ++ us')
 | [], _, us, _, h, h' => by rw [show us = [] from h]; exact h'
 | y :: l, _, us, us', h, h' => by
   obtain ⟨u1, u2, rfl, h1, h2⟩ := h
   exact ⟨u1, u2 ++ us', by simp, h1, RepRows.append h2 h'⟩
theorem RepRows.idx {cells : Array Value} : ∀ {l : List e.D} {us : List Value} {off : Nat}, RepRows w Pr e l us → At cells off us → ∀ i y, l[i]? = some y → ∃ us', At cells (off + i * e.n) us' ∧ RepTy w Pr e y us'
 | [], _, _, _, _, i, y, hi => by simp at hi
 | x :: l, us, off, h, ha, i, y, hi => by
   obtain ⟨u1, u2, rfl, h1, h2⟩ := h
   cases i with
   | zero => simp at hi; subst hi; exact ⟨u1, by simpa using ha.left, h1⟩
   | succ i =>
     obtain ⟨us', k1, k2⟩ := RepRows.idx h2 ha.right i y (by simpa using hi)
     refine ⟨us', ?_, k2⟩
     rw [h1.len] at k1
     rw [Nat.add_mul, Nat.one_mul, show off + (i * e.n + e.n) = off + e.n + i * e.n by omega]
     exact k1
theorem RepRows.of {cells : Array Value} : ∀ {l : List e.D} {off : Nat}, (∀ i y, l[i]? = some y → ∃ us', At cells (off + i * e.n) us' ∧ RepTy w Pr e y us') → ∃ us, At cells off us ∧ RepRows w Pr e l us
 | [], off, _ => ⟨[], fun c u h => by simp at h, rfl⟩
 | x :: l, off, h => by
   obtain ⟨u1, k1, k2⟩ := h 0 x (by simp)
   obtain ⟨u2, k3, k4⟩ := RepRows.of (l := l) (off := off + e.n) (fun i y hi => by
    obtain ⟨us', g1, g2⟩ := h (i + 1) y (by simpa using hi)
    rw [Nat.add_mul, Nat.one_mul, show off + (i * e.n + e.n) = off + e.n + i * e.n by omega] at g1
    exact ⟨us', g1, g2⟩)
   exact ⟨u1 ++ u2, At.app (by simpa using k1) (by rw [k2.len]; exact k3), u1, u2, rfl, k2, k4⟩
theorem RepRows.move {w' : World} {Pr' : Nat → Prop} (hw : ∀ b, Pr b → w'.heap[b]? = w.heap[b]?) (hp : ∀ b, Pr b → Pr' b) : ∀ {l : List e.D} {us : List Value}, RepRows w Pr e l us → RepRows w' Pr' e l us
 | [], _, h => h
 | _ :: _, _, ⟨u1, u2, h0, h1, h2⟩ => ⟨u1, u2, h0, h1.move hw hp, RepRows.move hw hp h2⟩
end
def Ty.ofs (e : Ty) : Nat → List C → Option (List e.D)
 | 0, [] => some []
 | 0, _ :: _ => none
 | n + 1, cs => match e.of cs with
   | some (x, r) => (Ty.ofs e n r).map (x :: ·)
   | none => none
theorem ofs_rep {w : World} {R : Nat → RL} {Pr : Nat → Prop} {e : Ty} : ∀ {n : Nat} {cs : List C} {l : List e.D} {us : List Value}, e.ofs n cs = some l → All2 (RepC w R Pr) cs us → RepRows w Pr e l us ∧ l.length = n
 | 0, [], _, us, h, hr => by
   simp only [Ty.ofs] at h; cases h
   cases us with
   | nil => exact ⟨rfl, rfl⟩
   | cons _ _ => exact hr.elim
 | 0, _ :: _, _, _, h, _ => by simp only [Ty.ofs] at h; cases h
 | n + 1, cs, l, us, h, hr => by
   simp only [Ty.ofs] at h
   split at h
   · rename_i x r hx
     obtain ⟨l', hl, rfl⟩ := Option.map_eq_some_iff.1 h
     obtain ⟨u1, u2, rfl, h1, h2⟩ := of_rep hx hr
     obtain ⟨h3, h4⟩ := ofs_rep hl h2
     exact ⟨⟨u1, u2, rfl, h1, h3⟩, by simp [h4]⟩
   · cases h
theorem cells_ne : ∀ (e : Ty) (x : e.D), ∀ c ∈ e.cells x, c ≠ .any
 | .int _, _, c, h => by simp [Ty.cells] at h; subst h; simp
 | .bool, _, c, h => by simp [Ty.cells] at h; subst h; simp
 | .str, _, c, h => by simp [Ty.cells] at h; subst h; simp
 | .pair a b, x, c, h => by
   rcases List.mem_append.1 h with h | h
   · exact cells_ne a x.1 c h
   · exact cells_ne b x.2 c h
 | .sl _ _, _, c, h => by simp [Ty.cells] at h; subst h; simp
 | .fn _, _, c, h => by simp [Ty.cells] at h; subst h; simp
 | .ptr _, _, c, h => by simp [Ty.cells] at h; subst h; simp
 | .clo _ _, _, c, h => by simp [Ty.cells] at h; subst h; simp
 | .map _ _, _, c, h => by simp [Ty.cells] at h; subst h; simp
theorem one_of {w : World} {R : Nat → RL} {Pr : Nat → Prop} : ∀ {cs : List C} {us : List Value}, All2 (RepC w R Pr) cs us → (∀ c ∈ cs, c ≠ .any) → ∀ u ∈ us, u.oneCell' = true
 | [], [], _, _, u, hu => by cases hu
 | c :: cs, v :: us, h, hn, u, hu => by
   rcases List.mem_cons.1 hu with rfl | hu
   · have := RepC.one h.1 (hn c (by simp))
     cases u <;> first | rfl | exact absurd rfl (this.1 _) | exact absurd rfl (this.2 _)
   · exact one_of h.2 (fun c hc => hn c (by simp [hc])) u hu
 | [], _ :: _, h, _, _, _ => h.elim
 | _ :: _, [], h, _, _, _ => h.elim
theorem RepTy.ones {w : World} {Pr : Nat → Prop} {e : Ty} {x : e.D} {us : List Value} (h : RepTy w Pr e x us) : ∀ u ∈ us, u.oneCell' = true :=
 one_of (cells_rep (R := fun _ => ⟨0, none, 0, 0⟩) h) (cells_ne e x)
theorem RepRows.ones {w : World} {Pr : Nat → Prop} {e : Ty} : ∀ {l : List e.D} {us : List Value}, RepRows w Pr e l us → ∀ u ∈ us, u.oneCell' = true
 | [], us, h, u, hu => by rw [show us = [] from h] at hu; cases hu
 | y :: l, us, h, u, hu => by
   obtain ⟨u1, u2, rfl, h1, h2⟩ := h
   rcases List.mem_append.1 hu with hu | hu
   · exact h1.ones u hu
   · exact RepRows.ones h2 u hu
def killC (κ : Nat) (c : C) : C := if c.refs.contains κ then .any else c
def killCp (κ : Nat) : Cp → Cp
 | .one c => .one (killC κ c)
 | .agg cs => .agg (cs.map (killC κ))
def killA (κ : Nat) : AV → AV
 | .cp x => .cp (killCp κ x)
 | .tup vs => .tup (vs.map (killCp κ))
def killO (κ : Nat) : Option Ob → Option Ob
 | some (.box cs) => some (.box (cs.map (killC κ)))
 | some (.map K V l (some (d, L))) => match d.beq κ with
   | true => some (.map K V l none)
   | false => some (.map K V l (some (d, L)))
 | o => o
def St.kill (σ : St) (κ : Nat) : St := ⟨σ.tmps.map (killA κ), σ.objs.map (killO κ)⟩
theorem killC_rep {w : World} {R : Nat → RL} {Pr : Nat → Prop} {κ : Nat} {c : C} {v : Value} (h : RepC w R Pr c v) : RepC w R Pr (killC κ c) v := by
 unfold killC
 split
 · trivial
 · exact h
theorem killC_refs {κ κ' : Nat} {c : C} (h : κ' ∈ (killC κ c).refs) : κ' ∈ c.refs ∧ κ' ≠ κ := by
 unfold killC at h
 split at h
 · cases h
 · rename_i hn
   refine ⟨h, fun e => hn ?_⟩
   subst e
   simpa using h
theorem killCp_rep {w : World} {R : Nat → RL} {Pr : Nat → Prop} {κ : Nat} {c : Cp} {v : Value} (h : RepCp w R Pr c v) : RepCp w R Pr (killCp κ c) v := by
 cases c with
 | one c => exact killC_rep h
 | agg cs => obtain ⟨vs, h1, h2⟩ := h; exact ⟨vs, h1, h2.map_left fun a _ b hb => killC_rep hb⟩
theorem killCp_refs {κ κ' : Nat} {c : Cp} (h : κ' ∈ (killCp κ c).refs) : κ' ∈ c.refs ∧ κ' ≠ κ := by
 cases c with
 | one c => exact killC_refs h
 | agg cs =>
   obtain ⟨c, hc, hk⟩ := List.mem_flatMap.1 h
   obtain ⟨d, hd, rfl⟩ := List.mem_map.1 hc
   have := killC_refs hk
   exact ⟨List.mem_flatMap.2 ⟨d, hd, this.1⟩, this.2⟩
theorem killA_rep {w : World} {R : Nat → RL} {Pr : Nat → Prop} {κ : Nat} {c : AV} {v : Value} (h : RepA w R Pr c v) : RepA w R Pr (killA κ c) v := by
 cases c with
 | cp c => exact killCp_rep h
 | tup cs => obtain ⟨vs, h1, h2⟩ := h; exact ⟨vs, h1, h2.map_left fun a _ b hb => killCp_rep hb⟩
theorem killA_refs {κ κ' : Nat} {c : AV} (h : κ' ∈ (killA κ c).refs) : κ' ∈ c.refs ∧ κ' ≠ κ := by
 cases c with
 | cp c => exact killCp_refs h
 | tup cs =>
   obtain ⟨c, hc, hk⟩ := List.mem_flatMap.1 h
   obtain ⟨d, hd, rfl⟩ := List.mem_map.1 hc
   have := killCp_refs hk
   exact ⟨List.mem_flatMap.2 ⟨d, hd, this.1⟩, this.2⟩
section
variable {w0 : World} {Fz Pr0 : Nat → Prop} {Lo : Nat → RL} {R : Nat → RL} {Pr : Nat → Prop} {σ : St} {a : Act} {w : World}
theorem get_kill (κ t : Nat) : (σ.kill κ).get t = killA κ (σ.get t) := by
 unfold St.get St.kill
 simp only [List.getD_eq_getElem?_getD, List.getElem?_map]
 cases σ.tmps[t]? <;> simp [killA, killCp, killC, C.refs]
theorem ob_kill (κ κ' : Nat) : (σ.kill κ).ob κ' = killO κ (σ.ob κ') := by
 unfold St.ob St.kill
 simp only [List.getD_eq_getElem?_getD, List.getElem?_map]
 cases σ.objs[κ']? <;> simp [killO]
theorem killO_some {κ : Nat} {o : Option Ob} {o' : Ob} (h : killO κ o = some o') : ∃ o1, o = some o1 ∧ ((∃ cs, o1 = .box cs ∧ o' = .box (cs.map (killC κ))) ∨ (o' = o1 ∧ ((∀ cs, o1 ≠ .box cs) → κ ∉ o1.refs)) ∨ ∃ K V l L, o1 = .map K V l (some (κ, L)) ∧ o' = .map K V l none) := by
 unfold killO at h
 split at h
 · cases h; exact ⟨_, rfl, .inl ⟨_, rfl, rfl⟩⟩
 · rename_i K V l d L
   split at h
   · rename_i hd
     have hd := Nat.eq_of_beq_eq_true hd
     subst hd
     cases h
     exact ⟨_, rfl, .inr (.inr ⟨K, V, l, L, rfl, rfl⟩)⟩
   · rename_i hd
     cases h
     refine ⟨_, rfl, .inr (.inl ⟨rfl, fun _ hk => ?_⟩)⟩
     simp only [Ob.refs, List.mem_singleton] at hk
     subst hk
     simp at hd
 · rename_i h1 h2
   refine ⟨o', h, .inr (.inl ⟨rfl, fun hb hk => ?_⟩)⟩
   cases o' with
   | box cs => exact hb cs rfl
   | map K V l it =>
     cases it with
     | none => cases hk
     | some p => exact h2 K V l p.1 p.2 h
   | _ => cases hk
theorem killO_none {κ : Nat} {o : Option Ob} (h : o ≠ none) : killO κ o ≠ none := by
 unfold killO
 split
 · simp
 · split <;> simp
 · exact h
theorem Inv.kill (h : Inv w0 Fz Pr0 Lo R Pr σ a w) (κ : Nat) : Inv w0 Fz Pr0 Lo R Pr (σ.kill κ) a w ∧ (∀ t, κ ∉ ((σ.kill κ).get t).refs) ∧ ∀ κ' x, (σ.kill κ).ob κ' = some x → κ ∉ x.refs := by
 have href : ∀ κ' x κ1, (σ.kill κ).ob κ' = some x → κ1 ∈ x.refs → κ1 ≠ κ ∧ σ.ob κ1 ≠ none := fun κ' x κ1 hx hk => by
  rw [ob_kill] at hx
  obtain ⟨o, h1, ⟨cs, rfl, rfl⟩ | ⟨rfl, hnr⟩ | ⟨K, V, l, L, rfl, rfl⟩⟩ := killO_some hx
  · obtain ⟨c, hc, hk⟩ := List.mem_flatMap.1 hk
    obtain ⟨d, hd, rfl⟩ := List.mem_map.1 hc
    have := killC_refs hk
    exact ⟨this.2, h.wo κ' _ κ1 h1 (List.mem_flatMap.2 ⟨d, hd, this.1⟩)⟩
  · cases x with
    | vec e l => cases hk
    | rows e l hh => cases hk
    | set l => cases hk
    | fbox e x => cases hk
    | tok κ => cases hk
    | map K V l it => exact ⟨fun e => hnr (fun cs z => by cases z) (e ▸ hk), h.wo κ' _ κ1 h1 hk⟩
    | box cs =>
      rw [h1] at hx
      simp only [killO] at hx
      have hx := Ob.box.inj (Option.some.inj hx)
      rw [← hx] at hk
      obtain ⟨c, hc, hk⟩ := List.mem_flatMap.1 hk
      obtain ⟨d, hd, rfl⟩ := List.mem_map.1 hc
      have := killC_refs hk
      exact ⟨this.2, h.wo κ' _ κ1 h1 (List.mem_flatMap.2 ⟨d, hd, this.1⟩)⟩
  · cases hk
 refine ⟨h.weak _ (by simpa [St.kill] using h.sz) (by simp [St.kill]) (fun t u hu => by rw [get_kill]; exact killA_rep hu) (fun κ' o' ho => ?_) (fun t κ' hk => ?_) (fun κ' o κ1 ho hk => ?_), fun t hk => ?_, fun κ' x hx hk => (href κ' x κ hx hk).1 rfl⟩
 · rw [ob_kill] at ho
   obtain ⟨o, h1, ⟨cs, rfl, rfl⟩ | ⟨rfl, _⟩ | ⟨K, V, l, L, rfl, rfl⟩⟩ := killO_some ho
   · exact ⟨_, h1, fun ⟨el, vs, g1, g2⟩ => ⟨el, vs, g1, g2.map_left fun a _ b hb => killC_rep hb⟩, fun _ => trivial, fun b hb => hb.elim⟩
   · exact ⟨_, h1, id, id, fun _ h => h⟩
   · exact ⟨_, h1, fun ⟨es, clock, g1, g2, g3, g4, _⟩ => ⟨es, clock, g1, g2, g3, g4, fun _ _ _ z => by cases z⟩, fun _ => trivial, fun b ⟨_, _, z, _⟩ => by cases z⟩
 · rw [get_kill] at hk
   rw [ob_kill]
   exact killO_none (h.wt t κ' (killA_refs hk).1)
 · rw [ob_kill]
   exact killO_none (href κ' o κ1 ho hk).2
 · rw [get_kill] at hk
   exact (killA_refs hk).2 rfl
end
end Go.Rx
