/- Reflection, part W: a whole function: what it comes to is its contract. -/
import Derived.Test.YtollcjadobpfdaaRxV
namespace Go.Rx
set_option linter.unusedVariables false
set_option linter.unusedSimpArgs false
set_option linter.unusedSectionVars false
def argA (p : PT) (x : p.2.D) : AV :=
 match p.1 with
 | true => .cp (.agg (p.2.cells x))
 | false => match p.2.cells x with
   | [c] => .cp (.one c)
   | _ => anyA
def argsA : (sig : List PT) → DL sig → List AV
 | [], _ => []
 | p :: r, xs => argA p xs.1 :: argsA r xs.2
def σ0 (N M : Nat) (sig : List PT) (xs : DL sig) : St := ⟨argsA sig xs ++ List.replicate (N - sig.length) anyA, List.replicate M none⟩
def headKey : LO → AV → Option Nat
 | .box _, .cp (.one (.ptr κ 0)) => some κ
 | .row _, .cp (.one (.own κ)) => some κ
 | .rows _, .cp (.one (.own κ)) => some κ
 | .map _ _, .cp (.one (.mp κ)) => some κ
 | _, _ => none
def retOne (ob : Nat → Option Ob) : (r : RT) → AV → Option (List Nat × List Nat × r.D)
 | .d agg τ, v => match toArg ob (agg, τ) v with
   | some (acc, x) => some (acc, [], x)
   | none => none
 | .new e, v => match v with
   | .cp (.one (.own κ)) => match ob κ with
     | some (.vec e' l) => match Ty.dec e' e with
       | isTrue h => some ([], [κ], (h ▸ l : List e.D))
       | isFalse _ => none
     | _ => none
   | .cp (.one .nil) => some ([], [], ([] : List e.D))
   | _ => none
 | .obj o ls, v => match headKey o v with
   | some κ => match takeL ob (rowKeys ob κ (o :: ls)) (κ :: rowKeys ob κ (o :: ls)) (o :: ls) with
     | some (acc, x) => some (acc, κ :: rowKeys ob κ (o :: ls), x)
     | none => none
   | none => none
def retD (ob : Nat → Option Ob) : (rs : List RT) → List AV → Option (List Nat × List Nat × RDL rs)
 | [], [] => some ([], [], ())
 | r :: rs, v :: vs => match retOne ob r v, retD ob rs vs with
   | some (a1, n1, x), some (a2, n2, xs) => some (a1 ++ a2, n1 ++ n2, (x, xs))
   | _, _ => none
 | _, _ => none
inductive RV where
 | tmp (t : Nat)
 | cell (t : Nat) (ty : Nat)
def RV.var : RV → ResultVar
 | .tmp t => .tmp t
 | .cell t ty => .cell t ty
def RV.ev (T : Tab) (σ : St) : RV → AV
 | .tmp t => σ.get t
 | .cell t ty => match σ.get t with
   | .cp (.one (.ptr κ off)) => match evLoad T σ.ob ty (.ptr κ off) with
     | some out => out.v
     | none => anyA
   | _ => anyA
def RV.ok : RV → AV → Bool
 | .cell _ _, .cp (.one .any) => false
 | _, _ => true
def oksV (T : Tab) (σ : St) : List RV → Bool
 | [] => true
 | r :: l => r.ok (r.ev T σ) && oksV T σ l
def Kfin (T : Tab) (rs : List RT) (ts : List RV) : Kont (RDL rs)
 | .exit _, _ => none
 | _, σ => match oksV T σ ts, retD σ.ob rs (ts.map (RV.ev T σ)) with
   | true, some (vs, ns, r) => match okR vs ns with
     | true => some r
     | false => none
   | _, _ => none
section
variable {w : World} {Pr : Nat → Prop}
theorem argA_rep {R : Nat → RL} {p : PT} {x : p.2.D} {v : Value} (h : RepV w Pr p x v) : RepA w R Pr (argA p x) v := by
 obtain ⟨agg, τ⟩ := p
 cases agg with
 | true =>
   obtain ⟨us, rfl, h3⟩ := h
   exact ⟨us, rfl, cells_rep h3⟩
 | false =>
   have := cells_rep (R := R) (show RepTy w Pr τ x [v] from h)
   show RepA w R Pr (match τ.cells x with | [c] => .cp (.one c) | _ => anyA) v
   split
   · rename_i c h2
     rw [h2] at this
     exact this.1
   · trivial
theorem argA_refs {p : PT} {x : p.2.D} {κ : Nat} (h : κ ∈ (argA p x).refs) : False := by
 obtain ⟨agg, τ⟩ := p
 cases agg with
 | true =>
   obtain ⟨c, hc, hk⟩ := List.mem_flatMap.1 h
   rw [cells_refs _ _ c hc] at hk; cases hk
 | false =>
   replace h : κ ∈ (match τ.cells x with | [c] => AV.cp (.one c) | _ => anyA).refs := h
   split at h
   · rename_i c h2
     have : c.refs = [] := cells_refs τ x c (by rw [h2]; simp)
     rw [show (AV.cp (Cp.one c)).refs = c.refs from rfl, this] at h; cases h
   · cases h
theorem argsA_rep {R : Nat → RL} : ∀ {sig : List PT} {xs : DL sig} {vs : List Value}, RepArgs w Pr sig xs vs → All2 (RepA w R Pr) (argsA sig xs) vs
 | [], _, vs, h => by rw [show vs = [] from h]; trivial
 | p :: r, xs, vs, h => by
   obtain ⟨v, us, rfl, h1, h2⟩ := h
   exact ⟨argA_rep h1, argsA_rep h2⟩
theorem argsA_len : ∀ (sig : List PT) (xs : DL sig), (argsA sig xs).length = sig.length
 | [], _ => rfl
 | p :: r, xs => by simp [argsA, argsA_len r xs.2]
theorem argsA_refs : ∀ {sig : List PT} {xs : DL sig} {v : AV} {κ : Nat}, v ∈ argsA sig xs → κ ∈ v.refs → False
 | p :: r, xs, v, κ, h, hk => by
   rcases List.mem_cons.1 h with rfl | h
   · exact argA_refs hk
   · exact argsA_refs h hk
end
theorem All2.getD {α β : Type} {r : α → β → Prop} {d : α} {e : β} (hd : r d e) : ∀ {l : List α} {m : List β}, All2 r l m → ∀ n, r (l.getD n d) (m.getD n e)
 | [], [], _, n => by simpa using hd
 | a :: l, b :: m, h, 0 => by simpa using h.1
 | a :: l, b :: m, h, n + 1 => by simpa using All2.getD hd h.2 n
 | [], _ :: _, h, _ => h.elim
 | _ :: _, [], h, _ => h.elim
theorem σ0_inv {w : World} {Pr : Nat → Prop} {sig : List PT} {xs : DL sig} {vs : List Value} {N M : Nat} (hp : ∀ b, Pr b → b < w.heap.size) (ha : RepArgs w Pr sig xs vs) (hN : sig.length ≤ N) :
 Inv w (fun b => b < w.heap.size) Pr (fun _ => ⟨0, none, 0, 0⟩) (fun _ => ⟨0, none, 0, 0⟩) Pr (σ0 N M sig xs) { tmps := vs.toArray ++ Array.replicate (N - vs.toArray.size) undef, defers := [] } w := by
 have hr := argsA_rep (R := fun _ => ⟨0, none, 0, 0⟩) ha
 have hl := hr.length
 have hl2 := argsA_len sig xs
 have hobs : ∀ κ, (σ0 N M sig xs).ob κ = none := fun κ => by
  unfold St.ob σ0
  simp only [List.getD_eq_getElem?_getD, List.getElem?_replicate]
  split <;> rfl
 refine { tm := fun t => ?_, sz := ?_, ob := fun κ o h => (by rw [hobs] at h; cases h), un := fun κ o h => (by rw [hobs] at h; cases h), lm := fun κ o b h => (by rw [hobs] at h; cases h), ds := fun κ κ' o o' h => (by rw [hobs] at h; cases h), wt := fun t κ hk => ?_, wo := fun κ' o κ h => (by rw [hobs] at h; cases h), fz := fun b hb => ⟨hb, rfl⟩, pr := hp, po := fun b _ h => h, sm := Grow.refl _, df := rfl, fx := fun _ _ => rfl }
 · have e1 : ∀ t, (vs.toArray ++ Array.replicate (N - vs.toArray.size) undef).getD t undef = (vs ++ List.replicate (N - vs.length) undef).getD t undef := fun t => by
    rw [Array.getD_eq_getD_getElem?, List.getD_eq_getElem?_getD, ← Array.getElem?_toList]
    simp
   rw [e1]
   have h2 : All2 (RepA w (fun _ => ⟨0, none, 0, 0⟩) Pr) (argsA sig xs ++ List.replicate (N - sig.length) anyA) (vs ++ List.replicate (N - vs.length) undef) := by
    refine All2.append hr ?_
    rw [← hl, hl2]
    generalize N - sig.length = n
    induction n with
    | zero => trivial
    | succ n ih => exact ⟨trivial, ih⟩
   exact All2.getD (r := RepA w (fun _ => ⟨0, none, 0, 0⟩) Pr) (d := anyA) (e := undef) trivial h2 t
 · simp only [σ0, List.length_append, List.length_replicate, Array.size_append, List.size_toArray, Array.size_replicate]
   omega
 · exfalso
   unfold St.get σ0 at hk
   rw [List.getD_eq_getElem?_getD, List.getElem?_append] at hk
   split at hk
   · rename_i hlt
     rw [List.getElem?_eq_getElem hlt] at hk
     exact argsA_refs (List.getElem_mem hlt) hk
   · rw [List.getElem?_replicate] at hk
     split at hk <;> cases hk
section
variable {w0 : World} {Fz Pr0 : Nat → Prop} {Lo : Nat → RL} {R : Nat → RL} {Pr : Nat → Prop} {σ : St} {a : Act} {w : World}
theorem retOne_acc {ob : Nat → Option Ob} {e : Ty} {v : AV} {vs ns : List Nat} {x : List e.D} (h : retOne ob (.new e) v = some (vs, ns, x)) : vs = [] ∧ ((v = .cp (.one .nil) ∧ ns = [] ∧ x = []) ∨ ∃ κ, v = .cp (.one (.own κ)) ∧ ns = [κ] ∧ ob κ = some (.vec e x)) := by
 simp only [retOne] at h
 split at h
 · rename_i κ
   split at h
   · rename_i e' l ho
     revert h
     generalize Ty.dec e' e = d
     intro h
     cases d with
     | isFalse _ => cases h
     | isTrue he => subst he; cases h; exact ⟨rfl, .inr ⟨κ, rfl, rfl, ho⟩⟩
   · cases h
 · cases h; exact ⟨rfl, .inl ⟨rfl, rfl, rfl⟩⟩
 · cases h
theorem headKey_rep {o : LO} {ls : List LO} {v : AV} {κ : Nat} {u : Value} (h : headKey o v = some κ) (hr : RepA w R Pr v u) : u = headV R κ (o :: ls) := by
 unfold headKey at h
 split at h
 · cases h; exact hr
 · cases h; exact hr
 · cases h; exact hr
 · cases h; exact hr
 · cases h
theorem retD_rep (h : Inv w0 Fz Pr0 Lo R Pr σ a w) {Nw Pr' : Nat → Prop} (hp : ∀ b, Pr b → Pr' b) :
 ∀ (rs : List RT) (vs : List AV) (us : List Value) (views news : List Nat) (r : RDL rs) (used : List Nat) (bs : Nat → Prop) (hge : ∀ κ ∈ news, ∀ o b, σ.ob κ = some o → Occ w R κ o b → Nw b), retD σ.ob rs vs = some (views, news, r) → All2 (RepA w R Pr) vs us →
   (∀ κ ∈ views, ∀ e l, σ.ob κ = some (.vec e l) → real R κ (.vec e l) → Pr' (R κ).blk) → (∀ κ ∈ news, ∀ o b, σ.ob κ = some o → Occ w R κ o b → ¬ Pr' b) → (used ++ news).Nodup →
   (∀ b, bs b → ∃ κ ∈ used, ∃ o, σ.ob κ = some o ∧ Occ w R κ o b) → RepRets w Nw Pr' rs r us bs
 | [], [], [], views, news, r, used, bs, _, hr, _, _, _, _, _ => rfl
 | .d agg τ :: rs, v :: vs, u :: us, views, news, r, used, bs, hge, hr, hu, hv, hn, hnd, hb => by
   simp only [retD] at hr
   split at hr
   · rename_i a1 n1 x a2 n2 xs h1 h2
     cases hr
     simp only [retOne] at h1
     split at h1
     · rename_i acc y hy
       cases h1
       exact ⟨u, us, rfl, toArg_rep h.ob hp hy (fun κ hκ => hv κ (List.mem_append_left _ hκ)) hu.1, retD_rep h hp rs vs us a2 n2 xs used bs (fun κ hκ => hge κ (by simpa using hκ)) h2 hu.2 (fun κ hκ => hv κ (List.mem_append_right _ hκ)) (fun κ hκ => hn κ (by simpa using hκ)) (by simpa using hnd) hb⟩
     · cases h1
   · cases hr
 | .new e :: rs, v :: vs, u :: us, views, news, r, used, bs, hge, hr, hu, hv, hn, hnd, hb => by
   simp only [retD] at hr
   split at hr
   · rename_i a1 n1 x a2 n2 xs h1 h2
     cases hr
     obtain ⟨rfl, ⟨rfl, rfl, rfl⟩ | ⟨κ, rfl, rfl, ho⟩⟩ := retOne_acc h1
     · refine ⟨u, us, 0, rfl, .inl ⟨hu.1, rfl⟩, fun hne => (hne hu.1).elim, ?_⟩
       refine retD_rep h hp rs vs us a2 n2 xs used _ (fun κ hκ => hge κ (by simpa using hκ)) h2 hu.2 (fun κ hκ => hv κ (by simpa using hκ)) (fun κ hκ => hn κ (by simpa using hκ)) (by simpa using hnd) (fun b hb' => ?_)
       rcases hb' with hb' | ⟨hb', _⟩
       · exact hb b hb'
       · exact (hb' hu.1).elim
     · have hu1 : u = (R κ).hdr := hu.1
       have hrest : ∀ blk, (u ≠ .slice none 0 0 → real R κ (.vec e x) ∧ blk = (R κ).blk) → RepRets w Nw Pr' rs xs us (fun b => bs b ∨ (u ≠ .slice none 0 0 ∧ b = blk)) := fun blk hblk => by
        refine retD_rep h hp rs vs us a2 n2 xs (used ++ [κ]) _ (fun κ' hκ => hge κ' (by simp [hκ])) h2 hu.2 (fun κ hκ => hv κ (by simpa using hκ)) (fun κ' hκ => hn κ' (by simp [hκ])) (by simpa using hnd) (fun b hb' => ?_)
        rcases hb' with hb' | ⟨hb', rfl⟩
        · obtain ⟨κ', g1, g2⟩ := hb b hb'
          exact ⟨κ', by simp [g1], g2⟩
        · exact ⟨κ, by simp, _, ho, .inl (hblk hb')⟩
       obtain ⟨h0, hc⟩ := h.ob κ _ ho
       rcases hc with ⟨k1, k2⟩ | ⟨off, cap, cells, el, k1, k2, k3, k4, k5⟩
       · exact ⟨u, us, 0, rfl, .inl ⟨hu1.trans k1, k2⟩, fun hne => (hne (hu1.trans k1)).elim, hrest _ (fun hne => (hne (hu1.trans k1)).elim)⟩
       · have hre : real R κ (.vec e x) := fun z => by rw [z] at k1; cases k1
         refine ⟨u, us, (R κ).blk, rfl, .inr ⟨off, cap, cells, el, hu1.trans k1, k2, k3, k4, hge κ (by simp) _ _ ho (.inl ⟨hre, rfl⟩), hn κ (by simp) _ _ ho (.inl ⟨hre, rfl⟩), fun i y hi => ?_⟩, fun _ hmem => ?_, hrest _ (fun _ => ⟨hre, rfl⟩)⟩
         · obtain ⟨us', m1, m2⟩ := k5 i y hi
           exact ⟨us', m1, m2.move (fun _ _ => rfl) hp⟩
         · obtain ⟨κ', g1, o, g2, g3⟩ := hb _ hmem
           have hne : κ ≠ κ' := fun e1 => by
            subst e1
            exact (List.nodup_append.1 hnd).2.2 κ g1 κ (by simp) rfl
           exact h.occ_ds ho g2 hne (.inl ⟨hre, rfl⟩) g3
   · cases hr
 | .obj o ls :: rs, v :: vs, u :: us, views, news, r, used, bs, hge, hr, hu, hv, hn, hnd, hb => by
   simp only [retD] at hr
   split at hr
   · rename_i a1 n1 x a2 n2 xs h1 h2
     cases hr
     simp only [retOne] at h1
     split at h1
     · rename_i κ hκ
       split at h1
       · rename_i acc x' ht
         have h1 := Prod.mk.inj (Option.some.inj h1)
         have h1' := Prod.mk.inj h1.2
         obtain ⟨rfl, rfl, rfl⟩ : acc = a1 ∧ κ :: rowKeys σ.ob κ (o :: ls) = n1 ∧ x' = x := ⟨h1.1, h1'.1, h1'.2⟩
         generalize hks : rowKeys σ.ob κ (o :: ls) = ks at *
         have hnd1 : (κ :: ks).Nodup := (List.nodup_append.1 (List.nodup_append.1 hnd).2.1).1
         have hsep := h.take_sep hp ht hnd1 (fun κ hκ => hv κ (List.mem_append_left _ hκ)) (fun κ hκ => hn κ (List.mem_append_left _ hκ))
         have hlen := takeL_len ht
         have hat := fun {i κ1 o1} (hi : (obsL ks (κ :: ks) (o :: ls) x')[i]? = some (κ1, o1)) => (takeL_at (Pr' := fun _ => True) h.ob (fun _ _ => trivial) ht (fun _ _ _ _ _ _ => trivial) hi).2
         let L : Nat → RL := fun j => R ((κ :: ks).getD j 0)
         have hsame : All2 (fun k k' => L k' = R k) (κ :: ks) (rg (o :: ls)) := all2_range hlen fun i k hk => by
          show R ((κ :: ks).getD (0 + i) 0) = R k
          rw [Nat.zero_add, List.getD_eq_getElem?_getD, hk]; rfl
         have htl : All2 (fun k k' => L k' = R k) ks (rg (o :: ls)).tail := by
          revert hsame
          cases rg (o :: ls) with
          | nil => exact fun z => z.elim
          | cons _ _ => exact fun z => z.2
         have hbl : ∀ b, Bl w L (obs0 (o :: ls) x') b → ∃ κ1 ∈ κ :: ks, ∃ o1, σ.ob κ1 = some o1 ∧ Occ w R κ1 o1 b := fun b hb => by
          obtain ⟨i, κ1, o1, hi, hoc⟩ := Bl.relabel htl hsame hb
          obtain ⟨o2, q1, q2⟩ := hat hi
          exact ⟨κ1, List.mem_of_getElem? (obsL_at hi).1, o2, q1, q2.occ.1 hoc⟩
         refine ⟨u, us, L, rfl, (headKey_rep (ls := ls) hκ hu.1).trans (by cases o <;> rfl), Sep.relabel htl hsame hsep, fun b hb' => ?_, retD_rep h hp rs vs us a2 n2 xs (used ++ (κ :: ks)) _ (fun κ' hκ => hge κ' (List.mem_append_right _ hκ)) h2 hu.2 (fun κ hκ => hv κ (List.mem_append_right _ hκ)) (fun κ' hκ => hn κ' (List.mem_append_right _ hκ)) (by simpa using hnd) (fun b hb' => ?_)⟩
         · obtain ⟨κ1, m1, o1, m2, m3⟩ := hbl b hb'
           refine ⟨hge κ1 (List.mem_append_left _ m1) o1 b m2 m3, fun z => ?_⟩
           obtain ⟨κ', g1, o', g2, g3⟩ := hb b z
           exact h.occ_ds m2 g2 (fun e => (List.nodup_append.1 hnd).2.2 κ' g1 κ1 (List.mem_append_left _ m1) e.symm) m3 g3
         · rcases hb' with hb' | hb'
           · obtain ⟨κ', g1, g2⟩ := hb b hb'
             exact ⟨κ', List.mem_append_left _ g1, g2⟩
           · obtain ⟨κ1, m1, m2⟩ := hbl b hb'
             exact ⟨κ1, List.mem_append_right _ m1, m2⟩
       · cases h1
     · cases h1
   · cases hr
 | [], _ :: _, _, _, _, _, _, _, _, hr, _, _, _, _, _ => by simp [retD] at hr
 | _ :: _, [], _, _, _, _, _, _, _, hr, _, _, _, _, _ => by simp [retD] at hr
 | _ :: _, _ :: _, [], _, _, _, _, _, _, _, hu, _, _, _, _ => hu.elim
 | [], [], _ :: _, _, _, _, _, _, _, _, hu, _, _, _, _ => hu.elim
end
theorem RV_run {P : Program} {T : Tab} (hT : TabOK P T) {w0 : World} {Fz Pr0 : Nat → Prop} {Lo : Nat → RL} {R : Nat → RL} {Pr : Nat → Prop} {σ : St} {a : Act} {w : World} (h : Inv w0 Fz Pr0 Lo R Pr σ a w) : ∀ (r : RV), r.ok (r.ev T σ) = true →
 ∃ u, (match r with | .tmp t => (pure (a.tmps.getD t undef) : Sem Value) | .cell b t => do loadVar t (← asAddr (a.tmps.getD b undef))).run P w = .ok u w ∧ RepA w R Pr (r.ev T σ) u
 | .tmp t, _ => ⟨_, rfl, h.tm t⟩
 | .cell b t, hok => by
   have hb := h.tm b
   simp only [RV.ev] at hok ⊢
   split at hok
   · rename_i κ off e
     rw [e] at hb
     have hb : a.tmps.getD b undef = .pointer (some ⟨(R κ).blk, off, none⟩) := hb
     cases hl : evLoad T σ.ob t (.ptr κ off) with
     | none => rw [hl] at hok; cases hok
     | some out =>
       obtain ⟨u, k1, k2, _⟩ := evLoad_sound hT h.ob hl (show RepC w R Pr (.ptr κ off) (.pointer (some ⟨(R κ).blk, off, none⟩)) from rfl)
       refine ⟨u, ?_, k2⟩
       rw [hb]
       exact k1
   · cases hok
theorem RV_mapM {P : Program} {w : World} {R : Nat → RL} {Pr : Nat → Prop} (g : ResultVar → Sem Value) (ev : RV → AV) : ∀ (l : List RV), (∀ r ∈ l, ∃ u, (g r.var).run P w = .ok u w ∧ RepA w R Pr (ev r) u) → ∃ us, ((l.map RV.var).mapM g).run P w = .ok us w ∧ All2 (RepA w R Pr) (l.map ev) us
 | [], _ => ⟨[], rfl, trivial⟩
 | r :: l, h => by
   obtain ⟨u, k1, k2⟩ := h r (List.mem_cons_self ..)
   obtain ⟨us, k3, k4⟩ := RV_mapM g ev l fun x hx => h x (List.mem_cons_of_mem _ hx)
   refine ⟨u :: us, ?_, k2, k4⟩
   simp only [List.map_cons, List.mapM_cons, Sem.run_bind, Sem.run_pure, Result.andThen_ok, k1, k3]
theorem oksV_mem {T : Tab} {σ : St} : ∀ {l : List RV}, oksV T σ l = true → ∀ r ∈ l, r.ok (r.ev T σ) = true
 | r :: l, h, x, hx => by
   simp only [oksV, Bool.and_eq_true] at h
   rcases List.mem_cons.1 hx with rfl | hx
   · exact h.1
   · exact oksV_mem h.2 x hx
theorem results_pack {P : Program} {T : Tab} (hT : TabOK P T) {w0 : World} {Fz Pr0 : Nat → Prop} {Lo : Nat → RL} {R : Nat → RL} {Pr : Nat → Prop} {σ : St} {a : Act} {w : World} (h : Inv w0 Fz Pr0 Lo R Pr σ a w) {fn : Func} {ts : List RV} (hres : fn.results = (ts.map RV.var).toArray) (hok : oksV T σ ts = true) :
 ∃ us, (results fn a.tmps).run P w = .ok (packV us) w ∧ All2 (RepA w R Pr) (ts.map (RV.ev T σ)) us := by
 unfold results
 rw [hres]
 simp only [Array.mapM_eq_mapM_toList, Sem.run_bind, Sem.run_map]
 generalize hg : (fun x : ResultVar => (match x with
  | .tmp t => pure (a.tmps.getD t undef)
  | .cell b t => do loadVar t (← asAddr (a.tmps.getD b undef)) : Sem Value)) = g
 obtain ⟨us, k1, k2⟩ := RV_mapM (P := P) (w := w) (R := R) (Pr := Pr) g (RV.ev T σ) ts fun r hr => by
  obtain ⟨u, g1, g2⟩ := RV_run hT h r (oksV_mem hok r hr)
  refine ⟨u, ?_, g2⟩
  rw [← hg]
  cases r <;> exact g1
 refine ⟨us, ?_, k2⟩
 have hg' : g = _ := hg.symm
 refine Eq.trans (congrArg (fun x => (Result.andThen x _)) (congrArg (fun x => Result.andThen x _) (Eq.trans (by rw [hg']) k1))) ?_
 simp only [Result.andThen_ok, Sem.run_pure]
 congr 1
 cases us with
 | nil => rfl
 | cons t ts =>
   cases ts with
   | nil => rfl
   | cons t2 ts => rfl
theorem pure_of_den {P : Program} {T : Tab} {Y : Tys} {E : Env} {A : Ann} {k : Nat} (hT : TabOK P T) (hE : EnvOK P E) (hE' : EnvE P E) (hm : P.follows .mixedOrders = true) {f : FuncId} {fn : Func} {c : Code} {ts : List RV} {sig : List PT} {rs : List RT} {M : Nat}
 (hf : P.funcs[f]? = some fn) (hb : fn.body = some c) (hres : fn.results = (ts.map RV.var).toArray) (hN : sig.length ≤ fn.ntmps) (hdr : drawOK c = true) :
 PureOK P f sig rs (fun xs => den T Y E A k c 0 (σ0 fn.ntmps M sig xs) (Kfin T rs ts)) := by
 intro xs r hr w Pr vs hp ha
 refine calls_of_wp hf hb ?_
 have h0 := σ0_inv (M := M) hp ha hN
 refine den_sound hT hE hE' (fun b hb => .inl hb) hm r c hdr 0 _ _ _ Pr _ w _ h0 hr ?_
 intro e σ R Pr1 a w' h hk
 have fin : (match oksV T σ ts, retD σ.ob rs (ts.map (RV.ev T σ)) with
  | true, some (vs, ns, r) => match okR vs ns with
    | true => some r
    | false => none
  | _, _ => none) = some r → a.defers = [] ∧ ∃ v, (results fn a.tmps).run P w' = .ok v w' ∧ ∃ Pr' us, Ending.returned v = .returned (packV us) ∧ (∀ b, b < w.heap.size → w'.heap[b]? = w.heap[b]?) ∧ Grow w w' ∧ (∀ b, Pr b → Pr' b) ∧
    (∀ b, Pr' b → b < w.heap.size → Pr b) ∧ (∀ b, Pr' b → b < w'.heap.size) ∧ RepRets w' (fun b => w.heap.size ≤ b) Pr' rs r us (fun _ => False) := fun hk => by
  split at hk
  · rename_i views ns r' hoks hret
    split at hk
    · rename_i hok
      cases hk
      obtain ⟨o1, o2⟩ := okR_spec hok
      obtain ⟨us, hrun, hus⟩ := results_pack hT h hres hoks
      refine ⟨h.df, _, hrun, fun b => Pr1 b ∨ Pr b ∨ ∃ κ ∈ views, ∃ e l, σ.ob κ = some (.vec e l) ∧ real R κ (.vec e l) ∧ b = (R κ).blk, _, rfl, fun b hb => (h.fz b hb).2, h.sm, fun b hb => .inr (.inl hb), fun b hb hlt => ?_, fun b hb => ?_, ?_⟩
      · rcases hb with hb | hb | ⟨κ, hκ, e, l, g1, g2, rfl⟩
        · exact h.po b hlt hb
        · exact hb
        · exact ((h.un κ _ g1 g2).2 hlt).elim
      · rcases hb with hb | hb | ⟨κ, hκ, e, l, g1, g2, rfl⟩
        · exact h.pr b hb
        · have := hp b hb; have := h.sm.sz; omega
        · exact RepOb.lt g2 (h.ob κ _ g1)
      · refine retD_rep h (fun b hb => .inl hb) rs _ _ views ns _ [] _ (fun κ _ o b g1 g2 => Nat.le_of_not_lt (fun z => (h.occ_un g1 g2).2 z)) hret hus (fun κ hκ e l g1 g2 => .inr (.inr ⟨κ, hκ, e, l, g1, g2, rfl⟩)) (fun κ hκ o b g1 g2 hb => ?_) (by simpa using o1) (fun b hb => hb.elim)
        have hun := h.occ_un g1 g2
        rcases hb with hb | hb | ⟨κ', hκ', e', l', g3, g4, g5⟩
        · exact hun.1 hb
        · exact hun.2 (hp _ hb)
        · exact h.occ_ds g1 g3 (fun e1 => o2 κ hκ (e1 ▸ hκ')) g2 (.inl ⟨g4, g5⟩)
    · cases hk
  · cases hk
 cases e with
 | nx => exact fin hk
 | ret => exact fin hk
 | exit id => simp only [Kfin] at hk; cases hk
def headC : List LO → AV
 | .box _ :: _ => .cp (.one (.ptr 0 0))
 | .row _ :: _ => .cp (.one (.own 0))
 | .rows _ :: _ => .cp (.one (.own 0))
 | .map _ _ :: _ => .cp (.one (.mp 0))
 | [] => anyA
def objsL (ks : List Nat) : (ls : List LO) → LOD ls → List (Option Ob)
 | [], _ => []
 | o :: r, x => some (o.ob ks x.1) :: objsL ks r x.2
def σ0B (N M pos : Nat) (ls : List LO) (x : LOD ls) (sig : List PT) (xs : DL sig) : St := ⟨((argsA sig xs).take pos ++ headC ls :: (argsA sig xs).drop pos) ++ List.replicate (N - 1 - sig.length) anyA, objsL (rg ls).tail ls x ++ List.replicate (M - ls.length) none⟩
def exitK (pin : Bool) (ob : Nat → Option Ob) (ls : List LO) : List Nat := match pin with
 | true => rg ls
 | false => 0 :: rowKeys ob 0 ls
def nPin (pin : Bool) (ls : List LO) : Nat := match pin with
 | true => ls.length
 | false => match mvd false ls with
   | true => 0
   | false => 1
def headX (pin : Bool) (ob : Nat → Option Ob) (ls : List LO) (vs : List AV) : Option (List Nat × List AV) := match mvd pin ls with
 | false => some (exitK pin ob ls, vs)
 | true => match vs with
   | .cp (.one (.own κ)) :: r => some ([κ], r)
   | _ => none
def KfinB (T : Tab) (pin : Bool) (ls : List LO) (rs : List RT) (ts : List RV) : Kont (LOD ls × RDL rs)
 | .exit _, _ => none
 | _, σ => match oksV T σ ts && (nPin pin ls).ble (σ.objs.length % 16), headX pin σ.ob ls (ts.map (RV.ev T σ)) with
   | true, some (K, rvs) => match takeL σ.ob K.tail K ls, retD σ.ob rs rvs with
     | some (v1, y), some (vs, ns, r) => match okR (v1 ++ vs) (K ++ ns) with
       | true => some (y, r)
       | false => none
     | _, _ => none
   | _, _ => none
theorem rg_at {ls : List LO} {i κ : Nat} : (rg ls)[i]? = some κ ↔ i = κ ∧ κ < ls.length := by
 unfold rg
 by_cases h : i < ls.length
 · rw [List.getElem?_range' h]
   simp only [Option.some.injEq]; omega
 · rw [List.getElem?_eq_none (by simp; omega)]
   simp only [reduceCtorEq, false_iff]; omega
theorem rg_mem {ls : List LO} {κ : Nat} : κ ∈ rg ls ↔ κ < ls.length := by unfold rg; rw [List.mem_range'_1]; omega
theorem objsL_len {ks : List Nat} : ∀ (ls : List LO) (x : LOD ls), (objsL ks ls x).length = ls.length
 | [], _ => rfl
 | o :: r, x => by simp only [objsL, List.length_cons]; rw [objsL_len r x.2]
theorem objsL_get {ks : List Nat} : ∀ {ls : List LO} {x : LOD ls} {s i : Nat} {o1 : Option Ob}, (objsL ks ls x)[i]? = some o1 → ∃ o, o1 = some o ∧ (obsL ks (List.range' s ls.length) ls x)[i]? = some (s + i, o)
 | [], _, _, _, _, h => by simp [objsL] at h
 | lo :: ls, x, s, i, o1, h => by
   cases i with
   | zero =>
     simp only [objsL, List.getElem?_cons_zero, Option.some.injEq] at h
     exact ⟨_, h.symm, rfl⟩
   | succ i =>
     simp only [objsL, List.getElem?_cons_succ] at h
     obtain ⟨o, h1, h2⟩ := objsL_get (s := s + 1) h
     exact ⟨o, h1, by rw [show s + (i + 1) = s + 1 + i by omega]; exact h2⟩
theorem σ0B_inv {w : World} {Pr : Nat → Prop} {pos : Nat} {ls : List LO} {x : LOD ls} {sig : List PT} {xs : DL sig} {vs : List Value} {N M : Nat} {Lo : Nat → RL} (hp : ∀ b, Pr b → b < w.heap.size) (hS : Sep w Lo Pr (obs0 ls x)) (ha : RepArgs w Pr sig xs vs) (hN : sig.length + 1 ≤ N) (hpos : pos ≤ sig.length) :
 Inv w (fun b => b < w.heap.size ∧ ¬ Bl w Lo (obs0 ls x) b) (fun b => Pr b ∨ Bl w Lo (obs0 ls x) b) Lo Lo Pr (σ0B N M pos ls x sig xs) { tmps := (vs.take pos ++ headV Lo 0 ls :: vs.drop pos).toArray ++ Array.replicate (N - (vs.take pos ++ headV Lo 0 ls :: vs.drop pos).toArray.size) undef, defers := [] } w := by
 have hr := argsA_rep (R := Lo) ha
 have hl := hr.length
 have hl2 := argsA_len sig xs
 have hvl : vs.length = sig.length := hl.symm.trans hl2
 have hobs : ∀ κ o, (σ0B N M pos ls x sig xs).ob κ = some o → (obs0 ls x)[κ]? = some (κ, o) := fun κ o h => by
  unfold St.ob σ0B at h
  simp only [List.getD_eq_getElem?_getD, List.getElem?_append] at h
  split at h
  · rename_i hlt
    cases hx : (objsL (rg ls).tail ls x)[κ]? with
    | none => rw [hx] at h; cases h
    | some o1 =>
      rw [hx] at h
      simp only [Option.getD_some] at h
      subst h
      obtain ⟨o2, h1, h2⟩ := objsL_get (s := 0) hx
      cases h1
      rw [Nat.zero_add] at h2
      exact h2
  · rw [List.getElem?_replicate] at h
    split at h <;> cases h
 have hthere : ∀ κ, κ < ls.length → (σ0B N M pos ls x sig xs).ob κ ≠ none := fun κ hκ => by
  unfold St.ob σ0B
  simp only [List.getD_eq_getElem?_getD, List.getElem?_append]
  rw [if_pos (by rw [objsL_len]; exact hκ)]
  have hx : (objsL (rg ls).tail ls x)[κ]? = some ((objsL (rg ls).tail ls x)[κ]'(by rw [objsL_len]; exact hκ)) := List.getElem?_eq_getElem _
  obtain ⟨o2, h1, _⟩ := objsL_get (s := 0) hx
  rw [hx, h1]; simp
 have htail : ∀ κ ∈ (rg ls).tail, κ < ls.length := fun κ hκ => rg_mem.1 (List.mem_of_mem_tail hκ)
 have hhead : ∀ κ ∈ (headC ls).refs, κ = 0 ∧ 0 < ls.length := fun κ hκ => by
  cases ls with
  | nil => simp [headC, AV.refs, Cp.refs, C.refs] at hκ
  | cons o r => cases o <;> simp [headC, AV.refs, Cp.refs, C.refs] at hκ <;> simp [hκ]
 have hhv : RepA w Lo Pr (headC ls) (headV Lo 0 ls) := by
  cases ls with
  | nil => exact trivial
  | cons o r => cases o <;> exact rfl
 have hmem : ∀ v ∈ (σ0B N M pos ls x sig xs).tmps, ∀ κ ∈ v.refs, κ = 0 ∧ 0 < ls.length := fun v hv κ hκ => by
  simp only [σ0B, List.mem_append, List.mem_cons] at hv
  rcases hv with (hv | hv | hv) | hv
  · exact (argsA_refs (List.mem_of_mem_take hv) hκ).elim
  · subst hv; exact hhead κ hκ
  · exact (argsA_refs (List.mem_of_mem_drop hv) hκ).elim
  · rw [List.eq_of_mem_replicate hv] at hκ; cases hκ
 have hbl : ∀ κ o b, (σ0B N M pos ls x sig xs).ob κ = some o → Occ w Lo κ o b → Bl w Lo (obs0 ls x) b := fun κ o b h hoc => ⟨κ, κ, o, hobs κ o h, hoc⟩
 obtain ⟨q1, q2, q3⟩ := occ_all (w := w) (R := Lo) (Pr := Pr) (Fz := fun b => b < w.heap.size ∧ ¬ Bl w Lo (obs0 ls x) b) (ob := (σ0B N M pos ls x sig xs).ob) (fun κ o b h hoc => ⟨hS.un κ κ o b (hobs κ o h) hoc, fun z => z.2 (hbl κ o b h hoc)⟩)
  (fun κ κ' o o' b h h' hne hoc => hS.ds κ κ' κ o κ' o' b (hobs κ o h) (hobs κ' o' h') hne hoc) (fun κ o h hre => hS.own κ κ o (hobs κ o h) hre)
 refine { tm := fun t => ?_, sz := ?_, ob := fun κ o h => hS.ob κ κ o (hobs κ o h), un := q1, ds := q2, wt := fun t κ hk => ?_, wo := fun κ' o κ h hk => ?_, fz := fun b hb => ⟨hb.1, rfl⟩, pr := hp, po := fun b _ h => .inl h, sm := Grow.refl _, df := rfl, fx := fun _ _ => rfl, lm := q3 }
 · have e1 : ((vs.take pos ++ headV Lo 0 ls :: vs.drop pos).toArray ++ Array.replicate (N - (vs.take pos ++ headV Lo 0 ls :: vs.drop pos).toArray.size) undef).getD t undef = ((vs.take pos ++ headV Lo 0 ls :: vs.drop pos) ++ List.replicate (N - (vs.length + 1)) undef).getD t undef := by
    have e2 : (vs.take pos ++ headV Lo 0 ls :: vs.drop pos).length = vs.length + 1 := by simp; omega
    rw [Array.getD_eq_getD_getElem?, List.getD_eq_getElem?_getD, ← Array.getElem?_toList]
    simp only [Array.toList_append, Array.toList_replicate, List.size_toArray, e2]
   rw [e1]
   have hall : All2 (RepA w Lo Pr) (σ0B N M pos ls x sig xs).tmps ((vs.take pos ++ headV Lo 0 ls :: vs.drop pos) ++ List.replicate (N - (vs.length + 1)) undef) := by
    refine All2.append (All2.append (hr.take pos) ⟨hhv, hr.drop pos⟩) ?_
    rw [show N - 1 - sig.length = N - (vs.length + 1) by omega]
    generalize N - (vs.length + 1) = n
    induction n with
    | zero => exact trivial
    | succ n ih => exact ⟨trivial, ih⟩
   exact hall.getD (show RepA w _ Pr anyA undef from trivial) t
 · simp only [σ0B, List.length_cons, List.length_append, List.length_replicate, Array.size_append, Array.size_replicate, List.size_toArray, List.length_take, List.length_drop]
   omega
 · unfold St.get at hk
   rw [List.getD_eq_getElem?_getD] at hk
   cases hx : (σ0B N M pos ls x sig xs).tmps[t]? with
   | none => rw [hx] at hk; cases hk
   | some v =>
     rw [hx] at hk
     obtain ⟨rfl, h0⟩ := hmem v (List.mem_of_getElem? hx) κ hk
     exact hthere 0 h0
 · exact hthere κ (htail κ ((obsL_at (hobs κ' o h)).2.2 κ hk))
theorem all2_diag {L R : Nat → RL} : ∀ {l : List Nat}, (∀ k ∈ l, L k = R k) → All2 (fun k k' => L k' = R k) l l
 | [], _ => trivial
 | k :: l, h => ⟨h k (List.mem_cons_self ..), all2_diag fun k' hk => h k' (List.mem_cons_of_mem _ hk)⟩
theorem box_of_den {P : Program} {T : Tab} {Y : Tys} {E : Env} {A : Ann} {k : Nat} (hT : TabOK P T) (hE : EnvOK P E) (hE' : EnvE P E) (hm : P.follows .mixedOrders = true) {f : FuncId} {fn : Func} {c : Code} {ts : List RV} {pos : Nat} {pin : Bool} {ls : List LO} {sig : List PT} {rs : List RT} {M : Nat}
 (hf : P.funcs[f]? = some fn) (hb : fn.body = some c) (hres : fn.results = (ts.map RV.var).toArray) (hN : sig.length + 1 ≤ fn.ntmps) (hdr : drawOK c = true) (hpos : pos ≤ sig.length) :
 BoxOK P f pos pin ls sig rs (fun x xs => den T Y E A k c 0 (σ0B fn.ntmps M pos ls x sig xs) (KfinB T pin ls rs ts)) := by
 intro x xs y r hr w Pr vs Lo hp hS ha
 refine calls_of_wp hf hb ?_
 have h0 := σ0B_inv (M := M) (pos := pos) hp hS ha hN hpos
 refine den_sound hT hE hE' (fun b hb => by
  by_cases e : Bl w Lo (obs0 ls x) b
  · exact .inr (.inr e)
  · exact .inl ⟨hb, e⟩) hm (y, r) c hdr 0 _ _ _ Pr _ w _ h0 hr ?_
 intro e σ R Pr1 a w' h hk
 have done : ∀ (K : List Nat) (rvs : List AV) (v1 views ns : List Nat) (y : LOD ls) (r : RDL rs), (oksV T σ ts && (nPin pin ls).ble (σ.objs.length % 16)) = true → headX pin σ.ob ls (ts.map (RV.ev T σ)) = some (K, rvs) → takeL σ.ob K.tail K ls = some (v1, y) → retD σ.ob rs rvs = some (views, ns, r) → okR (v1 ++ views) (K ++ ns) = true → a.defers = [] ∧ ∃ v, (results fn a.tmps).run P w' = .ok v w' ∧ ∃ Pr' rv Lo', Ending.returned v = .returned (packV (selfV pin ls Lo' ++ rv)) ∧ (∀ i, i < ls.length → (pin = true ∨ (i = 0 ∧ mvd pin ls = false)) → Lo' i = Lo i) ∧ (∀ b, b < w.heap.size → ¬ Bl w Lo (obs0 ls x) b → w'.heap[b]? = w.heap[b]?) ∧ Grow w w' ∧ (∀ b, Pr b → Pr' b) ∧
  (∀ b, Pr' b → b < w.heap.size → Pr b ∨ Bl w Lo (obs0 ls x) b) ∧ (∀ b, Pr' b → b < w'.heap.size) ∧ Sep w' Lo' Pr' (obs0 ls y) ∧ (∀ b, Bl w' Lo' (obs0 ls y) b → Bl w Lo (obs0 ls x) b ∨ w.heap.size ≤ b) ∧
  RepRets w' (fun b => w.heap.size ≤ b ∨ Bl w Lo (obs0 ls x) b) Pr' rs r rv (Bl w' Lo' (obs0 ls y)) := by
  intro K rvs v1 views ns y r hoks0 hhx hta hret hok
  obtain ⟨hoks, hble⟩ := Bool.and_eq_true_iff.1 hoks0
  have hle : nPin pin ls ≤ σ.objs.length % 16 := Nat.le_of_ble_eq_true hble
  obtain ⟨o1, o2⟩ := okR_spec hok
  obtain ⟨us1, hrun, hus0⟩ := results_pack hT h hres hoks
  obtain ⟨us, hus1, hus, hK0⟩ : ∃ us, us1 = selfV pin ls (fun j => R (K.getD j 0)) ++ us ∧ All2 (RepA w' R Pr1) rvs us ∧ ∀ i, i < ls.length → (pin = true ∨ (i = 0 ∧ mvd pin ls = false)) → K.getD i 0 = i ∧ i < nPin pin ls := by
   have hmt : mvd true ls = false := by
    cases ls with
    | nil => rfl
    | cons o _ => cases o <;> rfl
   cases hm1 : mvd pin ls with
   | false =>
     simp only [headX, hm1, Option.some.injEq, Prod.mk.injEq] at hhx
     obtain ⟨hK, rfl⟩ := hhx
     refine ⟨us1, ?_, hus0, fun i hi hpi => ?_⟩
     · unfold selfV; rw [hm1]; rfl
     · cases pin with
       | true =>
         rw [← hK]
         refine ⟨?_, hi⟩
         show (rg ls).getD i 0 = i
         rw [List.getD_eq_getElem?_getD, rg_at.2 ⟨rfl, hi⟩]; rfl
       | false =>
         rcases hpi with z | ⟨rfl, _⟩
         · cases z
         · rw [← hK]
           refine ⟨rfl, ?_⟩
           unfold nPin; rw [hm1]; exact Nat.one_pos
   | true =>
     simp only [headX, hm1] at hhx
     split at hhx
     · rename_i κ rest hts
       simp only [Option.some.injEq, Prod.mk.injEq] at hhx
       obtain ⟨rfl, rfl⟩ := hhx
       rw [hts] at hus0
       cases us1 with
       | nil => exact hus0.elim
       | cons u us1 =>
         obtain ⟨hu, hus1⟩ := hus0
         refine ⟨us1, ?_, hus1, fun i hi hpi => ?_⟩
         · unfold selfV; rw [hm1]
           show u :: us1 = (R κ).hdr :: us1
           rw [show u = (R κ).hdr from hu]
         · rcases hpi with rfl | ⟨_, z⟩
           · rw [hmt] at hm1; cases hm1
           · cases z
     · cases hhx
  have hnd : K.Nodup := (List.nodup_append.1 o1).1
  have hlen : K.length = ls.length := takeL_len hta
  have hnew : ∀ κ o b, σ.ob κ = some o → Occ w' R κ o b → w.heap.size ≤ b ∨ Bl w Lo (obs0 ls x) b := fun κ o b g1 g2 => by
   rcases Nat.lt_or_ge b w.heap.size with g | g
   · by_cases e : Bl w Lo (obs0 ls x) b
     · exact .inr e
     · exact ((h.occ_un g1 g2).2 ⟨g, e⟩).elim
   · exact .inl g
  have hPrN : ∀ κ o b, σ.ob κ = some o → Occ w' R κ o b → ¬ Pr b := fun κ o b g1 g2 hb => by
   rcases hnew κ o b g1 g2 with g | ⟨i, κ', o', g3, g4⟩
   · have := hp b hb; omega
   · exact hS.un i κ' o' b g3 g4 hb
  let Pr' : Nat → Prop := fun b => Pr1 b ∨ Pr b ∨ ∃ κ ∈ v1 ++ views, ∃ e l, σ.ob κ = some (.vec e l) ∧ real R κ (.vec e l) ∧ b = (R κ).blk
  have hun : ∀ κ o b, κ ∉ v1 ++ views → σ.ob κ = some o → Occ w' R κ o b → ¬ Pr' b := fun κ o b hn g1 g2 hb => by
   rcases hb with hb | hb | ⟨κ', hκ', e', l', g3, g4, g5⟩
   · exact (h.occ_un g1 g2).1 hb
   · exact hPrN κ o b g1 g2 hb
   · exact h.occ_ds g1 g3 (fun e1 => hn (e1 ▸ hκ')) g2 (.inl ⟨g4, g5⟩)
  have hsep : Sep w' R Pr' (obsL K.tail K ls y) := h.take_sep (fun b hb => .inl hb) hta hnd (fun κ hκ e l g1 g2 => .inr (.inr ⟨κ, List.mem_append_left _ hκ, e, l, g1, g2, rfl⟩)) (fun κ hκ o b g1 g2 => hun κ o b (fun z => o2 κ (List.mem_append_left _ hκ) z) g1 g2)
  have hat := fun {i κ1 o1} (hi : (obsL K.tail K ls y)[i]? = some (κ1, o1)) => (takeL_at (Pr' := fun _ => True) h.ob (fun _ _ => trivial) hta (fun _ _ _ _ _ _ => trivial) hi).2
  let L : Nat → RL := fun j => R (K.getD j 0)
  have hsame : All2 (fun k k' => L k' = R k) K (rg ls) := all2_range hlen fun i k hk => by
   show R (K.getD (0 + i) 0) = R k
   rw [Nat.zero_add, List.getD_eq_getElem?_getD, hk]; rfl
  have htl : All2 (fun k k' => L k' = R k) K.tail (rg ls).tail := by
   revert hsame
   cases K with
   | nil =>
     cases rg ls with
     | nil => exact fun _ => trivial
     | cons _ _ => exact fun z => z.elim
   | cons _ _ =>
     cases rg ls with
     | nil => exact fun z => z.elim
     | cons _ _ => exact fun z => z.2
  have hbl : ∀ b, Bl w' L (obs0 ls y) b → ∃ κ1 ∈ K, ∃ o1, σ.ob κ1 = some o1 ∧ Occ w' R κ1 o1 b := fun b hb => by
   obtain ⟨i, κ1, o1, hi, hoc⟩ := Bl.relabel htl hsame hb
   obtain ⟨o2, q1, q2⟩ := hat hi
   exact ⟨κ1, List.mem_of_getElem? (obsL_at hi).1, o2, q1, q2.occ.1 hoc⟩
  refine ⟨h.df, _, hrun, Pr', us, L, by rw [hus1], fun i hi hpi => ?_, fun b hb hne => (h.fz b ⟨hb, hne⟩).2, h.sm, fun b hb => .inr (.inl hb), fun b hb hlt => ?_, fun b hb => ?_, Sep.relabel htl hsame hsep, fun b hb => ?_, ?_⟩
  · obtain ⟨q1, q2⟩ := hK0 i hi hpi
    show R (K.getD i 0) = Lo i
    rw [q1]; exact h.fx i (by omega)
  · rcases hb with hb | hb | ⟨κ, hκ, e, l, g1, g2, rfl⟩
    · exact h.po b hlt hb
    · exact .inl hb
    · rcases hnew κ _ _ g1 (.inl ⟨g2, rfl⟩) with g | g
      · omega
      · exact .inr g
  · rcases hb with hb | hb | ⟨κ, hκ, e, l, g1, g2, rfl⟩
    · exact h.pr b hb
    · have := hp b hb; have := h.sm.sz; omega
    · exact RepOb.lt g2 (h.ob κ _ g1)
  · obtain ⟨κ1, _, o1, q1, q2⟩ := hbl b hb
    exact (hnew κ1 o1 b q1 q2).symm
  · exact retD_rep h (fun b hb => .inl hb) rs _ _ views ns _ K _ (fun κ hκ o b g1 g2 => hnew κ o b g1 g2) hret hus (fun κ hκ e l g1 g2 => .inr (.inr ⟨κ, List.mem_append_right _ hκ, e, l, g1, g2, rfl⟩)) (fun κ hκ o b g1 g2 => hun κ o b (fun z => o2 κ (List.mem_append_right _ hκ) z) g1 g2) o1 hbl
 have fin : (match oksV T σ ts && (nPin pin ls).ble (σ.objs.length % 16), headX pin σ.ob ls (ts.map (RV.ev T σ)) with
  | true, some (K, rvs) => match takeL σ.ob K.tail K ls, retD σ.ob rs rvs with
    | some (v1, y), some (vs, ns, r) => match okR (v1 ++ vs) (K ++ ns) with
      | true => some (y, r)
      | false => none
    | _, _ => none
  | _, _ => none) = some (y, r) → a.defers = [] ∧ ∃ v, (results fn a.tmps).run P w' = .ok v w' ∧ ∃ Pr' rv Lo', Ending.returned v = .returned (packV (selfV pin ls Lo' ++ rv)) ∧ (∀ i, i < ls.length → (pin = true ∨ (i = 0 ∧ mvd pin ls = false)) → Lo' i = Lo i) ∧ (∀ b, b < w.heap.size → ¬ Bl w Lo (obs0 ls x) b → w'.heap[b]? = w.heap[b]?) ∧ Grow w w' ∧ (∀ b, Pr b → Pr' b) ∧
    (∀ b, Pr' b → b < w.heap.size → Pr b ∨ Bl w Lo (obs0 ls x) b) ∧ (∀ b, Pr' b → b < w'.heap.size) ∧ Sep w' Lo' Pr' (obs0 ls y) ∧ (∀ b, Bl w' Lo' (obs0 ls y) b → Bl w Lo (obs0 ls x) b ∨ w.heap.size ≤ b) ∧
    RepRets w' (fun b => w.heap.size ≤ b ∨ Bl w Lo (obs0 ls x) b) Pr' rs r rv (Bl w' Lo' (obs0 ls y)) := fun hk => by
  split at hk
  · rename_i K rvs hoks0 hhx
    split at hk
    · rename_i v1 y' views ns r' hta hret
      split at hk
      · rename_i hok
        cases hk
        exact done K rvs v1 views ns y r hoks0 hhx hta hret hok
      · cases hk
    · cases hk
  · cases hk
 cases e with
 | nx => exact fin hk
 | ret => exact fin hk
 | exit id => simp only [KfinB] at hk; cases hk
theorem PureOK.congr {P : Program} {f : FuncId} {sig : List PT} {rs : List RT} {g h : DL sig → Option (RDL rs)} (hg : PureOK P f sig rs g) (he : ∀ xs, h xs = g xs) : PureOK P f sig rs h :=
 fun xs r hr => hg xs r (by rw [← he]; exact hr)
theorem BoxOK.congr {P : Program} {f : FuncId} {pos : Nat} {pin : Bool} {ls : List LO} {sig : List PT} {rs : List RT} {g h : LOD ls → DL sig → Option (LOD ls × RDL rs)} (hg : BoxOK P f pos pin ls sig rs g) (he : ∀ x xs, h x xs = g x xs) : BoxOK P f pos pin ls sig rs h :=
 fun x xs y r hr => hg x xs y r (by rw [← he]; exact hr)
end Go.Rx
