/- Reflection, part W: a whole function: what it comes to is its contract. -/
import Derived.Test.YtpbmlhlpfbcnbaaRxV
namespace Go.Rx
set_option linter.unusedVariables false
set_option linter.unusedSimpArgs false
set_option linter.unusedSectionVars false

def argA (p : PT) (x : p.2.D) : AV :=
  match p.1 with
  | true => .cp (.agg (p.2.cells x))
  | false => match p.2.cells x with
    | [c] => .cp (.one c)
    | _ => anyA
def argsA : (sig : List PT) → DL sig → List AV
  | [], _ => []
  | p :: r, xs => argA p xs.1 :: argsA r xs.2
def σ0 (N M : Nat) (sig : List PT) (xs : DL sig) : St := ⟨argsA sig xs ++ List.replicate (N - sig.length) anyA, List.replicate M none⟩
def retOne (ob : Nat → Option Ob) : (r : RT) → AV → Option (List Nat × List Nat × r.D)
  | .d agg τ, v => match toArg ob (agg, τ) v with
    | some (acc, x) => some (acc, [], x)
    | none => none
  | .new e, v => match v with
    | .cp (.one (.own κ)) => match ob κ with
      | some (.vec e' l) => match Ty.dec e' e with
        | isTrue h => some ([], [κ], (h ▸ l : List e.D))
        | isFalse _ => none
      | _ => none
    | .cp (.one .nil) => some ([], [], ([] : List e.D))
    | _ => none
def retD (ob : Nat → Option Ob) : (rs : List RT) → List AV → Option (List Nat × List Nat × RDL rs)
  | [], [] => some ([], [], ())
  | r :: rs, v :: vs => match retOne ob r v, retD ob rs vs with
    | some (a1, n1, x), some (a2, n2, xs) => some (a1 ++ a2, n1 ++ n2, (x, xs))
    | _, _ => none
  | _, _ => none
def okR : List Nat → List Nat → Bool
  | _, [] => true
  | vs, κ :: ns => !vs.contains κ && !ns.contains κ && okR vs ns
/-- Where a result lies. -/
inductive RV where
  | tmp (t : Nat)
  | cell (t : Nat) (ty : Nat)
def RV.var : RV → ResultVar
  | .tmp t => .tmp t
  | .cell t ty => .cell t ty
def RV.ev (T : Tab) (σ : St) : RV → AV
  | .tmp t => σ.get t
  | .cell t ty => match σ.get t with
    | .cp (.one (.ptr κ off)) => match evLoad T σ.ob ty (.ptr κ off) with
      | some out => out.v
      | none => anyA
    | _ => anyA
def RV.ok : RV → AV → Bool
  | .cell _ _, .cp (.one .any) => false
  | _, _ => true
def oksV (T : Tab) (σ : St) : List RV → Bool
  | [] => true
  | r :: l => r.ok (r.ev T σ) && oksV T σ l
def Kfin (T : Tab) (rs : List RT) (ts : List RV) : Kont (RDL rs)
  | .exit _, _ => none
  | _, σ => match oksV T σ ts, retD σ.ob rs (ts.map (RV.ev T σ)) with
    | true, some (vs, ns, r) => match okR vs ns with
      | true => some r
      | false => none
    | _, _ => none

theorem okR_spec : ∀ {vs ns : List Nat}, okR vs ns = true → ns.Nodup ∧ ∀ κ ∈ ns, κ ∉ vs
  | vs, [], _ => ⟨List.nodup_nil, fun κ h => (by cases h)⟩
  | vs, κ :: ns, h => by
    simp only [okR, Bool.and_eq_true, Bool.not_eq_true', ] at h
    obtain ⟨h1, h2⟩ := okR_spec h.2
    refine ⟨List.nodup_cons.2 ⟨by simpa using h.1.2, h1⟩, fun κ' hκ => ?_⟩
    rcases List.mem_cons.1 hκ with rfl | hκ
    · simpa using h.1.1
    · exact h2 κ' hκ

section
variable {w : World} {Pr : Nat → Prop}
theorem argA_rep {R : Nat → RL} {p : PT} {x : p.2.D} {v : Value} (h : RepV w Pr p x v) : RepA w R Pr (argA p x) v := by
  obtain ⟨agg, τ⟩ := p
  cases agg with
  | true =>
    obtain ⟨us, rfl, h3⟩ := h
    exact ⟨us, rfl, cells_rep h3⟩
  | false =>
    have := cells_rep (R := R) (show RepTy w Pr τ x [v] from h)
    show RepA w R Pr (match τ.cells x with | [c] => .cp (.one c) | _ => anyA) v
    split
    · rename_i c h2
      rw [h2] at this
      exact this.1
    · trivial
theorem argA_refs {p : PT} {x : p.2.D} {κ : Nat} (h : κ ∈ (argA p x).refs) : False := by
  obtain ⟨agg, τ⟩ := p
  cases agg with
  | true =>
    obtain ⟨c, hc, hk⟩ := List.mem_flatMap.1 h
    rw [cells_refs _ _ c hc] at hk; cases hk
  | false =>
    replace h : κ ∈ (match τ.cells x with | [c] => AV.cp (.one c) | _ => anyA).refs := h
    split at h
    · rename_i c h2
      have : c.refs = [] := cells_refs τ x c (by rw [h2]; simp)
      rw [show (AV.cp (Cp.one c)).refs = c.refs from rfl, this] at h; cases h
    · cases h
theorem argsA_rep {R : Nat → RL} : ∀ {sig : List PT} {xs : DL sig} {vs : List Value}, RepArgs w Pr sig xs vs → All2 (RepA w R Pr) (argsA sig xs) vs
  | [], _, vs, h => by rw [show vs = [] from h]; trivial
  | p :: r, xs, vs, h => by
    obtain ⟨v, us, rfl, h1, h2⟩ := h
    exact ⟨argA_rep h1, argsA_rep h2⟩
theorem argsA_len : ∀ (sig : List PT) (xs : DL sig), (argsA sig xs).length = sig.length
  | [], _ => rfl
  | p :: r, xs => by simp [argsA, argsA_len r xs.2]
theorem argsA_refs : ∀ {sig : List PT} {xs : DL sig} {v : AV} {κ : Nat}, v ∈ argsA sig xs → κ ∈ v.refs → False
  | p :: r, xs, v, κ, h, hk => by
    rcases List.mem_cons.1 h with rfl | h
    · exact argA_refs hk
    · exact argsA_refs h hk
end

theorem All2.getD {α β : Type} {r : α → β → Prop} {d : α} {e : β} (hd : r d e) : ∀ {l : List α} {m : List β}, All2 r l m → ∀ n, r (l.getD n d) (m.getD n e)
  | [], [], _, n => by simpa using hd
  | a :: l, b :: m, h, 0 => by simpa using h.1
  | a :: l, b :: m, h, n + 1 => by simpa using All2.getD hd h.2 n
  | [], _ :: _, h, _ => h.elim
  | _ :: _, [], h, _ => h.elim

/-- The state at a function's entry. -/
theorem σ0_inv {w : World} {Pr : Nat → Prop} {sig : List PT} {xs : DL sig} {vs : List Value} {N M : Nat} (hp : ∀ b, Pr b → b < w.heap.size) (ha : RepArgs w Pr sig xs vs) (hN : sig.length ≤ N) :
    Inv w (fun b => b < w.heap.size) Pr (fun _ => ⟨0, none, 0, 0⟩) Pr (σ0 N M sig xs) { tmps := vs.toArray ++ Array.replicate (N - vs.toArray.size) undef, defers := [] } w := by
  have hr := argsA_rep (R := fun _ => ⟨0, none, 0, 0⟩) ha
  have hl := hr.length
  have hl2 := argsA_len sig xs
  have hobs : ∀ κ, (σ0 N M sig xs).ob κ = none := fun κ => by
    unfold St.ob σ0
    simp only [List.getD_eq_getElem?_getD, List.getElem?_replicate]
    split <;> rfl
  refine { tm := fun t => ?_, sz := ?_, ob := fun κ o h => (by rw [hobs] at h; cases h), un := fun κ o h => (by rw [hobs] at h; cases h), ds := fun κ κ' o o' h => (by rw [hobs] at h; cases h), wt := fun t κ hk => ?_, wo := fun κ' o κ h => (by rw [hobs] at h; cases h), fz := fun b hb => ⟨hb, rfl⟩, pr := hp, po := fun b _ h => h, sm := Grow.refl _, df := rfl, fx := fun b hb hn => (hn hb).elim }
  · have e1 : ∀ t, (vs.toArray ++ Array.replicate (N - vs.toArray.size) undef).getD t undef = (vs ++ List.replicate (N - vs.length) undef).getD t undef := fun t => by
      rw [Array.getD_eq_getD_getElem?, List.getD_eq_getElem?_getD, ← Array.getElem?_toList]
      simp
    rw [e1]
    have h2 : All2 (RepA w (fun _ => ⟨0, none, 0, 0⟩) Pr) (argsA sig xs ++ List.replicate (N - sig.length) anyA) (vs ++ List.replicate (N - vs.length) undef) := by
      refine All2.append hr ?_
      rw [← hl, hl2]
      generalize N - sig.length = n
      induction n with
      | zero => trivial
      | succ n ih => exact ⟨trivial, ih⟩
    exact All2.getD (r := RepA w (fun _ => ⟨0, none, 0, 0⟩) Pr) (d := anyA) (e := undef) trivial h2 t
  · simp only [σ0, List.length_append, List.length_replicate, Array.size_append, List.size_toArray, Array.size_replicate]
    omega
  · exfalso
    unfold St.get σ0 at hk
    rw [List.getD_eq_getElem?_getD, List.getElem?_append] at hk
    split at hk
    · rename_i hlt
      rw [List.getElem?_eq_getElem hlt] at hk
      exact argsA_refs (List.getElem_mem hlt) hk
    · rw [List.getElem?_replicate] at hk
      split at hk <;> cases hk

section
variable {w0 : World} {Fz Pr0 : Nat → Prop} {R : Nat → RL} {Pr : Nat → Prop} {σ : St} {a : Act} {w : World}
theorem retOne_acc {ob : Nat → Option Ob} {e : Ty} {v : AV} {vs ns : List Nat} {x : List e.D} (h : retOne ob (.new e) v = some (vs, ns, x)) : vs = [] ∧ ((v = .cp (.one .nil) ∧ ns = [] ∧ x = []) ∨ ∃ κ, v = .cp (.one (.own κ)) ∧ ns = [κ] ∧ ob κ = some (.vec e x)) := by
  simp only [retOne] at h
  split at h
  · rename_i κ
    split at h
    · rename_i e' l ho
      revert h
      generalize Ty.dec e' e = d
      intro h
      cases d with
      | isFalse _ => cases h
      | isTrue he => subst he; cases h; exact ⟨rfl, .inr ⟨κ, rfl, rfl, ho⟩⟩
    · cases h
  · cases h; exact ⟨rfl, .inl ⟨rfl, rfl, rfl⟩⟩
  · cases h

theorem retD_rep (h : Inv w0 Fz Pr0 R Pr σ a w) (hge : ∀ κ e l, σ.ob κ = some (.vec e l) → real R κ (.vec e l) → w0.heap.size ≤ (R κ).blk) {Pr' : Nat → Prop} (hp : ∀ b, Pr b → Pr' b) :
    ∀ (rs : List RT) (vs : List AV) (us : List Value) (views news : List Nat) (r : RDL rs) (used bs : List Nat), retD σ.ob rs vs = some (views, news, r) → All2 (RepA w R Pr) vs us →
      (∀ κ ∈ views, ∀ e l, σ.ob κ = some (.vec e l) → real R κ (.vec e l) → Pr' (R κ).blk) → (∀ κ ∈ news, ∀ e l, σ.ob κ = some (.vec e l) → real R κ (.vec e l) → ¬ Pr' (R κ).blk) → (used ++ news).Nodup →
      (∀ b ∈ bs, b = w.heap.size ∨ ∃ κ ∈ used, ∃ o, σ.ob κ = some o ∧ real R κ o ∧ b = (R κ).blk) → RepRets w w0.heap.size Pr' rs r us bs
  | [], [], [], views, news, r, used, bs, hr, _, _, _, _, _ => rfl
  | .d agg τ :: rs, v :: vs, u :: us, views, news, r, used, bs, hr, hu, hv, hn, hnd, hb => by
    simp only [retD] at hr
    split at hr
    · rename_i a1 n1 x a2 n2 xs h1 h2
      cases hr
      simp only [retOne] at h1
      split at h1
      · rename_i acc y hy
        cases h1
        exact ⟨u, us, rfl, toArg_rep h.ob hp hy (fun κ hκ => hv κ (List.mem_append_left _ hκ)) hu.1, retD_rep h hge hp rs vs us a2 n2 xs used bs h2 hu.2 (fun κ hκ => hv κ (List.mem_append_right _ hκ)) (fun κ hκ => hn κ (by simpa using hκ)) (by simpa using hnd) hb⟩
      · cases h1
    · cases hr
  | .new e :: rs, v :: vs, u :: us, views, news, r, used, bs, hr, hu, hv, hn, hnd, hb => by
    simp only [retD] at hr
    split at hr
    · rename_i a1 n1 x a2 n2 xs h1 h2
      cases hr
      obtain ⟨rfl, ⟨rfl, rfl, rfl⟩ | ⟨κ, rfl, rfl, ho⟩⟩ := retOne_acc h1
      · refine ⟨u, us, w.heap.size, rfl, .inl ⟨hu.1, rfl⟩, fun hne => (hne hu.1).elim, ?_⟩
        refine retD_rep h hge hp rs vs us a2 n2 xs used _ h2 hu.2 (fun κ hκ => hv κ (by simpa using hκ)) (fun κ hκ => hn κ (by simpa using hκ)) (by simpa using hnd) (fun b hb' => ?_)
        rcases List.mem_cons.1 hb' with rfl | hb'
        · exact .inl rfl
        · exact hb b hb'
      · have hu1 : u = (R κ).hdr := hu.1
        have hrest : ∀ blk, (blk = w.heap.size ∨ (real R κ (.vec e x) ∧ blk = (R κ).blk)) → RepRets w w0.heap.size Pr' rs xs us (blk :: bs) := fun blk hblk => by
          refine retD_rep h hge hp rs vs us a2 n2 xs (used ++ [κ]) _ h2 hu.2 (fun κ hκ => hv κ (by simpa using hκ)) (fun κ' hκ => hn κ' (by simp [hκ])) (by simpa using hnd) (fun b hb' => ?_)
          rcases List.mem_cons.1 hb' with rfl | hb'
          · exact hblk.imp id fun ⟨h1, h2⟩ => ⟨κ, by simp, _, ho, h1, h2⟩
          · exact (hb b hb').imp id fun ⟨κ', h1, h2⟩ => ⟨κ', by simp [h1], h2⟩
        obtain ⟨h0, hc⟩ := h.ob κ _ ho
        rcases hc with ⟨k1, k2⟩ | ⟨off, cap, cells, el, k1, k2, k3, k4, k5⟩
        · exact ⟨u, us, w.heap.size, rfl, .inl ⟨hu1.trans k1, k2⟩, fun hne => (hne (hu1.trans k1)).elim, hrest _ (.inl rfl)⟩
        · have hre : real R κ (.vec e x) := fun z => by rw [z] at k1; cases k1
          have hun := h.un κ _ ho hre
          have hlt : (R κ).blk < w.heap.size := RepOb.lt hre (h.ob κ _ ho)
          refine ⟨u, us, (R κ).blk, rfl, .inr ⟨off, cap, cells, el, hu1.trans k1, k2, k3, k4, ?_, hn κ (by simp) e x ho hre, fun i y hi => ?_⟩, fun _ hmem => ?_, hrest _ (.inr ⟨hre, rfl⟩)⟩
          · exact hge κ e x ho hre
          · obtain ⟨us', m1, m2⟩ := k5 i y hi
            exact ⟨us', m1, m2.move (fun _ _ => rfl) hp⟩
          · rcases hb _ hmem with g | ⟨κ', g1, o, g2, g3, g4⟩
            · omega
            · by_cases e1 : κ = κ'
              · subst e1
                have := List.nodup_append.1 hnd
                exact this.2.2 κ g1 κ (by simp) rfl
              · exact h.ds κ κ' _ o ho g2 hre g3 e1 g4
    · cases hr
  | [], _ :: _, _, _, _, _, _, _, hr, _, _, _, _, _ => by simp [retD] at hr
  | _ :: _, [], _, _, _, _, _, _, hr, _, _, _, _, _ => by simp [retD] at hr
  | _ :: _, _ :: _, [], _, _, _, _, _, _, hu, _, _, _, _ => hu.elim
  | [], [], _ :: _, _, _, _, _, _, _, hu, _, _, _, _ => hu.elim
end

theorem RV_run {P : Program} {T : Tab} (hT : TabOK P T) {w0 : World} {Fz Pr0 : Nat → Prop} {R : Nat → RL} {Pr : Nat → Prop} {σ : St} {a : Act} {w : World} (h : Inv w0 Fz Pr0 R Pr σ a w) : ∀ (r : RV), r.ok (r.ev T σ) = true →
    ∃ u, (match r with | .tmp t => (pure (a.tmps.getD t undef) : Sem Value) | .cell b t => do loadVar t (← asAddr (a.tmps.getD b undef))).run P w = .ok u w ∧ RepA w R Pr (r.ev T σ) u
  | .tmp t, _ => ⟨_, rfl, h.tm t⟩
  | .cell b t, hok => by
    have hb := h.tm b
    simp only [RV.ev] at hok ⊢
    split at hok
    · rename_i κ off e
      rw [e] at hb
      have hb : a.tmps.getD b undef = .pointer (some ⟨(R κ).blk, off, none⟩) := hb
      cases hl : evLoad T σ.ob t (.ptr κ off) with
      | none => rw [hl] at hok; cases hok
      | some out =>
        obtain ⟨u, k1, k2, _⟩ := evLoad_sound hT h.ob hl (show RepC w R Pr (.ptr κ off) (.pointer (some ⟨(R κ).blk, off, none⟩)) from rfl)
        refine ⟨u, ?_, k2⟩
        rw [hb]
        exact k1
    · cases hok
theorem RV_mapM {P : Program} {w : World} {R : Nat → RL} {Pr : Nat → Prop} (g : ResultVar → Sem Value) (ev : RV → AV) : ∀ (l : List RV), (∀ r ∈ l, ∃ u, (g r.var).run P w = .ok u w ∧ RepA w R Pr (ev r) u) → ∃ us, ((l.map RV.var).mapM g).run P w = .ok us w ∧ All2 (RepA w R Pr) (l.map ev) us
  | [], _ => ⟨[], rfl, trivial⟩
  | r :: l, h => by
    obtain ⟨u, k1, k2⟩ := h r (List.mem_cons_self ..)
    obtain ⟨us, k3, k4⟩ := RV_mapM g ev l fun x hx => h x (List.mem_cons_of_mem _ hx)
    refine ⟨u :: us, ?_, k2, k4⟩
    simp only [List.map_cons, List.mapM_cons, Sem.run_bind, Sem.run_pure, Result.andThen_ok, k1, k3]
theorem oksV_mem {T : Tab} {σ : St} : ∀ {l : List RV}, oksV T σ l = true → ∀ r ∈ l, r.ok (r.ev T σ) = true
  | r :: l, h, x, hx => by
    simp only [oksV, Bool.and_eq_true] at h
    rcases List.mem_cons.1 hx with rfl | hx
    · exact h.1
    · exact oksV_mem h.2 x hx
theorem results_pack {P : Program} {T : Tab} (hT : TabOK P T) {w0 : World} {Fz Pr0 : Nat → Prop} {R : Nat → RL} {Pr : Nat → Prop} {σ : St} {a : Act} {w : World} (h : Inv w0 Fz Pr0 R Pr σ a w) {fn : Func} {ts : List RV} (hres : fn.results = (ts.map RV.var).toArray) (hok : oksV T σ ts = true) :
    ∃ us, (results fn a.tmps).run P w = .ok (packV us) w ∧ All2 (RepA w R Pr) (ts.map (RV.ev T σ)) us := by
  unfold results
  rw [hres]
  simp only [Array.mapM_eq_mapM_toList, Sem.run_bind, Sem.run_map]
  generalize hg : (fun x : ResultVar => (match x with
      | .tmp t => pure (a.tmps.getD t undef)
      | .cell b t => do loadVar t (← asAddr (a.tmps.getD b undef)) : Sem Value)) = g
  obtain ⟨us, k1, k2⟩ := RV_mapM (P := P) (w := w) (R := R) (Pr := Pr) g (RV.ev T σ) ts fun r hr => by
    obtain ⟨u, g1, g2⟩ := RV_run hT h r (oksV_mem hok r hr)
    refine ⟨u, ?_, g2⟩
    rw [← hg]
    cases r <;> exact g1
  refine ⟨us, ?_, k2⟩
  have hg' : g = _ := hg.symm
  refine Eq.trans (congrArg (fun x => (Result.andThen x _)) (congrArg (fun x => Result.andThen x _) (Eq.trans (by rw [hg']) k1))) ?_
  simp only [Result.andThen_ok, Sem.run_pure]
  congr 1
  cases us with
  | nil => rfl
  | cons t ts =>
    cases ts with
    | nil => rfl
    | cons t2 ts => rfl

/-- **What a function's text comes to is its contract.** -/
theorem pure_of_den {P : Program} {T : Tab} {Y : Tys} {E : Env} {A : Ann} {k : Nat} (hT : TabOK P T) (hE : EnvOK P E) (hE' : EnvE P E) (hm : P.follows .mixedOrders = true) {f : FuncId} {fn : Func} {c : Code} {ts : List RV} {sig : List PT} {rs : List RT} {M : Nat}
    (hf : P.funcs[f]? = some fn) (hb : fn.body = some c) (hres : fn.results = (ts.map RV.var).toArray) (hN : sig.length ≤ fn.ntmps) (hdr : drawOK c = true) :
    PureOK P f sig rs (fun xs => den T Y E A k c 0 (σ0 fn.ntmps M sig xs) (Kfin T rs ts)) := by
  intro xs r hr w Pr vs hp ha
  refine calls_of_wp hf hb ?_
  have h0 := σ0_inv (M := M) hp ha hN
  refine den_sound hT hE hE' (fun b hb => .inl hb) hm r c hdr 0 _ _ _ Pr _ w _ h0 hr ?_
  intro e σ R Pr1 a w' h hk
  have fin : (match oksV T σ ts, retD σ.ob rs (ts.map (RV.ev T σ)) with
    | true, some (vs, ns, r) => match okR vs ns with
      | true => some r
      | false => none
    | _, _ => none) = some r → a.defers = [] ∧ ∃ v, (results fn a.tmps).run P w' = .ok v w' ∧ ∃ Pr' us, Ending.returned v = .returned (packV us) ∧ (∀ b, b < w.heap.size → w'.heap[b]? = w.heap[b]?) ∧ Grow w w' ∧ (∀ b, Pr b → Pr' b) ∧
      (∀ b, Pr' b → b < w.heap.size → Pr b) ∧ (∀ b, Pr' b → b < w'.heap.size) ∧ RepRets w' w.heap.size Pr' rs r us [] := fun hk => by
    split at hk
    · rename_i views ns r' hoks hret
      split at hk
      · rename_i hok
        cases hk
        obtain ⟨o1, o2⟩ := okR_spec hok
        obtain ⟨us, hrun, hus⟩ := results_pack hT h hres hoks
        refine ⟨h.df, _, hrun, fun b => Pr1 b ∨ Pr b ∨ ∃ κ ∈ views, ∃ e l, σ.ob κ = some (.vec e l) ∧ real R κ (.vec e l) ∧ b = (R κ).blk, _, rfl, fun b hb => (h.fz b hb).2, h.sm, fun b hb => .inr (.inl hb), fun b hb hlt => ?_, fun b hb => ?_, ?_⟩
        · rcases hb with hb | hb | ⟨κ, hκ, e, l, g1, g2, rfl⟩
          · exact h.po b hlt hb
          · exact hb
          · exact ((h.un κ _ g1 g2).2 hlt).elim
        · rcases hb with hb | hb | ⟨κ, hκ, e, l, g1, g2, rfl⟩
          · exact h.pr b hb
          · have := hp b hb; have := h.sm.sz; omega
          · exact RepOb.lt g2 (h.ob κ _ g1)
        · refine retD_rep h (fun κ e l g1 g2 => Nat.le_of_not_lt (fun z => (h.un κ _ g1 g2).2 z)) (fun b hb => .inl hb) rs _ _ views ns _ [] [] hret hus (fun κ hκ e l g1 g2 => .inr (.inr ⟨κ, hκ, e, l, g1, g2, rfl⟩)) (fun κ hκ e l g1 g2 hb => ?_) (by simpa using o1) (fun b hb => by cases hb)
          have hun := h.un κ _ g1 g2
          rcases hb with hb | hb | ⟨κ', hκ', e', l', g3, g4, g5⟩
          · exact hun.1 hb
          · exact hun.2 (hp _ hb)
          · exact h.ds κ κ' _ _ g1 g3 g2 g4 (fun e1 => o2 κ hκ (e1 ▸ hκ')) g5
      · cases hk
    · cases hk
  cases e with
  | nx => exact fin hk
  | ret => exact fin hk
  | exit id => simp only [Kfin] at hk; cases hk

/-- The state at the entry of a function whose first argument points to a variable. -/
def σ0B (N M : Nat) (τ : Ty) (x : τ.D) (sig : List PT) (xs : DL sig) : St := ⟨.cp (.one (.ptr 0 0)) :: (argsA sig xs ++ List.replicate (N - 1 - sig.length) anyA), some (.box (τ.cells x)) :: List.replicate (M - 1) none⟩
def KfinB (T : Tab) (τ : Ty) (rs : List RT) (ts : List RV) : Kont (τ.D × RDL rs)
  | .exit _, _ => none
  | _, σ => match oksV T σ ts, σ.ob 0 with
    | true, some (.box cs) => match toArg σ.ob (true, τ) (.cp (.agg cs)), retD σ.ob rs (ts.map (RV.ev T σ)) with
      | some (v1, y), some (vs, ns, r) => match okR (v1 ++ vs) ns with
        | true => some (y, r)
        | false => none
      | _, _ => none
    | _, _ => none
theorem σ0B_inv {w : World} {Pr : Nat → Prop} {τ : Ty} {x : τ.D} {sig : List PT} {xs : DL sig} {vs : List Value} {N M blk : Nat} {us : Array Value} {el : TypeId} (hp : ∀ b, Pr b → b < w.heap.size) (hnp : ¬ Pr blk) (hb : w.heap[blk]? = some (.cells us el (0, 0))) (hx : RepTy w Pr τ x us.toList) (ha : RepArgs w Pr sig xs vs) (hN : sig.length + 1 ≤ N) (hM : M % 2 = 1) :
    Inv w (fun b => b < w.heap.size ∧ b ≠ blk) (fun b => Pr b ∨ b = blk) (fun κ => ⟨blk, none, 0, 0⟩) Pr (σ0B N M τ x sig xs) { tmps := (Value.pointer (some ⟨blk, 0, none⟩) :: vs).toArray ++ Array.replicate (N - (Value.pointer (some ⟨blk, 0, none⟩) :: vs).toArray.size) undef, defers := [] } w := by
  have hr := argsA_rep (R := fun _ => ⟨blk, none, 0, 0⟩) ha
  have hl := hr.length
  have hl2 := argsA_len sig xs
  have hblk : blk < w.heap.size := by
    rcases Nat.lt_or_ge blk w.heap.size with g | g
    · exact g
    · rw [Array.getElem?_eq_none g] at hb; cases hb
  have hobs : ∀ κ o, (σ0B N M τ x sig xs).ob κ = some o → κ = 0 ∧ o = .box (τ.cells x) := fun κ o h => by
    unfold St.ob σ0B at h
    cases κ with
    | zero => simp at h; exact ⟨rfl, h.symm⟩
    | succ n =>
      simp only [List.getD_eq_getElem?_getD, List.getElem?_cons_succ, List.getElem?_replicate] at h
      split at h <;> cases h
  have hob0 : (σ0B N M τ x sig xs).ob 0 = some (.box (τ.cells x)) := by simp [St.ob, σ0B]
  have hget : ∀ t κ, κ ∈ ((σ0B N M τ x sig xs).get t).refs → κ = 0 := fun t κ hk => by
    cases t with
    | zero => simpa [St.get, σ0B, AV.refs, Cp.refs, C.refs] using hk
    | succ t =>
      exfalso
      unfold St.get σ0B at hk
      simp only [List.getD_eq_getElem?_getD, List.getElem?_cons_succ] at hk
      rcases Nat.lt_or_ge t (argsA sig xs).length with g | g
      · rw [List.getElem?_append_left g, List.getElem?_eq_getElem g] at hk
        exact argsA_refs (List.getElem_mem g) hk
      · rw [List.getElem?_append_right g, List.getElem?_replicate] at hk
        split at hk <;> cases hk
  refine { tm := fun t => ?_, sz := ?_, ob := fun κ o h => ?_, un := fun κ o h _ => ⟨hnp, fun z => z.2 rfl⟩, ds := fun κ κ' o o' h h' _ _ hkk => (hkk ((hobs κ o h).1.trans (hobs κ' o' h').1.symm)).elim, wt := fun t κ hk => (by rw [hget t κ hk, hob0]; simp), wo := fun κ' o κ h hk => ?_, fz := fun b hb => ⟨hb.1, rfl⟩, pr := hp, po := fun b _ h => .inl h, sm := Grow.refl _, df := rfl, fx := fun b hb hn => ⟨Classical.byContradiction fun z => hn ⟨hb, fun e => z e.symm⟩, (by simp [σ0B]; omega)⟩ }
  · have hvl : vs.length = sig.length := hl.symm.trans hl2
    have e1 : ((Value.pointer (some ⟨blk, 0, none⟩) :: vs).toArray ++ Array.replicate (N - (Value.pointer (some ⟨blk, 0, none⟩) :: vs).toArray.size) undef).getD t undef = ((Value.pointer (some ⟨blk, 0, none⟩) :: vs) ++ List.replicate (N - (vs.length + 1)) undef).getD t undef := by
      rw [Array.getD_eq_getD_getElem?, List.getD_eq_getElem?_getD, ← Array.getElem?_toList]
      simp
    rw [e1]
    have hall : All2 (RepA w (fun _ => ⟨blk, none, 0, 0⟩) Pr) (σ0B N M τ x sig xs).tmps ((Value.pointer (some ⟨blk, 0, none⟩) :: vs) ++ List.replicate (N - (vs.length + 1)) undef) := by
      refine ⟨rfl, hr.append ?_⟩
      rw [show N - 1 - sig.length = N - (vs.length + 1) by omega]
      generalize N - (vs.length + 1) = n
      induction n with
      | zero => exact trivial
      | succ n ih => exact ⟨trivial, ih⟩
    exact hall.getD (show RepA w _ Pr anyA undef from trivial) t
  · simp only [σ0B, List.length_cons, List.length_append, List.length_replicate, Array.size_append, Array.size_replicate, List.size_toArray]
    omega
  · obtain ⟨rfl, rfl⟩ := hobs κ o h
    exact ⟨el, us, hb, cells_rep hx⟩
  · obtain ⟨_, rfl⟩ := hobs κ' o h
    obtain ⟨c, hc, hk⟩ := List.mem_flatMap.1 hk
    rw [cells_refs _ _ c hc] at hk; cases hk
/-- What the text of a function comes to, whose first argument points to a variable. -/
theorem box_of_den {P : Program} {T : Tab} {Y : Tys} {E : Env} {A : Ann} {k : Nat} (hT : TabOK P T) (hE : EnvOK P E) (hE' : EnvE P E) (hm : P.follows .mixedOrders = true) {f : FuncId} {fn : Func} {c : Code} {ts : List RV} {τ : Ty} {sig : List PT} {rs : List RT} {M : Nat}
    (hf : P.funcs[f]? = some fn) (hb : fn.body = some c) (hres : fn.results = (ts.map RV.var).toArray) (hN : sig.length + 1 ≤ fn.ntmps) (hdr : drawOK c = true) (hM : M % 2 = 1) :
    BoxOK P f τ sig rs (fun x xs => den T Y E A k c 0 (σ0B fn.ntmps M τ x sig xs) (KfinB T τ rs ts)) := by
  intro x xs y r hr w Pr vs blk us el hp hnp hheap hx ha
  refine calls_of_wp hf hb ?_
  have h0 := σ0B_inv (M := M) hp hnp hheap hx ha hN hM
  refine den_sound hT hE hE' (fun b hb => by
    by_cases e : b = blk
    · exact .inr (.inr e)
    · exact .inl ⟨hb, e⟩) hm (y, r) c hdr 0 _ _ _ Pr _ w _ h0 hr ?_
  intro e σ R Pr1 a w' h hk
  have fin : (match oksV T σ ts, σ.ob 0 with
    | true, some (.box cs) => match toArg σ.ob (true, τ) (.cp (.agg cs)), retD σ.ob rs (ts.map (RV.ev T σ)) with
      | some (v1, y), some (vs, ns, r) => match okR (v1 ++ vs) ns with
        | true => some (y, r)
        | false => none
      | _, _ => none
    | _, _ => none) = some (y, r) → a.defers = [] ∧ ∃ v, (results fn a.tmps).run P w' = .ok v w' ∧ ∃ Pr' rv el' us', Ending.returned v = .returned (packV rv) ∧ (∀ b, b < w.heap.size → b ≠ blk → w'.heap[b]? = w.heap[b]?) ∧ Grow w w' ∧ (∀ b, Pr b → Pr' b) ∧
      (∀ b, Pr' b → b < w.heap.size → Pr b) ∧ (∀ b, Pr' b → b < w'.heap.size) ∧ w'.heap[blk]? = some (.cells us' el' (0, 0)) ∧ RepTy w' Pr' τ y us'.toList ∧ RepRets w' w.heap.size Pr' rs r rv [] := fun hk => by
    split at hk
    · rename_i cs hoks hbox
      split at hk
      · rename_i v1 y' views ns r' hta hret
        split at hk
        · rename_i hok
          cases hk
          obtain ⟨o1, o2⟩ := okR_spec hok
          obtain ⟨us1, hrun, hus⟩ := results_pack hT h hres hoks
          have hblk : blk < w.heap.size := by
            rcases Nat.lt_or_ge blk w.heap.size with g | g
            · exact g
            · rw [Array.getElem?_eq_none g] at hheap; cases hheap
          have hR0 := (h.fx blk hblk (fun z => z.2 rfl)).1
          obtain ⟨el1, us2, hcell, hcs⟩ := h.ob 0 _ hbox
          rw [hR0] at hcell
          have hge : ∀ κ e l, σ.ob κ = some (.vec e l) → real R κ (.vec e l) → w.heap.size ≤ (R κ).blk := fun κ e l g1 g2 => by
            rcases Nat.lt_or_ge (R κ).blk w.heap.size with g | g
            · refine ((h.un κ _ g1 g2).2 ⟨g, fun z => ?_⟩).elim
              exact h.ds κ 0 _ _ g1 hbox g2 trivial (fun z => by subst z; rw [hbox] at g1; cases g1) (z.trans hR0.symm)
            · exact g
          have hnb : ¬ Pr1 blk := by have := (h.un 0 _ hbox trivial).1; rwa [hR0] at this
          refine ⟨h.df, _, hrun, fun b => Pr1 b ∨ Pr b ∨ ∃ κ ∈ v1 ++ views, ∃ e l, σ.ob κ = some (.vec e l) ∧ real R κ (.vec e l) ∧ b = (R κ).blk, _, el1, us2, rfl, fun b hb hne => (h.fz b ⟨hb, hne⟩).2, h.sm, fun b hb => .inr (.inl hb), fun b hb hlt => ?_, fun b hb => ?_, hcell, ?_, ?_⟩
          · rcases hb with hb | hb | ⟨κ, hκ, e, l, g1, g2, rfl⟩
            · rcases h.po b hlt hb with g | g
              · exact g
              · subst g; exact (hnb hb).elim
            · exact hb
            · have := hge κ e l g1 g2; omega
          · rcases hb with hb | hb | ⟨κ, hκ, e, l, g1, g2, rfl⟩
            · exact h.pr b hb
            · have := hp b hb; have := h.sm.sz; omega
            · exact RepOb.lt g2 (h.ob κ _ g1)
          · obtain ⟨us3, e3, k3⟩ := toArg_rep (Pr' := fun b => Pr1 b ∨ Pr b ∨ ∃ κ ∈ v1 ++ views, ∃ e l, σ.ob κ = some (.vec e l) ∧ real R κ (.vec e l) ∧ b = (R κ).blk) h.ob (fun b hb => .inl hb) hta (fun κ hκ e l g1 g2 => .inr (.inr ⟨κ, List.mem_append_left _ hκ, e, l, g1, g2, rfl⟩)) (show RepA w' R Pr1 (.cp (.agg cs)) (.agg us2) from ⟨us2, rfl, hcs⟩)
            cases e3
            exact k3
          · refine retD_rep h hge (fun b hb => .inl hb) rs _ _ views ns _ [] [] hret hus (fun κ hκ e l g1 g2 => .inr (.inr ⟨κ, List.mem_append_right _ hκ, e, l, g1, g2, rfl⟩)) (fun κ hκ e l g1 g2 hb => ?_) (by simpa using o1) (fun b hb => by cases hb)
            have hun := h.un κ _ g1 g2
            rcases hb with hb | hb | ⟨κ', hκ', e', l', g3, g4, g5⟩
            · exact hun.1 hb
            · have := hge κ e l g1 g2; have := hp _ hb; omega
            · exact h.ds κ κ' _ _ g1 g3 g2 g4 (fun e1 => o2 κ hκ (e1 ▸ hκ')) g5
        · cases hk
      · cases hk
    · cases hk
  cases e with
  | nx => exact fin hk
  | ret => exact fin hk
  | exit id => simp only [KfinB] at hk; cases hk

theorem PureOK.congr {P : Program} {f : FuncId} {sig : List PT} {rs : List RT} {g h : DL sig → Option (RDL rs)} (hg : PureOK P f sig rs g) (he : ∀ xs, h xs = g xs) : PureOK P f sig rs h :=
  fun xs r hr => hg xs r (by rw [← he]; exact hr)
theorem BoxOK.congr {P : Program} {f : FuncId} {τ : Ty} {sig : List PT} {rs : List RT} {g h : τ.D → DL sig → Option (τ.D × RDL rs)} (hg : BoxOK P f τ sig rs g) (he : ∀ x xs, h x xs = g x xs) : BoxOK P f τ sig rs h :=
  fun x xs y r hr => hg x xs y r (by rw [← he]; exact hr)
end Go.Rx
