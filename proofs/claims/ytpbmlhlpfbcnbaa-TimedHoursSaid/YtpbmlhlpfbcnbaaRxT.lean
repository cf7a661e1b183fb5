/- Reflection, part T: regions that draw their order: operations that do not touch each other may change places. -/
import Derived.Test.YtpbmlhlpfbcnbaaRxS
namespace Go.Rx
set_option linter.unusedVariables false
set_option linter.unusedSimpArgs false
set_option linter.unusedSectionVars false

def setsL (l : List (Option Ob)) (us : List (Nat × Ob)) : List (Option Ob) := us.foldl (fun l p => l.set p.1 (some p.2)) l
def St.setObs (σ : St) (us : List (Nat × Ob)) : St := ⟨σ.tmps, setsL σ.objs us⟩
theorem setsL_len : ∀ (us : List (Nat × Ob)) (l : List (Option Ob)), (setsL l us).length = l.length
  | [], _ => rfl
  | (κ, o) :: us, l => by
    show (setsL (l.set κ (some o)) us).length = _
    rw [setsL_len us]; simp
theorem setsL_set : ∀ (us : List (Nat × Ob)) (l : List (Option Ob)) (κ : Nat) (o : Option Ob), κ ∉ us.map (·.1) → setsL (l.set κ o) us = (setsL l us).set κ o
  | [], _, _, _, _ => rfl
  | (κ', o') :: us, l, κ, o, h => by
    show setsL ((l.set κ o).set κ' (some o')) us = (setsL (l.set κ' (some o')) us).set κ o
    have h1 : κ ≠ κ' := fun e => h (by simp [e])
    rw [List.set_comm _ _ h1, setsL_set us _ κ o (fun e => h (by simp only [List.map_cons, List.mem_cons]; exact .inr e))]
theorem setsL_comm : ∀ (us vs : List (Nat × Ob)) (l : List (Option Ob)), (∀ κ ∈ us.map (·.1), κ ∉ vs.map (·.1)) → setsL (setsL l us) vs = setsL (setsL l vs) us
  | [], _, _, _ => rfl
  | (κ, o) :: us, vs, l, h => by
    show setsL (setsL (l.set κ (some o)) us) vs = setsL ((setsL l vs).set κ (some o)) us
    rw [setsL_comm us vs _ (fun κ' hκ => h κ' (by simp only [List.map_cons, List.mem_cons]; exact .inr hκ)), setsL_set vs l κ _ (h κ (by simp))]
theorem setsL_get : ∀ (us : List (Nat × Ob)) (l : List (Option Ob)) (κ : Nat), κ ∉ us.map (·.1) → (setsL l us).getD κ none = l.getD κ none
  | [], _, _, _ => rfl
  | (κ', o) :: us, l, κ, h => by
    show (setsL (l.set κ' (some o)) us).getD κ none = _
    have h1 : ¬ (κ' = κ ∧ κ' < l.length) := fun e => h (by simp [e.1])
    rw [setsL_get us _ κ (fun e => h (by simp only [List.map_cons, List.mem_cons]; exact .inr e)), getD_set_list, if_neg h1]
theorem ob_setObs (σ : St) (us : List (Nat × Ob)) (κ : Nat) (h : κ ∉ us.map (·.1)) : (σ.setObs us).ob κ = σ.ob κ := setsL_get us σ.objs κ h
theorem adds_setObs : ∀ {ns : List (Nat × Ob)} {σ σ' : St}, σ.adds ns = some σ' → σ' = σ.setObs ns ∧ ∀ κ ∈ ns.map (·.1), κ < σ.objs.length
  | [], σ, σ', h => by simp only [St.adds] at h; cases h; exact ⟨rfl, fun κ hκ => by cases hκ⟩
  | (κ, o) :: ns, σ, σ', h => by
    obtain ⟨h1, h2, h3⟩ := adds_cons h
    obtain ⟨h4, h5⟩ := adds_setObs h3
    refine ⟨h4, fun κ' hκ => ?_⟩
    rcases List.mem_cons.1 hκ with rfl | hκ
    · exact okK_lt h1
    · have := h5 κ' hκ
      simpa [St.setOb] using this
theorem adds_local : ∀ {ns : List (Nat × Ob)} {σ σ1 σ' : St}, σ.adds ns = some σ' → σ1.objs.length = σ.objs.length → (∀ κ ∈ ns.map (·.1), σ1.ob κ = σ.ob κ) → σ1.adds ns = some (σ1.setObs ns)
  | [], σ, σ1, σ', h, hl, ha => rfl
  | (κ, o) :: ns, σ, σ1, σ', h, hl, ha => by
    obtain ⟨h1, h2, h3⟩ := adds_cons h
    have h4 : (σ1.setOb κ (some o)).adds ns = some ((σ1.setOb κ (some o)).setObs ns) := by
      refine adds_local h3 (by simp [St.setOb, hl]) fun κ' hκ => ?_
      rw [St.ob_setOb, St.ob_setOb, hl, ha κ' (by simp only [List.map_cons, List.mem_cons]; exact .inr hκ)]
    unfold St.adds
    have h5 : okK κ σ1.objs.length = true := by rw [hl]; exact h1
    rw [h5, ha κ (by simp), h2]
    exact h4

theorem unown_local {ob ob' : Nat → Option Ob} {c : C} (h : ∀ κ ∈ (unown ob c).1, ob' κ = ob κ) : unown ob' c = unown ob c := by
  cases c with
  | own κ =>
    have : ob' κ = ob κ := h κ (by
      simp only [unown]
      split <;> exact List.mem_singleton.2 rfl)
    simp only [unown, this]
  | _ => rfl
theorem unowns_local {ob ob' : Nat → Option Ob} : ∀ {cs : List C}, (∀ κ ∈ (unowns ob cs).1, ob' κ = ob κ) → unowns ob' cs = unowns ob cs
  | [], _ => rfl
  | c :: cs, h => by
    simp only [unowns]
    rw [unown_local (fun κ hκ => h κ (List.mem_append_left _ hκ)), unowns_local (fun κ hκ => h κ (List.mem_append_right _ hκ))]
theorem toArg_local {ob ob' : Nat → Option Ob} {p : PT} {v : AV} {acc : List Nat} {x : p.2.D} (h : toArg ob p v = some (acc, x)) (ha : ∀ κ ∈ acc, ob' κ = ob κ) : toArg ob' p v = some (acc, x) := by
  cases v with
  | tup _ => simp [toArg] at h
  | cp c =>
    simp only [toArg] at h ⊢
    split at h
    · rename_i cs h1 h2 h3
      split at h
      · rename_i y hy
        cases h
        rw [unowns_local ha, hy]
      · cases h
    · rename_i cs h1 h2 h3
      split at h
      · rename_i y hy
        cases h
        rw [unowns_local ha, hy]
      · cases h
    · cases h
theorem toArgs_local {ob ob' : Nat → Option Ob} : ∀ {sig : List PT} {vs : List AV} {acc : List Nat} {xs : DL sig}, toArgs ob sig vs = some (acc, xs) → (∀ κ ∈ acc, ob' κ = ob κ) → toArgs ob' sig vs = some (acc, xs)
  | [], [], _, _, h, _ => h
  | p :: sig, v :: vs, acc, xs, h, ha => by
    simp only [toArgs] at h ⊢
    split at h
    · rename_i k1 x k2 ys h1 h2
      cases h
      rw [toArg_local h1 (fun κ hκ => ha κ (List.mem_append_left _ hκ)), toArgs_local h2 (fun κ hκ => ha κ (List.mem_append_right _ hκ))]
    · cases h
  | [], _ :: _, _, _, h, _ => by simp [toArgs] at h
  | _ :: _, [], _, _, h, _ => by simp [toArgs] at h

section
variable {T : Tab} {Y : Tys} {E : Env}
theorem callOf_local {σ σ' : St} {op : Op} {f : FuncId} {con : Con} {args : List AV} (h : callOf E σ op = some (f, con, args)) (hρ : ∀ x ∈ op.operands.toList, σ'.ρ x = σ.ρ x) : callOf E σ' op = some (f, con, args) := by
  cases op with
  | call c =>
    obtain ⟨callee, cargs, at_⟩ := c
    cases callee with
    | value x =>
      simp only [callOf] at h ⊢
      rw [hρ x (by simp [Op.operands, Call.operands]), List.map_congr_left (fun y hy => hρ y (by simp [Op.operands, Call.operands]; exact .inr (by simpa using hy)))]
      exact h
    | _ => simp only [callOf] at h; cases h
  | _ => simp only [callOf] at h; cases h

theorem callOfB_local {σ σ' : St} {op : Op} {f : FuncId} {con : BCon} {κ : Nat} {args : List AV} (h : callOfB E σ op = some (f, con, κ, args)) (hρ : ∀ x ∈ op.operands.toList, σ'.ρ x = σ.ρ x) : callOfB E σ' op = some (f, con, κ, args) := by
  cases op with
  | call c =>
    obtain ⟨callee, cargs, at_⟩ := c
    cases callee with
    | value x =>
      simp only [callOfB] at h ⊢
      rw [hρ x (by simp [Op.operands, Call.operands]), List.map_congr_left (fun y hy => hρ y (by simp [Op.operands, Call.operands]; exact .inr (by simpa using hy)))]
      exact h
    | _ => simp only [callOfB] at h; cases h
  | _ => simp only [callOfB] at h; cases h
theorem setOb_setObs (σ : St) (κ : Nat) (o : Ob) (us : List (Nat × Ob)) : (σ.setOb κ (some o)).setObs us = σ.setObs ((κ, o) :: us) := rfl

/-- What an operation does depends on what it looks at alone; it writes some objects and its slot. -/
theorem pre_local {o : Oper} {σ σ1 : St} {v : AV} {F : Foot} (h : Pre T Y E o σ σ1 v F) (hg : F.glob = false) : ∃ us : List (Nat × Ob), us.map (·.1) = F.upd ∧ (∀ κ ∈ F.upd, κ ∈ F.acc) ∧ σ1 = σ.setObs us ∧
    ∀ σ' : St, σ'.tmps.length = σ.tmps.length → σ'.objs.length = σ.objs.length → (∀ x ∈ o.op.operands.toList, σ'.ρ x = σ.ρ x) → (∀ κ ∈ F.acc, σ'.ob κ = σ.ob κ) → Pre T Y E o σ' (σ'.setObs us) v F := by
  cases h with
  | val out ho hh => exact ⟨[], rfl, (fun κ hκ => (by cases hκ)), rfl, fun σ' _ _ h3 h4 => .val out (evV_local ho h3 h4) hh⟩
  | eff e he hh =>
    have hk : e.kill = none := by
      revert hg; cases e.kill <;> simp
    cases hu : e.upd with
    | none =>
      refine ⟨[], by simp [updKeys], fun κ hκ => by simp [updKeys] at hκ, by simp only [St.eff1, hk, hu]; rfl, fun σ' _ h2 h3 h4 => ?_⟩
      have := Pre.eff (E := E) (o := o) (σ := σ') e (evX_local h2 he h3 h4).1 hh
      rw [hu] at this
      have e1 : σ'.eff1 e = σ'.setObs [] := by simp only [St.eff1, hk, hu]; rfl
      rw [e1] at this
      exact this
    | some p =>
      obtain ⟨κ, o'⟩ := p
      have h0 := (evX_local (σ' := σ) rfl he (fun _ _ => rfl) (fun _ _ => rfl)).2 hk
      rw [hu] at h0
      refine ⟨[(κ, o')], by simp [updKeys], fun κ' hκ => (h0 κ' hκ).1, by simp only [St.eff1, hk, hu]; rfl, fun σ' _ h2 h3 h4 => ?_⟩
      have := Pre.eff (E := E) (o := o) (σ := σ') e (evX_local h2 he h3 h4).1 hh
      rw [hu] at this
      have e1 : σ'.eff1 e = σ'.setObs [(κ, o')] := by simp only [St.eff1, hk, hu]; rfl
      rw [e1] at this
      exact this
  | call f con args acc σ1' σ2 xs r v ns hc hpre hfn hpost =>
    have hpre0 : toArgs σ.ob con.sig args = some (acc, xs) ∧ σ1' = frzIf con.rs acc σ := by
      unfold callPre at hpre
      split at hpre
      · rename_i acc0 xs0 h1; cases hpre; exact ⟨h1, rfl⟩
      · cases hpre
    have hσ : ∀ τ : St, frzIf con.rs acc τ = τ := fun τ => by
      cases acc with
      | nil => rfl
      | cons a l =>
        have : con.rs.all RT.solid = true := by simpa using hg
        simp only [frzIf, this]
    have h1 : σ1' = σ := by rw [hpre0.2, hσ]
    subst h1
    unfold callPost at hpost
    split at hpost
    · rename_i cs ns0 hr
      split at hpost
      · rename_i σ3 ha
        cases hpost
        obtain ⟨k1, k2⟩ := adds_setObs ha
        refine ⟨ns, rfl, fun κ hκ => List.mem_append_right _ hκ, k1, fun σ' g1 g2 g3 g4 => ?_⟩
        refine .call f con args acc σ' _ xs r _ ns (callOf_local hc g3) ?_ hfn ?_
        · unfold callPre
          rw [toArgs_local hpre0.1 (fun κ hκ => g4 κ (List.mem_append_left _ hκ))]
          simp only [hσ]
        · unfold callPost
          rw [g1, hr]
          simp only
          rw [adds_local ha g2 (fun κ hκ => g4 κ (List.mem_append_right _ hκ))]
      · cases hpost
    · cases hpost
  | callb f con κ args acc σ2 x0 xs y r v ns hc hpre hfn hpost =>
    have hacc : acc = [] := by
      cases acc with
      | nil => rfl
      | cons _ _ => simp at hg
    subst hacc
    simp only [frzs] at hpost
    unfold callPostB at hpost
    split at hpost
    · rename_i cs ns0 hr
      split at hpost
      · rename_i σ3 ha
        cases hpost
        obtain ⟨k1, k2⟩ := adds_setObs ha
        refine ⟨(κ, .box (con.τ.cells y)) :: ns, rfl, fun κ' hκ => by simpa using hκ, k1, fun σ' g1 g2 g3 g4 => ?_⟩
        refine .callb f con κ args [] _ x0 xs y r _ ns (callOfB_local hc g3) ?_ hfn ?_
        · unfold callPreB at hpre ⊢
          rw [g4 κ (by simp)]
          split at hpre
          · rename_i cs2 hb
            split at hpre
            · rename_i k1 x1 k2 xs1 q1 q2
              obtain ⟨q3, q4, q5⟩ : k1 ++ k2 = [] ∧ x1 = x0 ∧ xs1 = xs := by simpa using hpre
              obtain ⟨rfl, rfl⟩ := List.append_eq_nil_iff.1 q3
              subst q4 q5
              simp only
              rw [toArg_local q1 (fun κ hκ => by cases hκ), toArgs_local q2 (fun κ hκ => by cases hκ)]
              rfl
            · cases hpre
          · cases hpre
        · unfold callPostB
          simp only [frzs]
          rw [g1, hr]
          simp only
          rw [adds_local ha (by simp [St.setOb, g2]) (fun κ' hκ => ?_)]
          · rfl
          · rw [St.ob_setOb, St.ob_setOb, g2, g4 κ' (by simp; exact .inr (by simpa using hκ))]
      · cases hpost
    · cases hpost
  | frz κs e he hh => cases hg
  | lift κs c σ2 hl hc e he hh => cases hg

def disj (F G : Foot) : Prop := F.glob = false ∧ G.glob = false ∧ (∀ κ ∈ F.upd, κ ∉ G.acc) ∧ (∀ κ ∈ G.upd, κ ∉ F.acc)

theorem ρ_put {σ : St} {d : Option Nat} {v : AV} {x : Operand} (h : ∀ e, d = some e → x ≠ .tmp e) : (σ.put d v).ρ x = σ.ρ x := by
  cases d with
  | none => rfl
  | some e =>
    cases x with
    | tmp t =>
      have hne : ¬ (e = t ∧ e < σ.tmps.length) := fun z => h e rfl (by rw [z.1])
      show (σ.put (some e) v).get t = σ.get t
      rw [St.get_put, if_neg hne]
    | _ => rfl
theorem ρ_setObs (σ : St) (us : List (Nat × Ob)) (x : Operand) : (σ.setObs us).ρ x = σ.ρ x := by cases x <;> rfl
theorem guardSt_same {all : List Oper} {σ σ' : St} {j : Nat} (h : ∀ o d, all[j]? = some o → o.dst = some d → σ'.get d = σ.get d) : guardSt all σ' j = guardSt all σ j := by
  unfold guardSt
  cases ho : all[j]? with
  | none => rfl
  | some o =>
    simp only
    cases hd : o.dst with
    | none => rfl
    | some d => simp only [h o d ho hd]

/-- One operation in a state that is the same in all that it looks at. -/
theorem step1_local {all : List Oper} {o : Oper} {σ σ1 : St} {F : Foot} (h : Step1 T Y E all o σ σ1 F) (hg : F.glob = false) : ∃ (us : List (Nat × Ob)) (v : AV), us.map (·.1) = F.upd ∧ (∀ κ ∈ F.upd, κ ∈ F.acc) ∧ σ1 = (σ.setObs us).put o.dst v ∧
    ∀ σ' : St, σ'.tmps.length = σ.tmps.length → σ'.objs.length = σ.objs.length → (∀ x, (∀ t, x = .tmp t → t ∈ o.looksAt all.toArray) → σ'.ρ x = σ.ρ x) → (∀ κ ∈ F.acc, σ'.ob κ = σ.ob κ) → Step1 T Y E all o σ' ((σ'.setObs us).put o.dst v) F := by
  have hgs : ∀ (σ' : St) (j : Nat) (b : Bool), o.guard = some (j, b) → (∀ x, (∀ t, x = .tmp t → t ∈ o.looksAt all.toArray) → σ'.ρ x = σ.ρ x) → guardSt all σ' j = guardSt all σ j := fun σ' j b hgd hl => by
    refine guardSt_same fun o' d ho hd => ?_
    have := hl (.tmp d) (fun t ht => by
      cases ht
      unfold Oper.looksAt
      rw [hgd]
      refine List.mem_append_right _ ?_
      simp [ho, hd])
    exact this
  have hops : ∀ (σ' : St), (∀ x, (∀ t, x = .tmp t → t ∈ o.looksAt all.toArray) → σ'.ρ x = σ.ρ x) → ∀ x ∈ o.op.operands.toList, σ'.ρ x = σ.ρ x := fun σ' hl x hx => hl x (fun t ht => by
    subst ht
    exact List.mem_append_left _ (List.mem_filterMap.2 ⟨.tmp t, hx, rfl⟩))
  cases h with
  | run hgd σ1 v v' F hp hv =>
    obtain ⟨us, h1, h2, rfl, h4⟩ := pre_local hp hg
    refine ⟨us, v', h1, h2, rfl, fun σ' k1 k2 k3 k4 => .run ?_ _ v v' F (h4 σ' k1 k2 (hops σ' k3) k4) hv⟩
    rcases hgd with hgd | ⟨j, b, hgd, hs⟩
    · exact .inl hgd
    · exact .inr ⟨j, b, hgd, by rw [hgs σ' j b hgd k3]; exact hs⟩
  | skip j b b' hgd hs hne =>
    exact ⟨[], .tup [], rfl, fun κ hκ => (by cases hκ), rfl, fun σ' k1 k2 k3 k4 => .skip j b b' hgd (by rw [hgs σ' j b hgd k3]; exact hs) hne⟩

theorem put_comm {σ : St} {d e : Option Nat} {v u : AV} (h : ∀ x, d = some x → e ≠ some x) : (σ.put d v).put e u = (σ.put e u).put d v := by
  cases d with
  | none => rfl
  | some x =>
    cases e with
    | none => rfl
    | some y =>
      have : x ≠ y := fun g => h x rfl (by rw [g])
      simp only [St.put]
      rw [List.set_comm _ _ this]

/-- Two operations that are apart change places. -/
theorem step1_comm {all : List Oper} {oi oj : Oper} {σ σi σij : St} {Fi Fj : Foot} (hi : Step1 T Y E all oi σ σi Fi) (hj : Step1 T Y E all oj σi σij Fj) (hap : oi.apart all.toArray oj = true) (hd : disj Fi Fj) :
    ∃ σj, Step1 T Y E all oj σ σj Fj ∧ Step1 T Y E all oi σj σij Fi := by
  obtain ⟨a1, a2, a3⟩ := Oper.apart_spec hap
  obtain ⟨us, v, u1, u2, rfl, u4⟩ := step1_local hi hd.1
  obtain ⟨ws, y, w1, w2, rfl, w4⟩ := step1_local hj hd.2.1
  have hputl : ∀ (σ : St) (us : List (Nat × Ob)) (d : Option Nat) (v : AV), ((σ.setObs us).put d v).tmps.length = σ.tmps.length ∧ ((σ.setObs us).put d v).objs.length = σ.objs.length := fun σ us d v => by
    cases d <;> simp [St.put, St.setObs, setsL_len]
  have hob : ∀ (σ : St) (us : List (Nat × Ob)) (d : Option Nat) (v : AV) (κ : Nat), κ ∉ us.map (·.1) → ((σ.setObs us).put d v).ob κ = σ.ob κ := fun σ us d v κ h => by
    rw [St.ob_put, ob_setObs _ _ _ h]
  have hj' := w4 σ (hputl σ us oi.dst v).1.symm (hputl σ us oi.dst v).2.symm (fun x hx => by
    rw [ρ_put (fun e he hxe => a1 e he (hx e hxe)), ρ_setObs]) (fun κ hκ => (hob σ us oi.dst v κ (fun h => hd.2.2.1 κ (u1 ▸ h) hκ)).symm)
  refine ⟨_, hj', ?_⟩
  have hi' := u4 ((σ.setObs ws).put oj.dst y) (hputl σ ws oj.dst y).1 (hputl σ ws oj.dst y).2 (fun x hx => by
    rw [ρ_put (fun e he hxe => a3 e he (hx e hxe)), ρ_setObs]) (fun κ hκ => hob σ ws oj.dst y κ (fun h => hd.2.2.2 κ (w1 ▸ h) hκ))
  have heq : (((σ.setObs ws).put oj.dst y).setObs us).put oi.dst v = (((σ.setObs us).put oi.dst v).setObs ws).put oj.dst y := by
    have e1 : ∀ (σ : St) (d : Option Nat) (v : AV) (us : List (Nat × Ob)), (σ.put d v).setObs us = (σ.setObs us).put d v := fun σ d v us => by cases d <;> rfl
    rw [e1, e1]
    rw [put_comm (d := oj.dst) (e := oi.dst) (fun x hx hx' => a2 x hx' hx)]
    congr 2
    exact congrArg (fun o => (⟨σ.tmps, o⟩ : St)) (setsL_comm ws us σ.objs (fun κ hκ hκ' => hd.2.2.1 κ (u1 ▸ hκ') (w2 κ (w1 ▸ hκ))))
  rw [heq] at hi'
  exact hi'
end
end Go.Rx
