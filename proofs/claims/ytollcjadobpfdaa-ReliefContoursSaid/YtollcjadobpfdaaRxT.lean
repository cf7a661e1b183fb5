/- Reflection, part T: regions that draw their order: operations that do not touch each other may change places. -/
import Derived.Test.YtollcjadobpfdaaRxS
namespace Go.Rx
set_option linter.unusedVariables false
set_option linter.unusedSimpArgs false
set_option linter.unusedSectionVars false
theorem adds_setObs : ∀ {ns : List (Nat × Ob)} {σ σ' : St}, σ.adds ns = some σ' → σ' = σ.setObs ns ∧ ∀ κ ∈ ns.map (·.1), κ < σ.objs.length
 | [], σ, σ', h => by simp only [St.adds] at h; cases h; exact ⟨rfl, fun κ hκ => by cases hκ⟩
 | (κ, o) :: ns, σ, σ', h => by
   obtain ⟨h1, h2, h3⟩ := adds_cons h
   obtain ⟨h4, h5⟩ := adds_setObs h3
   refine ⟨h4, fun κ' hκ => ?_⟩
   rcases List.mem_cons.1 hκ with rfl | hκ
   · exact okK_lt h1
   · have := h5 κ' hκ
     simpa [St.setOb] using this
theorem adds_local : ∀ {ns : List (Nat × Ob)} {σ σ1 σ' : St}, σ.adds ns = some σ' → σ1.objs.length = σ.objs.length → (∀ κ ∈ ns.map (·.1), σ1.ob κ = σ.ob κ) → σ1.adds ns = some (σ1.setObs ns)
 | [], σ, σ1, σ', h, hl, ha => rfl
 | (κ, o) :: ns, σ, σ1, σ', h, hl, ha => by
   obtain ⟨h1, h2, h3⟩ := adds_cons h
   have h4 : (σ1.setOb κ (some o)).adds ns = some ((σ1.setOb κ (some o)).setObs ns) := by
    refine adds_local h3 (by simp [St.setOb, hl]) fun κ' hκ => ?_
    rw [St.ob_setOb, St.ob_setOb, hl, ha κ' (by simp only [List.map_cons, List.mem_cons]; exact .inr hκ)]
   unfold St.adds
   have h5 : okK κ σ1.objs.length = true := by rw [hl]; exact h1
   rw [h5, ha κ (by simp), h2]
   exact h4
theorem unown_local {ob ob' : Nat → Option Ob} {c : C} (h : ∀ κ ∈ (unown ob c).1, ob' κ = ob κ) : unown ob' c = unown ob c := by
 cases c with
 | own κ =>
   have : ob' κ = ob κ := h κ (by
    simp only [unown]
    split <;> exact List.mem_singleton.2 rfl)
   simp only [unown, this]
 | _ => rfl
theorem unowns_local {ob ob' : Nat → Option Ob} : ∀ {cs : List C}, (∀ κ ∈ (unowns ob cs).1, ob' κ = ob κ) → unowns ob' cs = unowns ob cs
 | [], _ => rfl
 | c :: cs, h => by
   simp only [unowns]
   rw [unown_local (fun κ hκ => h κ (List.mem_append_left _ hκ)), unowns_local (fun κ hκ => h κ (List.mem_append_right _ hκ))]
theorem toArg_local {ob ob' : Nat → Option Ob} {p : PT} {v : AV} {acc : List Nat} {x : p.2.D} (h : toArg ob p v = some (acc, x)) (ha : ∀ κ ∈ acc, ob' κ = ob κ) : toArg ob' p v = some (acc, x) := by
 cases v with
 | tup _ => simp [toArg] at h
 | cp c =>
   simp only [toArg] at h ⊢
   split at h
   · rename_i cs h1 h2 h3
     split at h
     · rename_i y hy
       cases h
       rw [unowns_local ha, hy]
     · cases h
   · rename_i cs h1 h2 h3
     split at h
     · rename_i y hy
       cases h
       rw [unowns_local ha, hy]
     · cases h
   · cases h
theorem unownM_local {ob ob' : Nat → Option Ob} {c : C} (h : ∀ κ ∈ (unownM ob c).1, ob' κ = ob κ) : unownM ob' c = unownM ob c := by
 cases c with
 | mp κ =>
   have e : ob' κ = ob κ := by
    refine h κ ?_
    unfold unownM
    split
    · rename_i h1; cases h1
      split <;> exact List.mem_singleton.2 rfl
    · rename_i hne; exact absurd rfl (hne _)
   simp only [unownM, e]
 | _ => exact unown_local h
theorem unownsM_local {ob ob' : Nat → Option Ob} : ∀ {cs : List C}, (∀ κ ∈ (unownsM ob cs).1, ob' κ = ob κ) → unownsM ob' cs = unownsM ob cs
 | [], _ => rfl
 | c :: cs, h => by
   simp only [unownsM]
   rw [unownM_local (fun κ hκ => h κ (List.mem_append_left _ hκ)), unownsM_local (fun κ hκ => h κ (List.mem_append_right _ hκ))]
theorem capArg_local {ob ob' : Nat → Option Ob} : ∀ {e : Ty} {κs : List Nat} {acc : List Nat} {x : e.D}, capArg ob e κs = some (acc, x) → (∀ κ ∈ acc, ob' κ = ob κ) → capArg ob' e κs = some (acc, x) := fun {e} => by
 induction e with
 | ptr e _ =>
   intro κs acc x h ha
   match κs, h with
   | [κ], h =>
     simp only [capArg] at h
     split at h
     · rename_i cs ho
       split at h
       · rename_i y hy
         cases h
         simp only [capArg, ha κ (List.mem_cons_self ..), ho]
         rw [unownsM_local (fun κ hκ => ha κ (List.mem_cons_of_mem _ hκ)), hy]
       · cases h
     · rename_i e' x' ho
       have hk : κ ∈ acc := by
        revert h
        cases Ty.dec e' e with
        | isFalse _ => intro h; cases h
        | isTrue he => intro h; cases h; exact List.mem_cons_self ..
       simp only [capArg, ha κ hk, ho]
       exact h
     · cases h
   | [], h => simp [capArg] at h
   | _ :: _ :: _, h => simp [capArg] at h
 | pair a b _ ihb =>
   intro κs acc x h ha
   cases a with
   | ptr e =>
     match κs, h with
     | κ :: κs, h =>
       simp only [capArg] at h
       split at h
       · rename_i cs acc' r ho hr
         split at h
         · rename_i y hy
           cases h
           have hr' := ihb hr (fun κ hκ => ha κ (List.mem_cons_of_mem _ (List.mem_append_right _ hκ)))
           simp only [capArg, ha κ (List.mem_cons_self ..), ho, hr']
           rw [unownsM_local (fun κ hκ => ha κ (List.mem_cons_of_mem _ (List.mem_append_left _ hκ))), hy]
         · cases h
       · rename_i e' x' acc' r ho hr
         have hk : κ ∈ acc ∧ ∀ κ' ∈ acc', κ' ∈ acc := by
          revert h
          cases Ty.dec e' e with
          | isFalse _ => intro h; cases h
          | isTrue he => intro h; cases h; exact ⟨List.mem_cons_self .., fun κ' hκ => List.mem_cons_of_mem _ hκ⟩
         have hr' := ihb hr (fun κ hκ => ha κ (hk.2 κ hκ))
         simp only [capArg, ha κ hk.1, ho, hr']
         exact h
       · cases h
     | [], h => simp [capArg] at h
   | _ => simp [capArg] at h
 | _ => intro κs acc x h; simp [capArg] at h
theorem ptrArg_local {ob ob' : Nat → Option Ob} {e : Ty} {c : Cp} {acc : List Nat} {x : e.D} (h : ptrArg ob e c = some (acc, x)) (ha : ∀ κ ∈ acc, ob' κ = ob κ) : ptrArg ob' e c = some (acc, x) := by
 unfold ptrArg at h
 split at h
 · rename_i e κ
   split at h
   · rename_i cs ho
     split at h
     · rename_i y hy
       cases h
       simp only [ptrArg, ha κ (List.mem_cons_self ..), ho]
       rw [unowns_local (fun κ hκ => ha κ (List.mem_cons_of_mem _ hκ)), hy]
     · cases h
   · cases h
 · cases h
theorem mapArg_local {ob ob' : Nat → Option Ob} {e : Ty} {c : Cp} {acc : List Nat} {x : e.D} (h : mapArg ob e c = some (acc, x)) (ha : ∀ κ ∈ acc, ob' κ = ob κ) : mapArg ob' e c = some (acc, x) := by
 unfold mapArg at h ⊢
 split at h
 · rename_i K V κ
   split at h
   · rename_i K' V' l it ho
     have hk : κ ∈ acc := by
      revert h
      cases Ty.dec (.map K' V') (.map K V) with
      | isFalse _ => intro h; cases h
      | isTrue he => intro h; injection he with e1 e2; subst e1 e2; cases h; exact List.mem_cons_self ..
     simp only [ha κ hk, ho]
     exact h
   · cases h
 · rename_i f e g κs
   split at h
   · rename_i hg
     obtain ⟨⟨acc', y⟩, hy, e1⟩ := Option.map_eq_some_iff.1 h
     cases e1
     simp only [hg, capArg_local hy ha, Option.map_some]
   · cases h
 · exact ptrArg_local h ha
theorem unown_none {ob ob' : Nat → Option Ob} (h : ∀ κ, ob' κ = ob κ) : ob' = ob := funext h
theorem toArgP_local {ob ob' : Nat → Option Ob} {p : PT} {v : AV} {acc : List Nat} {x : p.2.D} (h : toArgP ob p v = some (acc, x)) (ha : ∀ κ ∈ acc, ob' κ = ob κ) : toArgP ob' p v = some (acc, x) := by
 unfold toArgP at h ⊢
 split at h
 · rename_i r hr
   cases h
   rw [toArg_local hr ha]
 · split at h
   · rename_i c hp1 _
     have hn : toArg ob' p (.cp c) = none := by
      obtain ⟨p1, p2⟩ := p
      simp only at hp1 h x
      subst hp1
      unfold mapArg at h
      split at h
      · simp only [toArg, isAggCp, cpCells, unowns, unown, Ty.of]
      · simp only [toArg, isAggCp, cpCells, unowns, unown, Ty.of]
      · unfold ptrArg at h
        split at h
        · simp only [toArg, isAggCp, cpCells, unowns, unown, Ty.of]
        · cases h
     rw [hn]
     simp only [hp1]
     exact mapArg_local h ha
   · cases h
theorem isVecK_local {ob ob' : Nat → Option Ob} {acc : List Nat} (ha : ∀ κ ∈ acc, ob' κ = ob κ) : acc.all (isVecK ob') = acc.all (isVecK ob) := by
 induction acc with
 | nil => rfl
 | cons κ r ih =>
   simp only [List.all_cons]
   rw [ih (fun κ' hκ => ha κ' (List.mem_cons_of_mem _ hκ))]
   unfold isVecK
   rw [ha κ (List.mem_cons_self ..)]
theorem toArgs_local {ob ob' : Nat → Option Ob} : ∀ {sig : List PT} {vs : List AV} {acc : List Nat} {xs : DL sig}, toArgs ob sig vs = some (acc, xs) → (∀ κ ∈ acc, ob' κ = ob κ) → toArgs ob' sig vs = some (acc, xs)
 | [], [], _, _, h, _ => h
 | p :: sig, v :: vs, acc, xs, h, ha => by
   simp only [toArgs] at h ⊢
   split at h
   · rename_i k1 x k2 ys h1 h2
     cases h
     rw [toArgP_local h1 (fun κ hκ => ha κ (List.mem_append_left _ hκ)), toArgs_local h2 (fun κ hκ => ha κ (List.mem_append_right _ hκ))]
   · cases h
 | [], _ :: _, _, _, h, _ => by simp [toArgs] at h
 | _ :: _, [], _, _, h, _ => by simp [toArgs] at h
section
variable {T : Tab} {Y : Tys} {E : Env}
theorem callOf_local {σ σ' : St} {op : Op} {f : FuncId} {con : Con} {args : List AV} (h : callOf E σ op = some (f, con, args)) (hρ : ∀ x ∈ op.operands.toList, σ'.ρ x = σ.ρ x) : callOf E σ' op = some (f, con, args) := by
 cases op with
 | call c =>
   obtain ⟨callee, cargs, at_⟩ := c
   cases callee with
   | value x =>
     simp only [callOf] at h ⊢
     rw [hρ x (by simp [Op.operands, Call.operands]), List.map_congr_left (fun y hy => hρ y (by simp [Op.operands, Call.operands]; exact .inr (by simpa using hy)))]
     exact h
   | _ => simp only [callOf] at h; cases h
 | _ => simp only [callOf] at h; cases h
theorem callOfB_local {σ σ' : St} {op : Op} {f : FuncId} {con : BCon} {κ : Nat} {args : List AV} (h : callOfB E σ op = some (f, con, κ, args)) (hρ : ∀ x ∈ op.operands.toList, σ'.ρ x = σ.ρ x) : callOfB E σ' op = some (f, con, κ, args) := by
 cases op with
 | call c =>
   obtain ⟨callee, cargs, at_⟩ := c
   cases callee with
   | value x =>
     simp only [callOfB] at h ⊢
     rw [hρ x (by simp [Op.operands, Call.operands]), List.map_congr_left (fun y hy => hρ y (by simp [Op.operands, Call.operands]; exact .inr (by simpa using hy)))]
     exact h
   | _ => simp only [callOfB] at h; cases h
 | _ => simp only [callOfB] at h; cases h
theorem setsL_same : ∀ (us : List (Nat × Ob)) (l m : List (Option Ob)), l.length = m.length → ∀ κ, l.getD κ none = m.getD κ none → (setsL l us).getD κ none = (setsL m us).getD κ none
 | [], l, m, _, κ, h => h
 | (κ', o) :: us, l, m, hl, κ, h => by
   show (setsL (l.set κ' (some o)) us).getD κ none = (setsL (m.set κ' (some o)) us).getD κ none
   refine setsL_same us _ _ (by simpa using hl) κ ?_
   rw [getD_set_list, getD_set_list, hl, h]
theorem takeF_local {ob ob' : Nat → Option Ob} : ∀ {ks : List Nat} {fs : List LF} {cs : List C} {x : LFD fs}, takeF ob ks fs cs = some ([], x) → takeF ob' ks fs cs = some ([], x)
 | ks, [], [], x, h => by simpa [takeF] using h
 | ks, [], _ :: _, x, h => by simp [takeF] at h
 | ks, .d τ :: r, cs, x, h => by
   simp only [takeF] at h ⊢
   split at h
   · rename_i x1 a1 y1 h1 h2
     have q1 : (unowns ob (cs.take τ.n)).1 ++ a1 = [] := congrArg (fun z => z.1) (Option.some.inj h)
     have q2 : ((x1, y1) : LFD (.d τ :: r)) = x := congrArg (fun z => z.2) (Option.some.inj h)
     obtain ⟨q3, rfl⟩ := List.append_eq_nil_iff.1 q1
     have e := unowns_local (ob := ob) (ob' := ob') (cs := cs.take τ.n) (fun κ hκ => by rw [q3] at hκ; cases hκ)
     rw [e, h1, takeF_local h2, ← q2, q3]
     rfl
   · cases h
 | k :: ks, .o :: r, c :: cs, x, h => by
   cases c with
   | own κ =>
     simp only [takeF] at h ⊢
     split at h
     · exact takeF_local (fs := r) h
     · cases h
   | _ => simp [takeF] at h
 | [], .o :: r, _, x, h => by simp [takeF] at h
 | _ :: _, .o :: r, [], x, h => by simp [takeF] at h
theorem takeO_local {ob ob' : Nat → Option Ob} {ks : List Nat} {κ : Nat} {o : LO} {x : o.D} (h : takeO ob ks κ o = some ([], x)) (ha : ob' κ = ob κ) : takeO ob' ks κ o = some ([], x) := by
 cases o with
 | box fs =>
   cases ho : ob κ with
   | none => simp only [takeO, ho] at h; exact absurd h (by simp)
   | some o1 =>
     cases o1 with
     | box cs => simp only [takeO, ha, ho] at h ⊢; exact takeF_local h
     | _ => simp only [takeO, ho] at h; exact absurd h (by simp)
 | row e => simp only [takeO, ha] at h ⊢; exact h
 | rows e => simp only [takeO, ha] at h ⊢; exact h
 | map K V => simp only [takeO, ha] at h ⊢; exact h
theorem takeL_local {ob ob' : Nat → Option Ob} {ks : List Nat} : ∀ {κs : List Nat} {ls : List LO} {x : LOD ls}, takeL ob ks κs ls = some ([], x) → (∀ κ ∈ κs, ob' κ = ob κ) → takeL ob' ks κs ls = some ([], x)
 | [], [], x, h, _ => h
 | κ :: κs, o :: ls, x, h, ha => by
   simp only [takeL] at h ⊢
   split at h
   · rename_i a x1 b y1 h1 h2
     have q1 : a ++ b = [] := congrArg (fun z => z.1) (Option.some.inj h)
     have q2 : ((x1, y1) : LOD (o :: ls)) = x := congrArg (fun z => z.2) (Option.some.inj h)
     obtain ⟨rfl, rfl⟩ := List.append_eq_nil_iff.1 q1
     rw [takeO_local h1 (ha κ (List.mem_cons_self ..)), takeL_local h2 (fun κ' hκ => ha κ' (List.mem_cons_of_mem _ hκ)), ← q2]
     rfl
   · cases h
 | [], _ :: _, _, h, _ => by simp [takeL] at h
 | _ :: _, [], _, h, _ => by simp [takeL] at h
theorem setOb_setObs (σ : St) (κ : Nat) (o : Ob) (us : List (Nat × Ob)) : (σ.setOb κ (some o)).setObs us = σ.setObs ((κ, o) :: us) := rfl
theorem killA_id {κ : Nat} {v : AV} (h : κ ∉ v.refs) : killA κ v = v := by
 have hc : ∀ c : C, κ ∉ c.refs → killC κ c = c := fun c hc => by
  unfold killC
  rw [if_neg (by simpa using hc)]
 have hp : ∀ x : Cp, κ ∉ x.refs → killCp κ x = x := fun x hx => by
  cases x with
  | one c => simp only [killCp]; rw [hc c hx]
  | agg cs =>
    simp only [killCp]
    congr 1
    exact (List.map_congr_left fun c hcm => hc c (fun z => hx (List.mem_flatMap.2 ⟨c, hcm, z⟩))).trans (List.map_id' cs)
 cases v with
 | cp x => simp only [killA]; rw [hp x h]
 | tup vs =>
   simp only [killA]
   congr 1
   exact (List.map_congr_left fun x hx => hp x (fun z => h (List.mem_flatMap.2 ⟨x, hx, z⟩))).trans (List.map_id' vs)
theorem noBox_ob {σ : St} {κ κ' : Nat} {o : Ob} (h : noBox σ κ = true) (ho : σ.ob κ' = some o) : κ ∉ o.refs := by
 unfold noBox at h
 unfold St.ob at ho
 rw [List.getD_eq_getElem?_getD] at ho
 cases hx : σ.objs[κ']? with
 | none => rw [hx] at ho; cases ho
 | some o1 =>
   rw [hx] at ho
   simp only [Option.getD_some] at ho
   subst ho
   have := List.all_eq_true.1 h _ (List.mem_of_getElem? hx)
   simpa using this
theorem kill_ob {σ : St} {κ : Nat} (h : noBox σ κ = true) (κ' : Nat) : (σ.kill κ).ob κ' = σ.ob κ' := by
 rw [ob_kill]
 cases ho : σ.ob κ' with
 | none => rfl
 | some o =>
   cases o with
   | box cs =>
     simp only [killO]
     congr 2
     have hn := noBox_ob h ho
     refine (List.map_congr_left fun c hc => ?_).trans (List.map_id' cs)
     unfold killC
     rw [if_neg]
     intro z
     exact hn (List.mem_flatMap.2 ⟨c, hc, by simpa using z⟩)
   | map K V l it =>
     have hn := noBox_ob h ho
     cases it with
     | none => rfl
     | some p =>
       obtain ⟨d, L⟩ := p
       have hd : d.beq κ = false := by
        cases hb : d.beq κ with
        | false => rfl
        | true =>
          have := Nat.eq_of_beq_eq_true hb
          subst this
          exact absurd (List.mem_singleton.2 rfl) hn
       simp only [killO, hd]
   | _ => rfl
theorem kill_ρ {σ : St} {κ : Nat} {x : Operand} (h : ∀ t, x = .tmp t → κ ∉ (σ.get t).refs) : (σ.kill κ).ρ x = σ.ρ x := by
 cases x with
 | tmp t => exact (get_kill κ t).trans (killA_id (h t rfl))
 | _ => rfl
theorem kill_put {σ : St} {κ : Nat} {d : Option Nat} {v : AV} (h : κ ∉ v.refs) : (σ.put d v).kill κ = (σ.kill κ).put d v := by
 cases d with
 | none => rfl
 | some d => simp only [St.put, St.kill, List.map_set, killA_id h]
theorem noBox_put {σ : St} {κ : Nat} {d : Option Nat} {v : AV} : noBox (σ.put d v) κ = noBox σ κ := by cases d <;> rfl
theorem killK_len (σ : St) (kl : Option Nat) : (σ.killK kl).tmps.length = σ.tmps.length ∧ (σ.killK kl).objs.length = σ.objs.length := by
 cases kl with
 | none => exact ⟨rfl, rfl⟩
 | some κ => simp [St.killK, St.kill]
theorem pre_local {o : Oper} {σ σ1 : St} {v : AV} {F : Foot} (h : Pre T Y E o σ σ1 v F) (hg : F.glob = false) : ∃ us : List (Nat × Ob), us.map (·.1) = F.upd ∧ (∀ κ ∈ F.upd, κ ∈ F.acc) ∧ σ1 = (σ.killK F.kl).setObs us ∧ Free σ F.kl F.rs ∧
 ∀ σ' : St, σ'.tmps.length = σ.tmps.length → σ'.objs.length = σ.objs.length → (∀ x ∈ o.op.operands.toList, σ'.ρ x = σ.ρ x) → (∀ κ ∈ F.acc, σ'.ob κ = σ.ob κ) → Free σ' F.kl F.rs → Pre T Y E o σ' ((σ'.killK F.kl).setObs us) v F := by
 cases h with
 | val out ho hh => exact ⟨[], rfl, (fun κ hκ => (by cases hκ)), rfl, (fun κ hκ => (by cases hκ)), fun σ' _ _ h3 h4 _ => .val out (evV_local ho h3 h4) hh⟩
 | eff e he hh g S hg0 =>
   have hfree := hg0 hg
   have hupd := (evX_local (σ' := σ) rfl he (fun _ _ => rfl) (fun _ _ => rfl)).2 trivial
   have heff : ∀ τ : St, τ.eff1 e = (τ.killK e.kill).setObs (match e.upd with | some p => [p] | none => []) := fun τ => by
    unfold St.eff1 St.killK
    cases e.kill <;> cases e.upd <;> rfl
   refine ⟨match e.upd with | some p => [p] | none => [], ?_, fun κ hκ => (hupd κ hκ).1, heff σ, hfree, fun σ' _ h2 h3 h4 h5 => ?_⟩
   · cases e.upd <;> rfl
   · have := Pre.eff (E := E) (o := o) (σ := σ') e (evX_local h2 he h3 h4).1 hh g S (fun _ => h5)
     rw [heff σ'] at this
     exact this
 | call f con args acc σ1' σ2 xs r v ns hc hpre hfn hpost =>
   have hpre0 : toArgs σ.ob con.sig args = some (acc, xs) ∧ σ1' = frzIf con.rs acc σ ∧ (acc.all (isVecK σ.ob) || con.rs.all RT.solid) = true := by
    unfold callPre at hpre
    split at hpre
    · rename_i acc0 xs0 h1
      split at hpre
      · rename_i h2; cases hpre; exact ⟨h1, rfl, h2⟩
      · cases hpre
    · cases hpre
   have hσ : ∀ τ : St, frzIf con.rs acc τ = τ := fun τ => by
    cases acc with
    | nil => rfl
    | cons a l =>
      have : con.rs.all RT.solid = true := by simpa using hg
      simp only [frzIf, this]
   have h1 : σ1' = σ := by rw [hpre0.2.1, hσ]
   subst h1
   unfold callPost at hpost
   split at hpost
   · rename_i cs ns0 hr
     split at hpost
     · rename_i σ3 ha
       cases hpost
       obtain ⟨k1, k2⟩ := adds_setObs ha
       refine ⟨ns, rfl, fun κ hκ => List.mem_append_right _ hκ, k1, (fun κ hκ => (by cases hκ)), fun σ' g1 g2 g3 g4 _ => ?_⟩
       refine .call f con args acc σ' _ xs r _ ns (callOf_local hc g3) ?_ hfn ?_
       · unfold callPre
         rw [toArgs_local hpre0.1 (fun κ hκ => g4 κ (List.mem_append_left _ hκ))]
         simp only [hσ, isVecK_local (fun κ hκ => g4 κ (List.mem_append_left _ hκ)), hpre0.2.2]
       · unfold callPost
         rw [g1, hr]
         simp only
         rw [adds_local ha g2 (fun κ hκ => g4 κ (List.mem_append_right _ hκ))]
         rfl
     · cases hpost
   · cases hpost
 | callb f con κ args acc ks σ2 x0 xs y r v ns hc hpre hfn hpost =>
   have hg2 : acc = [] ∧ con.pin = true := by
    cases acc with
    | nil => exact ⟨rfl, by simpa using hg⟩
    | cons _ _ => simp at hg
   obtain ⟨hacc, hpin⟩ := hg2
   subst hacc
   simp only [frzs] at hpost
   have hlen : (κ :: ks).length = con.ls.length ∧ rowKeys σ.ob κ con.ls = ks := by
    unfold callPreB at hpre
    split at hpre
    · rename_i k1 x1 k2 xs1 q1 q2
      split at hpre
      · obtain ⟨_, q4, _⟩ : k1 ++ k2 = [] ∧ rowKeys σ.ob κ con.ls = ks ∧ x1 = x0 ∧ xs1 = xs := by simpa using hpre
        exact ⟨q4 ▸ takeL_len q1, q4⟩
      · cases hpre
    · cases hpre
   have hlo : loose con.pin con.ls κ ks = [] := by rw [hpin]; rfl
   unfold callPostB at hpost
   rw [hlo] at hpost
   split at hpost
   · rename_i cs ns0 hr _
     simp only [kills] at hpost
     split at hpost
     · rename_i σ3 ha
       cases hpost
       obtain ⟨k1, k2⟩ := adds_setObs ha
       refine ⟨obsL ks (κ :: ks) con.ls y ++ ns, by rw [List.map_append, obsL_keys y hlen.1]; rfl, fun κ' hκ => by
        simp only [List.mem_cons, List.mem_append, List.nil_append] at hκ ⊢; exact hκ, by rw [k1]; simp only [St.killK, St.setObs, setsL, List.foldl_append], (fun κ hκ => (by cases hκ)), fun σ' g1 g2 g3 g4 _ => ?_⟩
       refine .callb f con κ args [] ks _ x0 xs y r _ ns (callOfB_local hc g3) ?_ hfn ?_
       · unfold callPreB at hpre ⊢
         have hrow : rowKeys σ'.ob κ con.ls = rowKeys σ.ob κ con.ls := by
          unfold rowKeys
          rw [g4 κ (by simp)]
         rw [hrow]
         split at hpre
         · rename_i k1 x1 k2 xs1 q1 q2
           split at hpre
           · rename_i q6
             obtain ⟨q3, q4, q5, q7⟩ : k1 ++ k2 = [] ∧ rowKeys σ.ob κ con.ls = ks ∧ x1 = x0 ∧ xs1 = xs := by simpa using hpre
             obtain ⟨rfl, rfl⟩ := List.append_eq_nil_iff.1 q3
             subst q5 q7
             rw [takeL_local q1 (fun κ1 hκ1 => g4 κ1 (by
              rw [q4] at hκ1
              rcases List.mem_cons.1 hκ1 with e | e
              · rw [e]; exact List.mem_cons_self ..
              · exact List.mem_cons_of_mem _ (List.mem_append_left _ e))), toArgs_local q2 (fun κ hκ => by cases hκ)]
             simp only
             rw [show ([] : List Nat).all (isVecK σ'.ob) = ([] : List Nat).all (isVecK σ.ob) from rfl, q6, q4]
             rfl
           · cases hpre
         · cases hpre
       · unfold callPostB
         rw [hlo]
         simp only [frzs, kills, List.all_nil]
         rw [g1, hr]
         simp only
         rw [adds_local ha (by simp [St.setObs, setsL_len, g2]) (fun κ' hκ => ?_)]
         · simp only [St.killK, St.setObs, setsL, List.foldl_append]
         · by_cases g : κ' ∈ (obsL ks (κ :: ks) con.ls y).map (·.1)
           · obtain ⟨⟨q1, q2⟩, q3, q4⟩ := List.mem_map.1 g
             simp only at q4
             subst q4
             show (setsL σ'.objs _).getD q1 none = (setsL σ.objs _).getD q1 none
             exact setsL_same (obsL ks (κ :: ks) con.ls y) σ'.objs σ.objs g2 q1 (g4 q1 (by simp only [List.mem_cons, List.mem_append]; exact .inr (.inr (.inr hκ))))
           · rw [ob_setObs _ _ _ g, ob_setObs _ _ _ g]
             exact g4 κ' (by simp only [List.mem_cons, List.mem_append]; exact .inr (.inr (.inr hκ)))
     · cases hpost
   · cases hpost
 | frz κs e he hh => cases hg
 | row cs σ2 v he hh =>
   obtain ⟨dst, op, ty, pos, after, guard⟩ := o
   simp only at he hg ⊢
   cases op with
   | load t p =>
     have he0 := he
     simp only [rowOp] at he
     split at he
     · rename_i κ sz j off d i hp hi
       split at he
       · rename_i el0 e ll hd ho hod hc
         cases he
         have hF : rowFoot σ (some d) (.load t p) = ft [κ, d] [κ, d] false := by simp only [rowFoot, hp]
         rw [hF]
         refine ⟨[(κ, .rows e ll (some j)), (d, .vec e (ll.getD j []))], rfl, fun _ h => h, rfl, (fun κ hκ => (by cases hκ)), fun σ' g1 g2 g3 g4 _ => ?_⟩
         have hp' : σ'.ρ p = σ.ρ p := g3 p (by simp [Op.operands])
         have e1 : σ'.ob κ = σ.ob κ := g4 κ (by simp)
         have e2 : σ'.ob d = σ.ob d := g4 d (by simp)
         have := Pre.row (T := T) (Y := Y) (E := E) (o := ⟨some d, .load t p, ty, pos, after, guard⟩) (σ := σ') [] ((σ'.setOb κ (some (.rows e ll (some j)))).setOb d (some (.vec e (ll.getD j [])))) (oneA (.own d)) (by
          simp only [rowOp, hp', hp, hi, hd, e1, e2, ho, hod, g2, hc]) hh
         have hF' : rowFoot σ' (some d) (.load t p) = ft [κ, d] [κ, d] false := by simp only [rowFoot, hp', hp]
         simp only at this
         rw [hF'] at this
         exact this
       · cases he
     · cases he
   | store t p x => cases hg
   | range t x => cases hg
   | _ => simp only [rowOp] at he; cases he
 | lift κs c σ2 hl hc e he hh => cases hg
def kok (F G : Foot) : Prop := ∀ κ, F.kl = some κ → G.kl = none ∧ κ ∉ G.ur ∧ κ ∉ G.vr ∧ ∀ t ∈ F.rs, t ∉ G.os
def disj (F G : Foot) : Prop := F.glob = false ∧ G.glob = false ∧ (∀ κ ∈ F.upd, κ ∉ G.acc) ∧ (∀ κ ∈ G.upd, κ ∉ F.acc) ∧ kok F G ∧ kok G F
theorem ρ_put {σ : St} {d : Option Nat} {v : AV} {x : Operand} (h : ∀ e, d = some e → x ≠ .tmp e) : (σ.put d v).ρ x = σ.ρ x := by
 cases d with
 | none => rfl
 | some e =>
   cases x with
   | tmp t =>
     have hne : ¬ (e = t ∧ e < σ.tmps.length) := fun z => h e rfl (by rw [z.1])
     show (σ.put (some e) v).get t = σ.get t
     rw [St.get_put, if_neg hne]
   | _ => rfl
theorem ρ_setObs (σ : St) (us : List (Nat × Ob)) (x : Operand) : (σ.setObs us).ρ x = σ.ρ x := by cases x <;> rfl
theorem guardSt_same {all : List Oper} {σ σ' : St} {j : Nat} (h : ∀ o d, all[j]? = some o → o.dst = some d → σ'.get d = σ.get d) : guardSt all σ' j = guardSt all σ j := by
 unfold guardSt
 cases ho : all[j]? with
 | none => rfl
 | some o =>
   simp only
   cases hd : o.dst with
   | none => rfl
   | some d => simp only [h o d ho hd]
theorem setsL_key : ∀ (us : List (Nat × Ob)) (l m : List (Option Ob)), l.length = m.length → ∀ κ, κ ∈ us.map (·.1) → (setsL l us).getD κ none = (setsL m us).getD κ none
 | [], _, _, _, κ, h => by cases h
 | (κ', o) :: us, l, m, hl, κ, h => by
   show (setsL (l.set κ' (some o)) us).getD κ none = (setsL (m.set κ' (some o)) us).getD κ none
   by_cases g : κ ∈ us.map (·.1)
   · exact setsL_key us _ _ (by simpa using hl) κ g
   · have e : κ = κ' := by
      rcases List.mem_cons.1 (show κ ∈ κ' :: us.map (·.1) from h) with e | e
      · exact e
      · exact absurd e g
     subst e
     refine setsL_same us _ _ (by simpa using hl) κ ?_
     rw [getD_set_list, getD_set_list, hl]
     by_cases c : κ < m.length
     · rw [if_pos ⟨rfl, c⟩, if_pos ⟨rfl, c⟩]
     · rw [if_neg (fun z => c z.2), if_neg (fun z => c z.2), List.getD_eq_getElem?_getD, List.getD_eq_getElem?_getD, List.getElem?_eq_none (by omega), List.getElem?_eq_none (by omega)]
theorem killO_id {κ : Nat} {o : Ob} (h : κ ∉ o.refs) : killO κ (some o) = some o := by
 have hσ : noBox ⟨[], [some o]⟩ κ = true := by simpa [noBox] using h
 have := kill_ob hσ 0
 simpa [St.kill, St.ob] using this
theorem noBoxI {σ : St} {κ : Nat} : noBox σ κ = true ↔ ∀ q o, σ.ob q = some o → κ ∉ o.refs := by
 unfold noBox
 rw [List.all_eq_true]
 constructor
 · intro h q o ho
   have hq := ob_lt' (σ := σ) (κ := q) (by rw [ho]; simp)
   have hm : σ.objs[q] = some o := by
    unfold St.ob at ho
    rw [List.getD_eq_getElem?_getD, List.getElem?_eq_getElem hq] at ho
    simpa using ho
   have := h _ (List.getElem_mem hq)
   rw [hm] at this
   simpa using this
 · intro h x hx
   obtain ⟨q, hq, rfl⟩ := List.getElem_of_mem hx
   cases hm : σ.objs[q] with
   | none => rfl
   | some o =>
     have := h q o (by unfold St.ob; rw [List.getD_eq_getElem?_getD, List.getElem?_eq_getElem hq, hm]; rfl)
     simpa using this
theorem noBox_setObs {σ : St} {κ : Nat} {us : List (Nat × Ob)} (h : noBox σ κ = true) (hu : ∀ q ∈ us.map (·.1), ∀ o, (σ.setObs us).ob q = some o → κ ∉ o.refs) : noBox (σ.setObs us) κ = true :=
 noBoxI.2 fun q o ho => by
  by_cases c : q ∈ us.map (·.1)
  · exact hu q c o ho
  · rw [ob_setObs _ _ _ c] at ho; exact noBoxI.1 h q o ho
theorem noBox_back {σ : St} {κ : Nat} {us : List (Nat × Ob)} (h : noBox (σ.setObs us) κ = true) (hu : ∀ q ∈ us.map (·.1), ∀ o, σ.ob q = some o → κ ∉ o.refs) : noBox σ κ = true :=
 noBoxI.2 fun q o ho => by
  by_cases c : q ∈ us.map (·.1)
  · exact hu q c o ho
  · rw [← ob_setObs σ us q c] at ho; exact noBoxI.1 h q o ho
theorem kill_setObs {σ : St} {κ : Nat} {us : List (Nat × Ob)} (hu : ∀ q ∈ us.map (·.1), ∀ o, (σ.setObs us).ob q = some o → κ ∉ o.refs) : (σ.setObs us).kill κ = (σ.kill κ).setObs us := by
 have e : (setsL σ.objs us).map (killO κ) = setsL (σ.objs.map (killO κ)) us := by
  have hl : ((setsL σ.objs us).map (killO κ)).length = (setsL (σ.objs.map (killO κ)) us).length := by simp [setsL_len]
  refine List.ext_getElem hl fun q h1 h2 => ?_
  have hq : q < (setsL σ.objs us).length := by simpa using h1
  have g1 : ((setsL σ.objs us).map (killO κ)).getD q none = (setsL (σ.objs.map (killO κ)) us).getD q none := by
   have e0 : ∀ l : List (Option Ob), (l.map (killO κ)).getD q none = killO κ (l.getD q none) := fun l => by
    rw [List.getD_eq_getElem?_getD, List.getD_eq_getElem?_getD, List.getElem?_map]
    cases l[q]? <;> rfl
   rw [e0]
   by_cases c : q ∈ us.map (·.1)
   · rw [setsL_key us (σ.objs.map (killO κ)) σ.objs (by simp) q c]
     cases ho : (setsL σ.objs us).getD q none with
     | none => rfl
     | some o => exact killO_id (hu q c o ho)
   · rw [setsL_get us _ q c, setsL_get us _ q c, e0]
  rw [List.getD_eq_getElem?_getD, List.getD_eq_getElem?_getD, List.getElem?_eq_getElem h1, List.getElem?_eq_getElem h2] at g1
  exact g1
 exact congrArg (fun o => (⟨σ.tmps.map (killA κ), o⟩ : St)) e
theorem step1_local {all : List Oper} {o : Oper} {σ σ1 : St} {F : Foot} (h : Step1 T Y E all o σ σ1 F) (hg : F.glob = false) : ∃ (us : List (Nat × Ob)) (v : AV), us.map (·.1) = F.upd ∧ (∀ κ ∈ F.upd, κ ∈ F.acc) ∧ σ1 = ((σ.killK F.kl).setObs us).put o.dst v ∧ Free σ F.kl F.rs ∧ (∀ κ ∈ oldR σ o.dst, κ ∈ F.vr) ∧ (∀ κ ∈ v.refs, κ ∈ F.vr) ∧ (∀ t ∈ o.looksAt all.toArray ++ dstL o.dst, t ∈ F.os) ∧ (∀ κ ∈ F.upd, ∀ o, σ.ob κ = some o ∨ ((σ.killK F.kl).setObs us).ob κ = some o → ∀ r ∈ o.refs, r ∈ F.ur) ∧
 ∀ σ' : St, σ'.tmps.length = σ.tmps.length → σ'.objs.length = σ.objs.length → (∀ x, (∀ t, x = .tmp t → t ∈ o.looksAt all.toArray) → σ'.ρ x = σ.ρ x) → (∀ κ ∈ F.acc, σ'.ob κ = σ.ob κ) → Free σ' F.kl F.rs → (∀ κ ∈ oldR σ' o.dst, κ ∈ F.vr) → Step1 T Y E all o σ' (((σ'.killK F.kl).setObs us).put o.dst v) F := by
 have hgs : ∀ (σ' : St) (j : Nat) (b : Bool), o.guard = some (j, b) → (∀ x, (∀ t, x = .tmp t → t ∈ o.looksAt all.toArray) → σ'.ρ x = σ.ρ x) → guardSt all σ' j = guardSt all σ j := fun σ' j b hgd hl => by
  refine guardSt_same fun o' d ho hd => ?_
  have := hl (.tmp d) (fun t ht => by
   cases ht
   unfold Oper.looksAt
   rw [hgd]
   refine List.mem_append_right _ ?_
   simp [ho, hd])
  exact this
 have hops : ∀ (σ' : St), (∀ x, (∀ t, x = .tmp t → t ∈ o.looksAt all.toArray) → σ'.ρ x = σ.ρ x) → ∀ x ∈ o.op.operands.toList, σ'.ρ x = σ.ρ x := fun σ' hl x hx => hl x (fun t ht => by
  subst ht
  exact List.mem_append_left _ (List.mem_filterMap.2 ⟨.tmp t, hx, rfl⟩))
 cases h with
 | run hgd σ1 v v' F hp hv V S hV hS U hU =>
   obtain ⟨us, h1, h2, rfl, h3, h4⟩ := pre_local hp hg
   refine ⟨us, v', h1, h2, rfl, h3, hV.1, hV.2, hS, hU, fun σ' k1 k2 k3 k4 k5 k6 => .run ?_ _ v v' F (h4 σ' k1 k2 (hops σ' k3) k4 k5) hv V S ⟨k6, hV.2⟩ hS U (fun κ hκ o ho => hU κ hκ o ?_)⟩
   rotate_left
   · rcases ho with ho | ho
     · exact .inl (by rw [← k4 κ (h2 κ hκ)]; exact ho)
     · refine .inr ?_
       rw [← ho]
       refine (setsL_key us _ _ ?_ κ (by rw [h1]; exact hκ)).symm
       have e1 := (killK_len σ' F.kl).2
       have e2 := (killK_len σ F.kl).2
       omega
   rcases hgd with hgd | ⟨j, b, hgd, hs⟩
   · exact .inl hgd
   · exact .inr ⟨j, b, hgd, by rw [hgs σ' j b hgd k3]; exact hs⟩
 | skip j b b' hgd hs hne V S hV hS =>
   exact ⟨[], .tup [], rfl, fun κ hκ => (by cases hκ), rfl, (fun κ hκ => (by cases hκ)), hV, (fun κ hκ => (by cases hκ)), hS, (fun κ hκ => (by cases hκ)), fun σ' k1 k2 k3 k4 _ k6 => .skip j b b' hgd (by rw [hgs σ' j b hgd k3]; exact hs) hne V S k6 hS⟩
theorem put_comm {σ : St} {d e : Option Nat} {v u : AV} (h : ∀ x, d = some x → e ≠ some x) : (σ.put d v).put e u = (σ.put e u).put d v := by
 cases d with
 | none => rfl
 | some x =>
   cases e with
   | none => rfl
   | some y =>
     have : x ≠ y := fun g => h x rfl (by rw [g])
     simp only [St.put]
     rw [List.set_comm _ _ this]
theorem put_get {σ : St} {d : Option Nat} {v : AV} {t : Nat} (h : d ≠ some t) : (σ.put d v).get t = σ.get t := by
 cases d with
 | none => rfl
 | some d => rw [St.get_put, if_neg (fun z => h (by rw [z.1]))]
theorem oldR_put {σ : St} {d e : Option Nat} {v : AV} (h : ∀ x, d = some x → e ≠ some x) : oldR (σ.put d v) e = oldR σ e := by
 cases e with
 | none => rfl
 | some t => simp only [oldR]; rw [put_get (fun z => h t z rfl)]
theorem setObs_nil (σ : St) : σ.setObs [] = σ := rfl
theorem put_setObs (σ : St) (d : Option Nat) (v : AV) (us : List (Nat × Ob)) : (σ.put d v).setObs us = (σ.setObs us).put d v := by cases d <;> rfl
theorem put_len (σ : St) (us : List (Nat × Ob)) (d : Option Nat) (v : AV) : ((σ.setObs us).put d v).tmps.length = σ.tmps.length ∧ ((σ.setObs us).put d v).objs.length = σ.objs.length := by
 cases d <;> simp [St.put, St.setObs, setsL_len]
theorem put_ob' (σ : St) (us : List (Nat × Ob)) (d : Option Nat) (v : AV) (κ : Nat) (h : κ ∉ us.map (·.1)) : ((σ.setObs us).put d v).ob κ = σ.ob κ := by
 rw [St.ob_put, ob_setObs _ _ _ h]
theorem mem_dstL {o : Oper} {ops : Array Oper} {d : Nat} (h : o.dst = some d) : d ∈ o.looksAt ops ++ dstL o.dst := by
 rw [h]; exact List.mem_append_right _ (List.mem_singleton.2 rfl)
theorem step1_comm {all : List Oper} {oi oj : Oper} {σ σi σij : St} {Fi Fj : Foot} (hi : Step1 T Y E all oi σ σi Fi) (hj : Step1 T Y E all oj σi σij Fj) (hap : oi.apart all.toArray oj = true) (hd : disj Fi Fj) :
 ∃ σj, Step1 T Y E all oj σ σj Fj ∧ Step1 T Y E all oi σj σij Fi := by
 obtain ⟨a1, a2, a3⟩ := Oper.apart_spec hap
 have a4 : ∀ d, oj.dst = some d → oi.dst ≠ some d := fun d h h' => a2 d h' h
 obtain ⟨us, v, u1, u2, rfl, uf, uo, uv, ul, ur, u4⟩ := step1_local hi hd.1
 obtain ⟨ws, y, w1, w2, rfl, wf, wo, wv, wl, wr, w4⟩ := step1_local hj hd.2.1
 cases hki : Fi.kl with
 | some κ =>
   obtain ⟨d1, d2, d3, d4⟩ := hd.2.2.2.2.1 κ hki
   rw [d1] at w4 wr ⊢
   rw [hki] at u4 uf w4 wo wf wr
   simp only [St.killK] at u4 w4 wo wr ⊢
   obtain ⟨f1, f2⟩ := uf κ rfl
   have hno : ∀ t, t ∈ oj.looksAt all.toArray ++ dstL oj.dst → κ ∉ (σ.get t).refs := fun t ht => f1 t (fun h => d4 t h (wl t ht))
   have hl := put_len (σ.kill κ) us oi.dst v
   have hkl : (σ.kill κ).tmps.length = σ.tmps.length ∧ (σ.kill κ).objs.length = σ.objs.length := by simp [St.kill]
   have hj' := w4 σ (by rw [hl.1, hkl.1]) (by rw [hl.2, hkl.2]) (fun x hx => by
    rw [ρ_put (fun e he hxe => a1 e he (hx e hxe)), ρ_setObs, kill_ρ (fun t ht => hno t (List.mem_append_left _ (hx t ht)))]) (fun κ' hκ' => by
    rw [put_ob' _ _ _ _ _ (fun h => hd.2.2.1 κ' (u1 ▸ h) hκ'), kill_ob f2]) (fun _ h => by cases h) (fun κ' hκ' => wo κ' (by
    rw [oldR_put a2]
    cases hdj : oj.dst with
    | none => rw [hdj] at hκ'; cases hκ'
    | some d =>
      rw [hdj] at hκ'
      show κ' ∈ ((σ.kill κ).get d).refs
      rw [get_kill, killA_id (hno d (by rw [hdj]; exact List.mem_append_right _ (List.mem_singleton.2 rfl)))]
      exact hκ'))
   refine ⟨_, hj', ?_⟩
   have hwk : ∀ q ∈ ws.map (·.1), ∀ o, (σ.setObs ws).ob q = some o → κ ∉ o.refs := fun q hq o ho hk => by
    refine d2 (wr q (w1 ▸ hq) o (.inr ?_) κ hk)
    rw [← ho]
    exact setsL_key ws _ _ (by rw [hl.2, hkl.2]) q hq
   have hl2 := put_len σ ws oj.dst y
   have hi' := u4 ((σ.setObs ws).put oj.dst y) hl2.1 hl2.2 (fun x hx => by
    rw [ρ_put (fun e he hxe => a3 e he (hx e hxe)), ρ_setObs]) (fun κ' hκ' => put_ob' _ _ _ _ _ (fun h => hd.2.2.2.1 κ' (w1 ▸ h) hκ')) (fun κ' hκ' => by
    cases hκ'
    refine ⟨fun t ht => ?_, by rw [noBox_put]; exact noBox_setObs f2 hwk⟩
    by_cases e : oj.dst = some t
    · rw [e, St.get_put]
      split
      · exact fun h => d3 (wv κ h)
      · exact f1 t ht
    · rw [put_get e]; exact f1 t ht) (fun κ' hκ' => uo κ' (by rw [oldR_put a4] at hκ'; exact hκ'))
   have heq : (((((σ.setObs ws).put oj.dst y).kill κ).setObs us).put oi.dst v) = ((((σ.kill κ).setObs us).put oi.dst v).setObs ws).put oj.dst y := by
    rw [kill_put (fun h => d3 (wv κ h)), kill_setObs hwk, put_setObs, put_setObs, put_comm (d := oj.dst) (e := oi.dst) a4]
    congr 2
    exact congrArg (fun o => (⟨(σ.kill κ).tmps, o⟩ : St)) (setsL_comm ws us (σ.kill κ).objs (fun κ' hκ hκ' => hd.2.2.1 κ' (u1 ▸ hκ') (w2 κ' (w1 ▸ hκ))))
   rw [heq] at hi'
   exact hi'
 | none =>
   rw [hki] at u4 uf w4 wo wf wr ur
   simp only [St.killK] at u4 w4 wo wf wr ur ⊢
   cases hkj : Fj.kl with
   | some κ =>
     obtain ⟨d1, d2, d3, d4⟩ := hd.2.2.2.2.2 κ hkj
     rw [hkj] at w4 wf
     simp only [St.killK] at w4 ⊢
     obtain ⟨f1, f2⟩ := wf κ rfl
     rw [noBox_put] at f2
     have hold : ∀ q ∈ us.map (·.1), ∀ o, σ.ob q = some o → κ ∉ o.refs := fun q hq o ho hk => d2 (ur q (u1 ▸ hq) o (.inl ho) κ hk)
     have hnew : ∀ q ∈ us.map (·.1), ∀ o, (σ.setObs us).ob q = some o → κ ∉ o.refs := fun q hq o ho hk => d2 (ur q (u1 ▸ hq) o (.inr ho) κ hk)
     have f2 := noBox_back f2 hold
     have hl := put_len σ us oi.dst v
     have f0 : ∀ t, t ∉ Fj.rs → κ ∉ (σ.get t).refs := fun t ht => by
      by_cases e : oi.dst = some t
      · exact fun h => d3 (uo κ (by rw [e]; exact h))
      · have := f1 t ht
        rw [put_get e] at this; exact this
     have hj' := w4 σ hl.1.symm hl.2.symm (fun x hx => by rw [ρ_put (fun e he hxe => a1 e he (hx e hxe)), ρ_setObs]) (fun κ' hκ' => (put_ob' σ us oi.dst v κ' (fun h => hd.2.2.1 κ' (u1 ▸ h) hκ')).symm) (fun κ' hκ' => by cases hκ'; exact ⟨f0, f2⟩) (fun κ' hκ' => wo κ' (by rw [oldR_put a2]; exact hκ'))
     refine ⟨_, hj', ?_⟩
     have hno : ∀ t, t ∈ oi.looksAt all.toArray ++ dstL oi.dst → κ ∉ (σ.get t).refs := fun t ht => f0 t (fun h => d4 t h (ul t ht))
     have hl2 := put_len (σ.kill κ) ws oj.dst y
     have hkl : (σ.kill κ).tmps.length = σ.tmps.length ∧ (σ.kill κ).objs.length = σ.objs.length := by simp [St.kill]
     have hi' := u4 (((σ.kill κ).setObs ws).put oj.dst y) (by rw [hl2.1, hkl.1]) (by rw [hl2.2, hkl.2]) (fun x hx => by
      rw [ρ_put (fun e he hxe => a3 e he (hx e hxe)), ρ_setObs, kill_ρ (fun t ht => hno t (List.mem_append_left _ (hx t ht)))]) (fun κ' hκ' => by
      rw [put_ob' _ _ _ _ _ (fun h => hd.2.2.2.1 κ' (w1 ▸ h) hκ'), kill_ob f2]) (fun _ h => by cases h) (fun κ' hκ' => uo κ' (by
      rw [oldR_put a4] at hκ'
      cases hdi : oi.dst with
      | none => rw [hdi] at hκ'; cases hκ'
      | some d =>
        rw [hdi] at hκ'
        have hκ' : κ' ∈ ((σ.kill κ).get d).refs := hκ'
        rw [get_kill, killA_id (hno d (by rw [hdi]; exact List.mem_append_right _ (List.mem_singleton.2 rfl)))] at hκ'
        exact hκ'))
     have heq : ((((σ.kill κ).setObs ws).put oj.dst y).setObs us).put oi.dst v = ((((σ.setObs us).put oi.dst v).kill κ).setObs ws).put oj.dst y := by
      rw [kill_put (fun h => d3 (uv κ h)), kill_setObs hnew, put_setObs, put_setObs, put_comm (d := oj.dst) (e := oi.dst) a4]
      congr 2
      exact congrArg (fun o => (⟨(σ.kill κ).tmps, o⟩ : St)) (setsL_comm ws us (σ.kill κ).objs (fun κ' hκ hκ' => hd.2.2.1 κ' (u1 ▸ hκ') (w2 κ' (w1 ▸ hκ))))
     rw [heq] at hi'
     exact hi'
   | none =>
     rw [hkj] at w4
     simp only [St.killK] at w4 ⊢
     have hl := put_len σ us oi.dst v
     have hj' := w4 σ hl.1.symm hl.2.symm (fun x hx => by
      rw [ρ_put (fun e he hxe => a1 e he (hx e hxe)), ρ_setObs]) (fun κ hκ => (put_ob' σ us oi.dst v κ (fun h => hd.2.2.1 κ (u1 ▸ h) hκ)).symm) (fun _ h => by cases h) (fun κ' hκ' => wo κ' (by rw [oldR_put a2]; exact hκ'))
     refine ⟨_, hj', ?_⟩
     have hl2 := put_len σ ws oj.dst y
     have hi' := u4 ((σ.setObs ws).put oj.dst y) hl2.1 hl2.2 (fun x hx => by
      rw [ρ_put (fun e he hxe => a3 e he (hx e hxe)), ρ_setObs]) (fun κ hκ => put_ob' σ ws oj.dst y κ (fun h => hd.2.2.2.1 κ (w1 ▸ h) hκ)) (fun _ h => by cases h) (fun κ' hκ' => uo κ' (by rw [oldR_put a4] at hκ'; exact hκ'))
     have heq : (((σ.setObs ws).put oj.dst y).setObs us).put oi.dst v = (((σ.setObs us).put oi.dst v).setObs ws).put oj.dst y := by
      rw [put_setObs, put_setObs]
      rw [put_comm (d := oj.dst) (e := oi.dst) a4]
      congr 2
      exact congrArg (fun o => (⟨σ.tmps, o⟩ : St)) (setsL_comm ws us σ.objs (fun κ hκ hκ' => hd.2.2.1 κ (u1 ▸ hκ') (w2 κ (w1 ▸ hκ))))
     rw [heq] at hi'
     exact hi'
end
end Go.Rx
