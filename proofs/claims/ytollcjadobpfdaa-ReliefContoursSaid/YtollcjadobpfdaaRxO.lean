/- Reflection, part O: a call of a function that has a contract, soundly. -/
import Derived.Test.YtollcjadobpfdaaRxN
namespace Go.Rx
set_option linter.unusedVariables false
set_option linter.unusedSimpArgs false
set_option linter.unusedSectionVars false
section
variable {w0 : World} {Fz Pr0 : Nat → Prop} {Lo : Nat → RL} {a : Act} {w : World} {Pr : Nat → Prop}
theorem RepV_rep {R : Nat → RL} {agg : Bool} {τ : Ty} {x : τ.D} {v : Value} (h : RepV w Pr (agg, τ) x v) : match agg with
 | true => RepCp w R Pr (.agg (τ.cells x)) v
 | false => ∀ c, τ.cells x = [c] → RepCp w R Pr (.one c) v := by
 cases agg with
 | true =>
   obtain ⟨us, rfl, h1⟩ := h
   exact ⟨us, rfl, cells_rep h1⟩
 | false =>
   intro c hc
   have := cells_rep (R := R) (show RepTy w Pr τ x [v] from h)
   rw [hc] at this
   exact this.1
theorem All2.flip {α β : Type} {r : α → β → Prop} {s : β → α → Prop} (hs : ∀ a b, r a b → s b a) : ∀ {l : List α} {m : List β}, All2 r l m → All2 s m l
 | [], [], _ => trivial
 | _ :: _, _ :: _, h => ⟨hs _ _ h.1, All2.flip hs h.2⟩
 | [], _ :: _, h => h.elim
 | _ :: _, [], h => h.elim
theorem all2_range {L R : Nat → RL} : ∀ {l : List Nat} {s n : Nat}, l.length = n → (∀ (i k : Nat), l[i]? = some k → L (s + i) = R k) → All2 (fun k k' => L k' = R k) l (List.range' s n)
 | [], s, n, hl, h => by subst hl; trivial
 | k :: l, s, n, hl, h => by
   subst hl
   refine ⟨h 0 k rfl, all2_range (s := s + 1) rfl fun i k' hk => ?_⟩
   have := h (i + 1) k' (by simpa using hk)
   rw [show s + 1 + i = s + (i + 1) by omega]; exact this
theorem adds_nodup : ∀ {us : List (Nat × Ob)} {σ σ' : St}, σ.adds us = some σ' → (us.map (·.1)).Nodup
 | [], _, _, _ => List.nodup_nil
 | (κ, o) :: us, σ, σ', h => by
   rw [List.map_cons]
   exact List.nodup_cons.2 ⟨adds_fresh h, adds_nodup (adds_cons h).2.2⟩
theorem idx_at : ∀ {l : List Nat} {i k : Nat}, l.Nodup → l[i]? = some k → l.idxOf k = i
 | a :: l, 0, k, _, hi => by
   simp only [List.getElem?_cons_zero, Option.some.injEq] at hi
   subst hi
   simp [List.idxOf_cons]
 | a :: l, i + 1, k, h, hi => by
   simp only [List.getElem?_cons_succ] at hi
   obtain ⟨h1, h2⟩ := List.nodup_cons.1 h
   have hne : a ≠ k := fun e => h1 (e ▸ List.mem_of_getElem? hi)
   rw [List.idxOf_cons, idx_at h2 hi, show (a == k) = false by simpa using hne]; rfl
 | [], i, k, _, hi => by simp at hi
theorem keysAt_len (N d i n : Nat) : (keysAt N d i n).length = n := by simp [keysAt]
theorem refsIn_rows {ks : List Nat} : ∀ (κs : List Nat) (ls : List LO) (x : LOD ls) (S : List Nat), ls.all LO.isRow = true → RefsIn S (obsL ks κs ls x)
 | κ :: κs, o :: ls, x, S, h => by
   simp only [List.all_cons, Bool.and_eq_true] at h
   refine ⟨fun κ' hκ => ?_, refsIn_rows κs ls x.2 _ h.2⟩
   cases o with
   | box _ => cases h.1
   | row _ => simp [LO.ob, Ob.refs] at hκ
   | rows _ => simp [LO.ob, Ob.refs] at hκ
   | map _ _ => simp [LO.ob, Ob.refs] at hκ
 | κs, [], x, S, _ => by cases κs <;> exact trivial
 | [], _ :: _, x, S, _ => trivial
theorem RefsIn.mem : ∀ {us : List (Nat × Ob)} {S : List Nat}, RefsIn S us → ∀ {κ : Nat} {o : Ob}, (κ, o) ∈ us → ∀ κ' ∈ o.refs, κ' ∈ S ∨ κ' ∈ us.map (·.1)
 | (κ1, o1) :: us, S, h, κ, o, hm, κ', hk => by
   rcases List.mem_cons.1 hm with e | hm
   · cases e; exact .inl (h.1 κ' hk)
   · rcases RefsIn.mem h.2 hm κ' hk with g | g
     · rcases List.mem_cons.1 g with rfl | g
       · exact .inr (by simp)
       · exact .inl g
     · exact .inr (by simp only [List.map_cons]; exact List.mem_cons_of_mem _ g)
theorem RefsIn.snoc {κ : Nat} {o : Ob} : ∀ {us : List (Nat × Ob)} {S : List Nat}, RefsIn S us → (∀ κ' ∈ o.refs, κ' ∈ us.map (·.1) ∨ κ' ∈ S) → RefsIn S (us ++ [(κ, o)])
 | [], S, _, h => ⟨fun κ' hκ => (h κ' hκ).elim (fun z => by cases z) id, trivial⟩
 | (κ1, o1) :: us, S, hr, h => ⟨hr.1, RefsIn.snoc hr.2 fun κ' hκ => by
     rcases h κ' hκ with g | g
     · simp only [List.map_cons, List.mem_cons] at g
       rcases g with rfl | g
       · exact .inr (List.mem_cons_self ..)
       · exact .inl g
     · exact .inr (List.mem_cons_of_mem _ g)⟩
theorem adds_append : ∀ {us vs : List (Nat × Ob)} {σ σ' : St}, σ.adds (us ++ vs) = some σ' → ∃ σ1, σ.adds us = some σ1 ∧ σ1.adds vs = some σ'
 | [], _, σ, _, h => ⟨σ, rfl, h⟩
 | (κ, o) :: us, vs, σ, σ', h => by
   obtain ⟨g1, g2, g3⟩ := adds_cons h
   obtain ⟨σ1, k1, k2⟩ := adds_append g3
   exact ⟨σ1, by simp only [St.adds, g1, g2]; exact k1, k2⟩
theorem Sep.turn {R : Nat → RL} {u : Nat × Ob} {us : List (Nat × Ob)} (h : Sep w R Pr (u :: us)) : Sep w R Pr (us ++ [u]) := by
 have hx : ∀ i κ o, (us ++ [u])[i]? = some (κ, o) → ∃ j, (u :: us)[j]? = some (κ, o) ∧ (j = i + 1 ∨ (j = 0 ∧ i = us.length)) := fun i κ o hi => by
  rw [List.getElem?_append] at hi
  split at hi
  · exact ⟨i + 1, by simpa using hi, .inl rfl⟩
  · rename_i hn
    have : i - us.length = 0 := by
     rcases Nat.eq_zero_or_pos (i - us.length) with g | g
     · exact g
     · rw [List.getElem?_eq_none (by simp; omega)] at hi; cases hi
    rw [this] at hi
    exact ⟨0, hi, .inr ⟨rfl, by omega⟩⟩
 refine ⟨fun i κ o hi => ?_, fun i κ o b hi => ?_, fun i j κ o κ' o' b hi hj hne => ?_, fun i κ o hi => ?_⟩
 · obtain ⟨j, hj, _⟩ := hx i κ o hi; exact h.ob j κ o hj
 · obtain ⟨j, hj, _⟩ := hx i κ o hi; exact h.un j κ o b hj
 · obtain ⟨i', hi', e1⟩ := hx i κ o hi
   obtain ⟨j', hj', e2⟩ := hx j κ' o' hj
   have : i < (us ++ [u]).length := (List.getElem?_eq_some_iff.1 hi).1
   have : j < (us ++ [u]).length := (List.getElem?_eq_some_iff.1 hj).1
   exact h.ds i' j' κ o κ' o' b hi' hj' (by omega)
 · obtain ⟨j, hj, _⟩ := hx i κ o hi; exact h.own j κ o hj
theorem Bl.turn {R : Nat → RL} {u : Nat × Ob} {us : List (Nat × Ob)} {b : Nat} (h : Bl w R (us ++ [u]) b) : Bl w R (u :: us) b := by
 obtain ⟨i, κ, o, hi, hoc⟩ := h
 rw [List.getElem?_append] at hi
 split at hi
 · exact ⟨i + 1, κ, o, by simpa using hi, hoc⟩
 · rename_i hn
   have : i - us.length = 0 := by
    rcases Nat.eq_zero_or_pos (i - us.length) with g | g
    · exact g
    · rw [List.getElem?_eq_none (by simp; omega)] at hi; cases hi
   rw [this] at hi
   exact ⟨0, κ, o, hi, hoc⟩
theorem rg_cons (o : LO) (ls : List LO) : rg (o :: ls) = 0 :: List.range' 1 ls.length := by simp [rg, List.range'_succ]
theorem keysAt_get {N d i n j k : Nat} (h : (keysAt N d i n)[j]? = some k) : k = d + (i + j) * N ∧ j < n := by
 unfold keysAt at h
 rw [List.getElem?_map] at h
 have hj : j < n := by
  rcases Nat.lt_or_ge j n with g | g
  · exact g
  · rw [List.getElem?_eq_none (by simpa using g)] at h; cases h
 rw [List.getElem?_range' hj] at h
 simp only [Option.map_some, Option.some.injEq, Nat.one_mul] at h
 exact ⟨h.symm, hj⟩
theorem adds_sound {N d : Nat} {Nw : Nat → Prop} (hN : ∀ b, Nw b → ¬ Fz b) : ∀ (rs : List RT) (r : RDL rs) (i : Nat) (us : List Value) (bs : Nat → Prop) (σ σ' : St) (R : Nat → RL) (cs : List Cp) (ns : List (Nat × Ob)),
 Inv w0 Fz Pr0 Lo R Pr σ a w → (∀ κ o b, σ.ob κ = some o → Occ w R κ o b → ¬ Nw b ∨ bs b) → RepRets w Nw Pr rs r us bs → rets N d i rs r = some (cs, ns) → σ.adds ns = some σ' →
 ∃ R', Inv w0 Fz Pr0 Lo R' Pr σ' a w ∧ All2 (RepCp w R' Pr) cs us ∧ (∀ c ∈ cs, ∀ κ ∈ c.refs, σ'.ob κ ≠ none) ∧ (∀ κ, σ.ob κ ≠ none → R' κ = R κ ∧ σ'.ob κ ≠ none) ∧ σ'.tmps = σ.tmps
 | [], r, i, us, bs, σ, σ', R, cs, ns, h, hb, hr, hc, ha => by
   simp only [rets] at hc
   cases hc
   simp only [St.adds] at ha
   cases ha
   rw [show us = [] from hr]
   exact ⟨R, h, trivial, fun c hc => (by cases hc), fun κ hκ => ⟨rfl, hκ⟩, rfl⟩
 | .d true τ :: rs, r, i, us, bs, σ, σ', R, cs, ns, h, hb, hr, hc, ha => by
   obtain ⟨v, us', rfl, h1, h2⟩ := hr
   simp only [rets] at hc
   split at hc
   · rename_i cs' ns' hc'
     cases hc
     obtain ⟨R', k1, k2, k3, k4, k5⟩ := adds_sound hN rs r.2 i us' bs σ σ' R _ _ h hb h2 hc' ha
     refine ⟨R', k1, ⟨RepV_rep h1, k2⟩, fun c hc κ hκ => ?_, k4, k5⟩
     rcases List.mem_cons.1 hc with rfl | hc
     · obtain ⟨c, hc, hk⟩ := List.mem_flatMap.1 hκ
       rw [cells_refs _ _ c hc] at hk; cases hk
     · exact k3 c hc κ hκ
   · cases hc
 | .d false τ :: rs, r, i, us, bs, σ, σ', R, cs, ns, h, hb, hr, hc, ha => by
   obtain ⟨v, us', rfl, h1, h2⟩ := hr
   simp only [rets] at hc
   split at hc
   · rename_i c cs' ns' hx hc'
     cases hc
     obtain ⟨R', k1, k2, k3, k4, k5⟩ := adds_sound hN rs r.2 i us' bs σ σ' R _ _ h hb h2 hc' ha
     refine ⟨R', k1, ⟨RepV_rep h1 c hx, k2⟩, fun c' hc κ hκ => ?_, k4, k5⟩
     rcases List.mem_cons.1 hc with rfl | hc
     · have : c.refs = [] := cells_refs τ r.1 c (by rw [hx]; simp)
       rw [show (Cp.one c).refs = c.refs from rfl, this] at hκ; cases hκ
     · exact k3 c' hc κ hκ
   · cases hc
 | .new e :: rs, r, i, us, bs, σ, σ', R, cs, ns, h, hb, hr, hc, ha => by
   obtain ⟨v, us', blk, rfl, h1, h2, h3⟩ := hr
   simp only [rets] at hc
   split at hc
   · rename_i cs' ns' hc'
     cases hc
     obtain ⟨g1, g2, g3⟩ := adds_cons ha
     have hloc : ∃ loc : RL, v = loc.hdr ∧ (loc.hdr ≠ .slice none 0 0 → loc.blk = blk ∧ Nw blk ∧ ¬ Pr blk) ∧ ∀ R1 : Nat → RL, R1 (d + i * N) = loc → RepOb w R1 Pr (d + i * N) (.vec e r.1) := by
      rcases h1 with ⟨h1, h1'⟩ | ⟨off, cap, cells, el, k1, k2, k3, k4, k5, k6, k7⟩
      · refine ⟨⟨0, none, 0, 0⟩, h1, fun g => (g rfl).elim, fun R1 hR1 => ⟨?_, .inl ⟨by rw [hR1]; rfl, h1'⟩⟩⟩
        rw [hR1, h1']; rfl
      · refine ⟨⟨blk, some ⟨blk, off, none⟩, r.1.length, cap⟩, k1, fun _ => ⟨rfl, k5, k6⟩, fun R1 hR1 => ⟨by rw [hR1], .inr ⟨off, cap, cells, el, by rw [hR1]; rfl, k2, by rw [hR1]; exact k3, k4, k7⟩⟩⟩
     obtain ⟨loc, l1, l2, l3⟩ := hloc
     have hRd : (fun κ => if κ = d + i * N then loc else R κ) (d + i * N) = loc := by simp
     have hRn : ∀ κ, κ ≠ d + i * N → (fun κ => if κ = d + i * N then loc else R κ) κ = R κ := fun κ hk => by simp [hk]
     have hoccd : ∀ b, Occ w (fun κ => if κ = d + i * N then loc else R κ) (d + i * N) (.vec e r.1) b → loc.hdr ≠ .slice none 0 0 ∧ b = blk := fun b hoc => by
      rcases hoc with ⟨q1, q2⟩ | q1
      · have q1' : loc.hdr ≠ .slice none 0 0 := by simpa [real] using q1
        rw [hRd] at q2
        exact ⟨q1', q2.trans (l2 q1').1⟩
      · exact q1.elim
     have hi1 := h.add2 (d + i * N) (.vec e r.1) g2 g1 hRn (l3 _ hRd) (fun κ hκ => by cases hκ) (fun b hoc => by
      obtain ⟨q1, rfl⟩ := hoccd b hoc
      obtain ⟨m1, m2, m3⟩ := l2 q1
      refine ⟨m3, hN _ m2, fun κ o' ho' hoc' => ?_⟩
      rcases hb κ o' _ ho' hoc' with q | q
      · exact q m2
      · exact h2 (by rw [l1]; exact q1) q) (fun _ hi => hi.elim)
     obtain ⟨R', k1, k2, k3, k4, k5⟩ := adds_sound hN rs r.2 (i + 1) us' _ _ σ' _ _ _ hi1 (fun κ o b ho hoc => by
      rw [St.ob_setOb] at ho
      by_cases e : d + i * N = κ
      · subst e
        rw [if_pos ⟨rfl, okK_lt g1⟩] at ho; cases ho
        obtain ⟨q1, rfl⟩ := hoccd b hoc
        exact .inr (.inr ⟨by rw [l1]; exact q1, rfl⟩)
      · rw [if_neg (fun z => e z.1)] at ho
        have hk : κ ≠ d + i * N := fun z => e z.symm
        refine (hb κ o b ho ?_).imp id .inl
        rcases hoc with ⟨q1, q2⟩ | q1
        · exact .inl ⟨(real_same (hRn κ hk) o).1 q1, by rw [← hRn κ hk]; exact q2⟩
        · exact .inr (q1.back (hRn κ hk) (fun _ => rfl) (fun κ1 h1 => hRn κ1 (fun z => h.wo κ o κ1 ho h1 (z ▸ g2))))) h3 hc' g3
     have hpk := k4 (d + i * N) (by rw [St.ob_setOb, if_pos ⟨rfl, okK_lt g1⟩]; simp)
     refine ⟨R', k1, ⟨?_, k2⟩, fun c hc κ hκ => ?_, fun κ hκ => ?_, k5⟩
     · show v = (R' (d + i * N)).hdr
       rw [hpk.1, if_pos rfl, l1]
     · rcases List.mem_cons.1 hc with rfl | hc
       · have : κ = d + i * N := by simpa [Cp.refs, C.refs] using hκ
         rw [this]; exact hpk.2
       · exact k3 c hc κ hκ
     · have hk : κ ≠ d + i * N := fun e => hκ (e ▸ g2)
       have := k4 κ (by rw [St.ob_setOb, if_neg (fun z => hk z.1.symm)]; exact hκ)
       exact ⟨this.1.trans (hRn κ hk), this.2⟩
   · cases hc
 | .obj o ls :: rs, r, i, us, bs, σ, σ', R, cs, ns, h, hb, hr, hc, ha => by
   obtain ⟨v, us', L, rfl, h1, hsep, hbl, h3⟩ := hr
   simp only [rets] at hc
   split at hc
   · rename_i cs' ns' hc' hrow
     cases hc
     generalize hks : keysAt N d (i + 1) ls.length = ks at *
     rw [show obsL ks ks ls r.1.2 ++ (d + i * N, o.ob ks r.1.1) :: ns' = (obsL ks ks ls r.1.2 ++ [(d + i * N, o.ob ks r.1.1)]) ++ ns' by simp] at ha
     obtain ⟨σ1, g1, g2⟩ := adds_append ha
     have hkl : ks.length = ls.length := by rw [← hks, keysAt_len]
     by_cases hN0 : ∃ (L2 : Nat → RL), L2 (d + i * N) = L 0 ∧ ∀ j, j < ls.length → ∀ k, ks[j]? = some k → L2 k = L (1 + j)
     · obtain ⟨L2, e0, e1⟩ := hN0
       have hk2 : All2 (fun k k' => L2 k' = L k) (List.range' 1 ls.length) ks := (all2_range (L := L) (R := L2) hkl (fun j k hj => (e1 j (by rw [← hkl]; exact (List.getElem?_eq_some_iff.1 hj).1) k hj).symm)).flip (fun _ _ e => e.symm)
       have hk1 : All2 (fun k k' => L2 k' = L k) (rg (o :: ls)) ((d + i * N) :: ks) := by rw [rg_cons]; exact ⟨e0, hk2⟩
       have ht : (rg (o :: ls)).tail = List.range' 1 ls.length := by rw [rg_cons]; rfl
       have hsep2 : Sep w L2 Pr (obsL ks ((d + i * N) :: ks) (o :: ls) r.1) := Sep.relabel (by rw [ht]; exact hk2) hk1 hsep
       have hbl2 : ∀ b, Bl w L2 (obsL ks ((d + i * N) :: ks) (o :: ls) r.1) b → Bl w L (obs0 (o :: ls) r.1) b := fun b g => Bl.relabel (by rw [ht]; exact hk2) hk1 g
       have hsep3 : Sep w L2 Pr (obsL ks ks ls r.1.2 ++ [(d + i * N, o.ob ks r.1.1)]) := hsep2.turn
       have hbl3 : ∀ b, Bl w L2 (obsL ks ks ls r.1.2 ++ [(d + i * N, o.ob ks r.1.1)]) b → Bl w L (obs0 (o :: ls) r.1) b := fun b g => hbl2 b g.turn
       have hri : RefsIn [] (obsL ks ks ls r.1.2 ++ [(d + i * N, o.ob ks r.1.1)]) := (refsIn_rows ks ls r.1.2 [] hrow).snoc (fun κ' hκ => .inl (by rw [obsL_keys _ hkl]; exact ob_refs hκ))
       obtain ⟨R1, m1, m2, m3, m4, m5⟩ := Inv.addL L2 _ [] σ σ1 R h g1 (fun κ hκ => by cases hκ) hri hsep3 (fun b g => ⟨hN b (hbl b (hbl3 b g)).1, fun κ o' ho' hoc => by
        rcases hb κ o' b ho' hoc with q | q
        · exact q (hbl b (hbl3 b g)).1
        · exact (hbl b (hbl3 b g)).2 q⟩)
       obtain ⟨R', k1, k2, k3, k4, k5⟩ := adds_sound hN rs r.2 (i + (ls.length + 1)) us' _ σ1 σ' R1 _ _ m1 (fun κ x b hx hoc => by
        rcases m5 κ x hx with q | q
        · obtain ⟨j, hj⟩ := List.getElem?_of_mem q
          refine .inr (.inr (hbl3 b ⟨j, κ, x, hj, ?_⟩))
          have e := (m2 κ (List.mem_map.2 ⟨_, q, rfl⟩)).1
          rcases hoc with ⟨q1, q2⟩ | q1
          · exact .inl ⟨(real_same e x).1 q1, by rw [← e]; exact q2⟩
          · exact .inr (q1.back e (fun _ => rfl) (fun κ1 h1 => (m2 κ1 ((hri.mem q κ1 h1).resolve_left (by simp))).1))
        · have e := (m3 κ (by rw [q]; simp)).1
          refine (hb κ x b q ?_).imp id .inl
          rcases hoc with ⟨q1, q2⟩ | q1
          · exact .inl ⟨(real_same e x).1 q1, by rw [← e]; exact q2⟩
          · exact .inr (q1.back e (fun _ => rfl) (fun κ1 h1 => (m3 κ1 (h.wo κ x κ1 q h1)).1))) h3 hc' g2
       have hh := m2 (d + i * N) (by simp)
       have hh' := k4 (d + i * N) hh.2
       refine ⟨R', k1, ⟨?_, k2⟩, fun c hc κ hκ => ?_, fun κ hκ => ?_, k5.trans m4⟩
       · have e : R' (d + i * N) = L 0 := by rw [hh'.1, hh.1, e0]
         cases o with
         | box fs => show v = _; rw [h1, e]; rfl
         | row _ => show v = _; rw [h1, e]; rfl
         | rows _ => show v = _; rw [h1, e]; rfl
         | map _ _ => show v = _; rw [h1, e]; rfl
       · rcases List.mem_cons.1 hc with rfl | hc
         · have : κ = d + i * N := by cases o <;> simpa [Cp.refs, C.refs, headC1] using hκ
           rw [this]; exact hh'.2
         · exact k3 c hc κ hκ
       · have q1 := m3 κ hκ
         have q2 := k4 κ q1.2
         exact ⟨q2.1.trans q1.1, q2.2⟩
     ·
      exfalso
      apply hN0
      have hfr : ((obsL ks ks ls r.1.2 ++ [(d + i * N, o.ob ks r.1.1)]).map (·.1)).Nodup := adds_nodup g1
      rw [List.map_append, obsL_keys _ hkl] at hfr
      simp only [List.map_cons, List.map_nil] at hfr
      obtain ⟨f1, f2, f3⟩ := List.nodup_append.1 hfr
      refine ⟨fun κ => if κ = d + i * N then L 0 else L (1 + ks.idxOf κ), by simp, fun j hj k hk => ?_⟩
      have hmem := List.mem_of_getElem? hk
      show (if k = d + i * N then L 0 else L (1 + ks.idxOf k)) = _
      rw [if_neg (fun e => f3 k hmem (d + i * N) (by simp) e), idx_at f1 hk]
   · cases hc
theorem packA_rep {R : Nat → RL} {cs : List Cp} {us : List Value} (h : All2 (RepCp w R Pr) cs us) : RepA w R Pr (packA cs) (packV us) := by
 cases cs with
 | nil =>
   cases us with
   | nil => exact ⟨#[], rfl, trivial⟩
   | cons _ _ => exact h.elim
 | cons c cs =>
   cases us with
   | nil => exact h.elim
   | cons u us =>
     cases cs with
     | nil =>
       cases us with
       | nil => exact h.1
       | cons _ _ => exact h.2.elim
     | cons c2 cs =>
       cases us with
       | nil => exact h.2.elim
       | cons u2 us => exact ⟨(u :: u2 :: us).toArray, rfl, h⟩
theorem packA_refs {cs : List Cp} {κ : Nat} (h : κ ∈ (packA cs).refs) : ∃ c ∈ cs, κ ∈ c.refs := by
 unfold packA at h
 split at h
 · exact ⟨_, by simp, h⟩
 · exact List.mem_flatMap.1 h
theorem frzs_inv : ∀ (l : List Nat) {R : Nat → RL} {Pr : Nat → Prop} {σ : St}, Inv w0 Fz Pr0 Lo R Pr σ a w → (∀ b, b < w0.heap.size → Fz b ∨ Pr0 b) → Inv w0 Fz Pr0 Lo R (fun b => Pr b ∨ ∃ κ ∈ l, ∃ e m, σ.ob κ = some (.vec e m) ∧ real R κ (.vec e m) ∧ b = (R κ).blk) (frzs l σ) a w
 | [], R, Pr, σ, h, _ => by
   have : Pr = (fun b => Pr b ∨ ∃ κ ∈ ([] : List Nat), ∃ e m, σ.ob κ = some (.vec e m) ∧ real R κ (.vec e m) ∧ b = (R κ).blk) := funext fun b => propext ⟨.inl, fun g => g.elim id (fun ⟨_, g, _⟩ => by cases g)⟩
   rw [← this]; exact h
 | κ :: l, R, Pr, σ, h, hf => by
   have h1 := frzs_inv l (h.frz κ hf) hf
   refine cast (congrArg (fun p => Inv w0 Fz Pr0 Lo R p (frzs (κ :: l) σ) a w) (funext fun b => propext ⟨fun g => ?_, fun g => ?_⟩)) h1
   · rcases g with (g | ⟨e, m, g1, g2, g3⟩) | ⟨κ', hκ', e, m, g1, g2, g3⟩
     · exact .inl g
     · exact .inr ⟨κ, by simp, e, m, g1, g2, g3⟩
     · by_cases hlt : κ < σ.objs.length
       · exact .inr ⟨κ', by simp [hκ'], e, m, ((frz_ob_vec σ κ κ' hlt).1 g1).1, g2, g3⟩
       · have : σ.frz κ = σ := by
          have : σ.ob κ = none := by unfold St.ob; rw [List.getD_eq_getElem?_getD, List.getElem?_eq_none (by omega)]; rfl
          unfold St.frz; rw [this]
         rw [this] at g1
         exact .inr ⟨κ', by simp [hκ'], e, m, g1, g2, g3⟩
   · rcases g with g | ⟨κ', hκ', e, m, g1, g2, g3⟩
     · exact .inl (.inl g)
     · by_cases e1 : κ' = κ
       · subst e1; exact .inl (.inr ⟨e, m, g1, g2, g3⟩)
       · have hκ' : κ' ∈ l := by simpa [e1] using hκ'
         refine .inr ⟨κ', hκ', e, m, ?_, g2, g3⟩
         by_cases hlt : κ < σ.objs.length
         · exact (frz_ob_vec σ κ κ' hlt).2 ⟨g1, fun z => e1 z.1⟩
         · have : σ.frz κ = σ := by
            have : σ.ob κ = none := by unfold St.ob; rw [List.getD_eq_getElem?_getD, List.getElem?_eq_none (by omega)]; rfl
            unfold St.frz; rw [this]
           rw [this]; exact g1
theorem frzs_tmps : ∀ (l : List Nat) (σ : St), (frzs l σ).tmps.length = σ.tmps.length
 | [], σ => rfl
 | κ :: l, σ => by
   rw [frzs, frzs_tmps l]
   unfold St.frz
   split <;> simp
theorem rets_solid {N d : Nat} {Nw : Nat → Prop} {w : World} {Pr Pr' : Nat → Prop} : ∀ (rs : List RT) (r : RDL rs) (us : List Value) (bs : Nat → Prop), (rs.all RT.solid) = true → (∀ b, Nw b → Pr' b → Pr b) → RepRets w Nw Pr rs r us bs → RepRets w Nw Pr' rs r us bs
 | [], _, _, _, _, _, h => h
 | .d agg τ :: rs, r, us, bs, hs, hp, h => by
   simp only [List.all_cons, Bool.and_eq_true] at hs
   obtain ⟨v, us', rfl, h1, h2⟩ := h
   refine ⟨v, us', rfl, ?_, rets_solid (N := N) (d := d) rs r.2 us' bs hs.2 hp h2⟩
   unfold RepV at *
   cases agg with
   | true => obtain ⟨u, e, h3⟩ := h1; exact ⟨u, e, h3.solid hs.1⟩
   | false => exact RepTy.solid hs.1 h1
 | .new e :: rs, r, us, bs, hs, hp, h => by
   simp only [List.all_cons, Bool.and_eq_true] at hs
   obtain ⟨v, us', blk, rfl, h1, h2, h3⟩ := h
   refine ⟨v, us', blk, rfl, ?_, h2, rets_solid (N := N) (d := d) rs r.2 us' _ hs.2 hp h3⟩
   rcases h1 with h1 | ⟨off, cap, cells, el, k1, k2, k3, k4, k5, k6, k7⟩
   · exact .inl h1
   · refine .inr ⟨off, cap, cells, el, k1, k2, k3, k4, k5, fun z => k6 (hp blk k5 z), fun i y hi => ?_⟩
     obtain ⟨u, m1, m2⟩ := k7 i y hi
     exact ⟨u, m1, m2.solid hs.1⟩
 | .obj _ _ :: rs, _, _, _, hs, _, _ => by simp [RT.solid] at hs
theorem call_sound {P : Program} {f : FuncId} {c : Con} (hok : PureOK P f c.sig c.rs c.fn) {R : Nat → RL} {σ σ1 σ' : St} (h : Inv w0 Fz Pr0 Lo R Pr σ a w) (hFz : ∀ b, b < w0.heap.size → Fz b ∨ Pr0 b) {args : List AV} {vs : List Value} (hargs : All2 (RepA w R Pr) args vs)
 {acc : List Nat} {xs : DL c.sig} {r : RDL c.rs} {dst : Option Nat} (hpre : callPre σ c args = some (acc, σ1, xs)) (hfn : c.fn xs = some r) {x : AV} {nsl : List (Nat × Ob)} (hpost : callPost σ1 dst c.rs r = some (σ', x, nsl)) :
 Calls P f vs.toArray w fun e w' => ∃ v R' Pr', e = .returned v ∧ Inv w0 Fz Pr0 Lo R' Pr' σ' a w' ∧ RepA w' R' Pr' x v ∧ ∀ κ ∈ x.refs, σ'.ob κ ≠ none := by
 unfold callPre at hpre
 split at hpre
 · rename_i acc' xs' hta
   split at hpre
   · rename_i hvs
     cases hpre
     unfold callPost at hpost
     split at hpost
     · rename_i cs ns hrets
       split at hpost
       · rename_i σ2 hadds
         obtain ⟨rfl, rfl, rfl⟩ : σ2 = σ' ∧ packA cs = x ∧ ns = nsl := by simpa using hpost
         have hgr := h.sm.sz
         let Pc : Nat → Prop := fun b => Pr b ∨ ∃ κ ∈ acc, ∃ o, σ.ob κ = some o ∧ real R κ o ∧ b = (R κ).blk
         have hPc : ∀ b, Pr b → Pc b := fun b hb => .inl hb
         have hPclt : ∀ b, Pc b → b < w.heap.size := fun b hb => by
          rcases hb with hb | ⟨κ, _, o, h1, h2, rfl⟩
          · exact h.pr b hb
          · exact RepOb.lt h2 (h.ob κ _ h1)
         have hra := toArgs_rep (Pr' := Pc) h.ob hPc hta (fun κ hκ o ho hre => .inr ⟨κ, hκ, o, ho, hre, rfl⟩) hargs
         refine (hok xs r hfn w Pc vs hPclt hra).mono ?_
         rintro e w' ⟨Pr', us, rfl, hw, hg, hp1, hp2, hp3, hrr⟩
         have hs := hg.sz
         refine ⟨packV us, ?_⟩
         have key : ∀ (σ1 : St) (R1 : Nat → RL) (Pr1 Pr2 : Nat → Prop), Inv w0 Fz Pr0 Lo R1 Pr1 σ1 a w → (∀ κ, R1 κ = R κ) → (∀ κ o, σ1.ob κ = some o → real R κ o → (R κ).blk < w.heap.size) → (∀ b, Pr1 b → Pr2 b) → (∀ b, Pr2 b → b < w.heap.size → Pr1 b) → (∀ b, Pr2 b → b < w'.heap.size) →
          RepRets w' (fun b => w.heap.size ≤ b) Pr2 c.rs r us (fun _ => False) → rets σ1.tmps.length (dst.getD 0) 0 c.rs r = some (cs, ns) → σ1.adds ns = some σ2 → ∃ R' Pr', Ending.returned (packV us) = .returned (packV us) ∧ Inv w0 Fz Pr0 Lo R' Pr' σ2 a w' ∧ RepA w' R' Pr' (packA cs) (packV us) ∧ ∀ κ ∈ (packA cs).refs, σ2.ob κ ≠ none := fun σ1 R1 Pr1 Pr2 h1 hR hlt q1 q2 q3 hr2 hrets hadds => by
          have h2 := h1.world (w' := w') (Pr' := Pr2) hw hg q1 q2 q3
          have hR' : R1 = R := funext hR
          subst hR'
          obtain ⟨R', k1, k2, k3, k4, k5⟩ := adds_sound (N := σ1.tmps.length) (d := dst.getD 0) (Nw := fun b => w.heap.size ≤ b) (fun b hb hz => by have := (h.fz b hz).1; omega) c.rs r 0 us _ σ1 σ2 R1 cs ns h2 (fun κ o b ho hoc => .inl fun hb => by
           rcases hoc with ⟨q1, q2⟩ | q1
           · have := hlt κ o ho q1; omega
           · have := (h1.ob κ o ho).inn_lt (q1.back (w := w) (R := R1) rfl (fun hre => hw _ (hlt κ o ho hre))); omega) hr2 hrets hadds
          exact ⟨R', Pr2, rfl, k1, packA_rep k2, fun κ hκ => by obtain ⟨c, hc, hk⟩ := packA_refs hκ; exact k3 c hc κ hk⟩
         have hbase : ∀ (hσ : acc = [] ∨ c.rs.all RT.solid = true) , rets σ.tmps.length (dst.getD 0) 0 c.rs r = some (cs, ns) → σ.adds ns = some σ2 → ∃ R' Pr', Ending.returned (packV us) = .returned (packV us) ∧ Inv w0 Fz Pr0 Lo R' Pr' σ2 a w' ∧ RepA w' R' Pr' (packA cs) (packV us) ∧ ∀ κ ∈ (packA cs).refs, σ2.ob κ ≠ none := fun hσ hrets hadds => by
          rcases hσ with rfl | hsol
          · have hPcPr : ∀ b, Pc b → Pr b := fun b hb => by
             rcases hb with hb | ⟨κ, hκ, _⟩
             · exact hb
             · cases hκ
            exact key σ R Pr Pr' h (fun _ => rfl) (fun κ o ho hre => RepOb.lt hre (h.ob κ o ho)) (fun b hb => hp1 b (hPc b hb)) (fun b hb hlt => hPcPr b (hp2 b hb hlt)) hp3 hrr hrets hadds
          · refine key σ R Pr (fun b => Pr b ∨ (w.heap.size ≤ b ∧ Pr' b)) h (fun _ => rfl) (fun κ o ho hre => RepOb.lt hre (h.ob κ o ho)) (fun b hb => .inl hb) (fun b hb hlt => ?_) (fun b hb => ?_) ?_ hrets hadds
            · rcases hb with hb | hb
              · exact hb
              · omega
            · rcases hb with hb | hb
              · have := h.pr b hb; omega
              · exact hp3 b hb.2
            · exact rets_solid (N := 0) (d := 0) c.rs r us _ hsol (fun b hn hb => by
               rcases hb with hb | hb
               · have := h.pr b hb; omega
               · exact hb.2) hrr
         cases hacc : acc with
         | nil =>
           rw [hacc] at hrets hadds
           exact hbase (.inl hacc) hrets hadds
         | cons κ0 rest =>
           cases hsol : c.rs.all RT.solid with
           | true =>
             have e1 : frzIf c.rs acc σ = σ := by rw [hacc]; simp only [frzIf, hsol]
             rw [e1] at hrets hadds
             exact hbase (.inr hsol) hrets hadds
           | false =>
             have e1 : frzIf c.rs acc σ = frzs acc σ := by rw [hacc]; simp only [frzIf, hsol]
             rw [e1] at hrets hadds
             have hall : ∀ κ ∈ acc, isVecK σ.ob κ = true := by
              rw [hsol, Bool.or_false, List.all_eq_true] at hvs
              exact hvs
             have hf : Inv w0 Fz Pr0 Lo R Pc (frzs acc σ) a w := by
              refine cast (congrArg (fun p => Inv w0 Fz Pr0 Lo R p (frzs acc σ) a w) (funext fun b => propext ⟨fun g => ?_, fun g => ?_⟩)) (frzs_inv acc h hFz)
              · exact g.imp id fun ⟨κ, g1, e, m, g2, g3, g4⟩ => ⟨κ, g1, _, g2, g3, g4⟩
              · refine g.imp id fun ⟨κ, g1, o, g2, g3, g4⟩ => ?_
                obtain ⟨e, m, q⟩ := isVecK_spec (hall κ g1)
                rw [q] at g2; cases g2
                exact ⟨κ, g1, e, m, q, g3, g4⟩
             exact key (frzs acc σ) R Pc Pr' hf (fun _ => rfl) (fun κ o ho hre => RepOb.lt hre (hf.ob κ o ho)) hp1 hp2 hp3 hrr hrets hadds
       · cases hpost
     · cases hpost
   · cases hpre
 · cases hpre
def NoIt (o : Ob) : Prop := ∀ K V l p, o ≠ .map K V l (some p)
theorem noIt_of {ks : List Nat} {o : LO} {x : o.D} {o1 : Ob} (h : SameB (o.ob ks x) o1) : NoIt o1 := fun K V l p e => by
 subst e
 have h1 := (h.2 default (fun _ => ⟨0, none, 0, 0⟩) 0 0).2 ⟨p.1, p.2, rfl, rfl⟩
 cases o with
 | box _ => exact h1
 | row _ => exact h1
 | map _ _ => obtain ⟨_, _, z, _⟩ := h1; cases z
 | rows e =>
   obtain ⟨off, n, cap, cells, el, j, v, _, h2, _⟩ := h1
   simp [default] at h2
theorem noIt_at {ks : List Nat} : ∀ {κs : List Nat} {ls : List LO} {x : LOD ls} {i κ : Nat} {o o1 : Ob}, (obsL ks κs ls x)[i]? = some (κ, o) → SameB o o1 → NoIt o1
 | κ0 :: κs, o0 :: ls, x, i, κ, o, o1, h, hs => by
   cases i with
   | zero =>
     simp only [obsL, List.getElem?_cons_zero, Option.some.injEq, Prod.mk.injEq] at h
     obtain ⟨rfl, rfl⟩ := h
     exact noIt_of hs
   | succ i =>
     simp only [obsL, List.getElem?_cons_succ] at h
     exact noIt_at h hs
 | κs, [], x, i, κ, o, o1, h, _ => by cases κs <;> simp [obsL] at h
 | [], _ :: _, _, _, _, _, _, h, _ => by simp [obsL] at h
theorem frz_keep {σ : St} {κ κ' : Nat} {o : Ob} (h : σ.ob κ = some o) (hne : κ ≠ κ') (hni : NoIt o) : ∃ o', (σ.frz κ').ob κ = some o' ∧ SameB o' o ∧ NoIt o' := by
 have stay : (∀ e l, σ.ob κ' ≠ some (.vec e l)) → ∃ o', (σ.frz κ').ob κ = some o' ∧ SameB o' o ∧ NoIt o' := fun hn => by
  refine ⟨o, ?_, SameB.rfl' _, hni⟩
  unfold St.frz
  split
  · rename_i e l ho; exact absurd ho (hn e l)
  · exact h
 cases hob : σ.ob κ' with
 | none => exact stay (fun e l z => by rw [hob] at z; cases z)
 | some o1 =>
   cases o1 with
   | vec e l =>
     have hfr : σ.frz κ' = ⟨σ.tmps.map (frzA κ' e l), (σ.objs.map (frzO κ' e l)).set κ' none⟩ := by unfold St.frz; rw [hob]
     have hget : (σ.frz κ').ob κ = frzO κ' e l (some o) := by
      rw [hfr]
      unfold St.ob at h ⊢
      simp only [List.getD_eq_getElem?_getD, List.getElem?_set, List.length_map, List.getElem?_map] at h ⊢
      rw [if_neg (fun z => hne z.symm)]
      cases hx : σ.objs[κ]? with
      | none => rw [hx] at h; cases h
      | some o2 => rw [hx] at h; simp only [Option.getD_some] at h; subst h; simp
     rw [hget]
     cases o with
     | box _ => exact ⟨_, rfl, SameB.box _ _, fun _ _ _ _ z => by cases z⟩
     | map K V l it =>
       cases it with
       | none => exact ⟨_, rfl, SameB.rfl' _, hni⟩
       | some p => exact absurd rfl (hni K V l p)
     | _ => exact ⟨_, rfl, SameB.rfl' _, hni⟩
   | _ => exact stay (fun e l z => by rw [hob] at z; cases z)
theorem frzs_keep {κ : Nat} : ∀ (l : List Nat) {σ : St} {o : Ob}, σ.ob κ = some o → κ ∉ l → NoIt o → ∃ o', (frzs l σ).ob κ = some o' ∧ SameB o' o ∧ NoIt o'
 | [], _, o, h, _, hni => ⟨o, h, SameB.rfl' _, hni⟩
 | κ' :: l, _, _, h, hn, hni => by
   obtain ⟨o1, h1, h2, h2'⟩ := frz_keep h (fun e => hn (by rw [e]; exact List.mem_cons_self ..)) hni
   obtain ⟨o2, h3, h4, h4'⟩ := frzs_keep l h1 (fun e => hn (List.mem_cons_of_mem _ e)) h2'
   exact ⟨o2, h3, h4.trans h2, h4'⟩
theorem frz_lens (σ : St) (κ : Nat) : (σ.frz κ).objs.length = σ.objs.length := by
 unfold St.frz; split <;> simp
theorem kill_same (σ : St) (κ κ' : Nat) {o : Ob} (h : σ.ob κ' = some o) (hni : NoIt o) : ∃ o', (σ.kill κ).ob κ' = some o' ∧ SameB o' o ∧ NoIt o' := by
 rw [ob_kill, h]
 cases o with
 | box cs => exact ⟨_, rfl, SameB.box _ _, fun _ _ _ _ z => by cases z⟩
 | map K V l it =>
   cases it with
   | none => exact ⟨_, rfl, SameB.rfl' _, hni⟩
   | some p => exact absurd rfl (hni K V l p)
 | _ => exact ⟨_, rfl, SameB.rfl' _, hni⟩
theorem kill_get_refs (σ : St) (κ t : Nat) {κ' : Nat} (h : κ' ∈ ((σ.kill κ).get t).refs) : κ' ∈ (σ.get t).refs := by
 rw [get_kill] at h; exact (killA_refs h).1
def SubB (o o' : Ob) : Prop := (∀ (R : Nat → RL) κ, real R κ o → real R κ o') ∧ ∀ w (R : Nat → RL) κ b, Inn w R κ o b → Inn w R κ o' b
theorem SubB.occ {o o' : Ob} (h : SubB o o') {w : World} {R : Nat → RL} {κ b : Nat} (g : Occ w R κ o b) : Occ w R κ o' b := g.imp (fun z => ⟨h.1 R κ z.1, z.2⟩) (h.2 w R κ b)
theorem kill_ob_refs (σ : St) (κ κ1 : Nat) {x : Ob} (hx : (σ.kill κ).ob κ1 = some x) : ∃ o, σ.ob κ1 = some o ∧ SubB x o ∧ ∀ κ' ∈ x.refs, κ' ∈ o.refs := by
 rw [ob_kill] at hx
 obtain ⟨o, h1, ⟨cs, rfl, rfl⟩ | ⟨rfl, _⟩ | ⟨K, V, l, L, rfl, rfl⟩⟩ := killO_some hx
 · refine ⟨_, h1, ⟨fun _ _ z => z, fun _ _ _ _ z => z⟩, fun κ' h => ?_⟩
   obtain ⟨c, hc, hk⟩ := List.mem_flatMap.1 h
   obtain ⟨d, hd, rfl⟩ := List.mem_map.1 hc
   exact List.mem_flatMap.2 ⟨d, hd, (killC_refs hk).1⟩
 · exact ⟨_, h1, ⟨fun _ _ z => z, fun _ _ _ _ z => z⟩, fun _ h => h⟩
 · exact ⟨_, h1, ⟨fun _ _ z => z, fun _ _ _ _ ⟨_, _, z, _⟩ => by cases z⟩, fun _ h => by cases h⟩
theorem Inv.kills {R : Nat → RL} : ∀ (l : List Nat) {σ : St}, Inv w0 Fz Pr0 Lo R Pr σ a w → Inv w0 Fz Pr0 Lo R Pr (Go.Rx.kills l σ) a w ∧ (∀ κ ∈ l, (∀ t, κ ∉ ((Go.Rx.kills l σ).get t).refs) ∧ ∀ κ' x, (Go.Rx.kills l σ).ob κ' = some x → κ ∉ x.refs) ∧
 (∀ κ o, σ.ob κ = some o → NoIt o → ∃ o', (Go.Rx.kills l σ).ob κ = some o' ∧ SameB o' o) ∧ (∀ t κ, κ ∈ ((Go.Rx.kills l σ).get t).refs → κ ∈ (σ.get t).refs) ∧ (∀ κ1 x, (Go.Rx.kills l σ).ob κ1 = some x → ∃ o, σ.ob κ1 = some o ∧ SubB x o ∧ ∀ κ ∈ x.refs, κ ∈ o.refs) ∧ (Go.Rx.kills l σ).objs.length = σ.objs.length ∧ (Go.Rx.kills l σ).tmps.length = σ.tmps.length
 | [], σ, h => ⟨h, fun κ hκ => (by cases hκ), fun κ o ho _ => ⟨o, ho, SameB.rfl' _⟩, fun _ _ h => h, fun κ1 x hx => ⟨x, hx, ⟨fun _ _ z => z, fun _ _ _ _ z => z⟩, fun _ h => h⟩, rfl, rfl⟩
 | κ0 :: l, σ, h => by
   obtain ⟨h1, h2, h3⟩ := h.kill κ0
   obtain ⟨k1, k2, k3, k4, k5, k6, k7⟩ := Inv.kills l h1
   refine ⟨k1, fun κ hκ => ?_, fun κ o ho hni => ?_, fun t κ hκ => kill_get_refs σ κ0 t (k4 t κ hκ), fun κ1 x hx => ?_, k6.trans (by simp [St.kill]), k7.trans (by simp [St.kill])⟩
   · rcases List.mem_cons.1 hκ with rfl | hκ
     · exact ⟨fun t ht => h2 t (k4 t _ ht), fun κ' x hx hk => by
        obtain ⟨o, q1, _, q2⟩ := k5 κ' x hx
        exact h3 κ' o q1 (q2 _ hk)⟩
     · exact k2 κ hκ
   · obtain ⟨o1, q1, q2, q2'⟩ := kill_same σ κ0 κ ho hni
     obtain ⟨o2, q3, q4⟩ := k3 κ o1 q1 q2'
     exact ⟨o2, q3, q4.trans q2⟩
   · obtain ⟨o, q1, q2, q3⟩ := k5 κ1 x hx
     obtain ⟨o1, q4, q5, q6⟩ := kill_ob_refs σ κ0 κ1 q1
     exact ⟨o1, q4, ⟨fun R κ z => q5.1 R κ (q2.1 R κ z), fun w R κ b z => q5.2 w R κ b (q2.2 w R κ b z)⟩, fun κ hκ => q6 κ (q3 κ hκ)⟩
theorem Inv.take_sep {R : Nat → RL} {σ : St} (h : Inv w0 Fz Pr0 Lo R Pr σ a w) {Pc : Nat → Prop} (hp : ∀ b, Pr b → Pc b) {ks κs acc : List Nat} {ls : List LO} {x : LOD ls} (ht : takeL σ.ob ks κs ls = some (acc, x)) (hnd : κs.Nodup) (hacc : ∀ κ ∈ acc, ∀ e l, σ.ob κ = some (.vec e l) → real R κ (.vec e l) → Pc (R κ).blk)
 (hun : ∀ κ ∈ κs, ∀ o b, σ.ob κ = some o → Occ w R κ o b → ¬ Pc b) : Sep w R Pc (obsL ks κs ls x) := by
 have hat := fun {i κ o} (hi : (obsL ks κs ls x)[i]? = some (κ, o)) => takeL_at h.ob hp ht hacc hi
 refine ⟨fun i κ o hi => (hat hi).1, fun i κ o b hi hoc => ?_, fun i j κ o κ' o' b hi hj hne hoc hoc' => ?_, fun i κ o hi hre hin => ?_⟩
 · obtain ⟨_, o1, q1, q2⟩ := hat hi
   exact hun κ (List.mem_of_getElem? (obsL_at hi).1) o1 b q1 (q2.occ.1 hoc)
 · obtain ⟨_, o1, q1, q2⟩ := hat hi
   obtain ⟨_, o2, q3, q4⟩ := hat hj
   have hκ : κ ≠ κ' := fun e => by
    subst e
    have g1 := (obsL_at hi).1
    have g2 := (obsL_at hj).1
    exact hne ((List.getElem?_inj (List.getElem?_eq_some_iff.1 g1).1 hnd).1 (g1.trans g2.symm))
   exact h.occ_ds q1 q3 hκ (q2.occ.1 hoc) (q4.occ.1 hoc')
 · obtain ⟨_, o1, q1, q2⟩ := hat hi
   exact h.occ_own q1 ((q2.1 R κ).1 hre) ((q2.2 w R κ _).1 hin)
theorem callb_sound {P : Program} {f : FuncId} {c : BCon} (hok : BoxOK P f c.pos c.pin c.ls c.sig c.rs c.fn) {R : Nat → RL} {σ σ' : St} (h : Inv w0 Fz Pr0 Lo R Pr σ a w) (hFz : ∀ b, b < w0.heap.size → Fz b ∨ Pr0 b) {args : List AV} {vs : List Value} (hargs : All2 (RepA w R Pr) args vs)
 {κ : Nat} {acc ks : List Nat} {x0 : LOD c.ls} {xs : DL c.sig} {y : LOD c.ls} {r : RDL c.rs} {dst : Option Nat} (hpre : callPreB σ c κ args = some (acc, ks, x0, xs)) (hfn : c.fn x0 xs = some (y, r)) {x : AV} {nsl : List (Nat × Ob)} (hpost : callPostB (frzs acc σ) dst κ ks c.pin c.ls c.rs y r = some (σ', x, nsl)) :
 Calls P f (vs.take c.pos ++ headV R κ c.ls :: vs.drop c.pos).toArray w fun e w' => ∃ v R' Pr', e = .returned v ∧ Inv w0 Fz Pr0 Lo R' Pr' σ' a w' ∧ RepA w' R' Pr' x v ∧ ∀ κ ∈ x.refs, σ'.ob κ ≠ none := by
 unfold callPreB at hpre
 split at hpre
 · rename_i k1 x1 k2 xs1 hta htas
   split at hpre
   · rename_i hokr
     cases hpre
     obtain ⟨hokr, hvec⟩ := Bool.and_eq_true_iff.1 hokr
     obtain ⟨hnd, hoff⟩ := okR_spec hokr
     unfold callPostB at hpost
     split at hpost
     · rename_i cs1 ns hrets hloose
       split at hpost
       · rename_i σ2 hadds
         obtain ⟨rfl, rfl, rfl⟩ : σ2 = σ' ∧ packA (selfC c.pin c.ls κ ++ cs1) = x ∧ ns = nsl := by simpa using hpost
         generalize hks : rowKeys σ.ob κ c.ls = ks at *
         let Pc : Nat → Prop := fun b => Pr b ∨ ∃ κ ∈ k1 ++ k2, ∃ e m, σ.ob κ = some (.vec e m) ∧ real R κ (.vec e m) ∧ b = (R κ).blk
         have hPc : ∀ b, Pr b → Pc b := fun b hb => .inl hb
         have hf0 : Inv w0 Fz Pr0 Lo R Pc (frzs (k1 ++ k2) σ) a w := frzs_inv (k1 ++ k2) h hFz
         obtain ⟨hf, hkl, hkk, hkt, hko, hkL, hkT⟩ := hf0.kills (loose c.pin c.ls κ ks)
         have hlen : (κ :: ks).length = c.ls.length := takeL_len hta
         have hun : ∀ κ1 ∈ κ :: ks, ∀ o b, σ.ob κ1 = some o → Occ w R κ1 o b → ¬ Pc b := fun κ1 hκ1 o b ho hoc hb => by
          rcases hb with hb | ⟨κ', hκ', e, m, h1, h2, h3⟩
          · exact (h.occ_un ho hoc).1 hb
          · exact h.occ_ds ho h1 (fun z => hoff κ1 hκ1 (z ▸ hκ')) hoc (.inl ⟨h2, h3⟩)
         have hsep := h.take_sep (Pc := Pc) hPc hta hnd (fun κ' hκ e m ho hre => .inr ⟨κ', List.mem_append_left _ hκ, e, m, ho, hre, rfl⟩) hun
         have hra := toArgs_rep (Pr' := Pc) h.ob hPc htas (fun κ' hκ o ho hre => by
          obtain ⟨e, m, q⟩ := isVecK_spec (List.all_eq_true.1 hvec κ' hκ)
          rw [q] at ho; cases ho
          exact .inr ⟨κ', List.mem_append_right _ hκ, e, m, q, hre, rfl⟩) hargs
         have hat := fun {i κ1 o} (hi : (obsL ks (κ :: ks) c.ls x0)[i]? = some (κ1, o)) => (takeL_at (Pr' := fun _ => True) h.ob (fun _ _ => trivial) hta (fun _ _ _ _ _ _ => trivial) hi).2
         have hst : ∀ κ1 o1, κ1 ∈ κ :: ks → NoIt o1 → σ.ob κ1 = some o1 → ∃ o2, (kills (loose c.pin c.ls κ ks) (frzs (k1 ++ k2) σ)).ob κ1 = some o2 ∧ SameB o2 o1 := fun κ1 o1 hm hni ho => by
          obtain ⟨o2, q1, q2, q2'⟩ := frzs_keep (k1 ++ k2) ho (hoff κ1 hm) hni
          obtain ⟨o3, q3, q4⟩ := hkk κ1 o2 q1 q2'
          exact ⟨o3, q3, q4.trans q2⟩
         let L : Nat → RL := fun j => R ((κ :: ks).getD j 0)
         have hsame : All2 (fun k k' => L k' = R k) (κ :: ks) (rg c.ls) := all2_range hlen fun i k hk => by
          show R ((κ :: ks).getD (0 + i) 0) = R k
          rw [Nat.zero_add, List.getD_eq_getElem?_getD, hk]; rfl
         have hback : All2 (fun k k' => R k' = L k) (rg c.ls) (κ :: ks) := hsame.flip fun _ _ e => e.symm
         have htl : All2 (fun k k' => L k' = R k) ks (rg c.ls).tail := by
          revert hsame
          cases rg c.ls with
          | nil => exact fun z => z.elim
          | cons _ _ => exact fun z => z.2
         have htb : All2 (fun k k' => R k' = L k) (rg c.ls).tail ks := htl.flip fun _ _ e => e.symm
         have hhead : headV L 0 c.ls = headV R κ c.ls := by
          cases c.ls with
          | nil => rfl
          | cons o _ => cases o <;> rfl
         have hcall := hok _ xs _ r hfn w Pc vs L hf.pr (Sep.relabel htl hsame hsep) hra
         rw [hhead] at hcall
         refine hcall.mono ?_
         rintro e w' ⟨Pr', rv, Lo', rfl, hpin, hw, hg, hp1, hp2, hp3, hy, hby, hrr⟩
         have hs := hg.sz
         have hgr := h.sm.sz
         let R2 : Nat → RL := fun κ1 => if κ1 ∈ κ :: ks then Lo' ((κ :: ks).idxOf κ1) else R κ1
         have hR2 : ∀ (i κ1 : Nat), (κ :: ks)[i]? = some κ1 → R2 κ1 = Lo' i := fun i κ1 hi => by
          obtain ⟨p1, p2⟩ := List.getElem?_eq_some_iff.1 hi
          show (if κ1 ∈ κ :: ks then Lo' ((κ :: ks).idxOf κ1) else R κ1) = _
          rw [if_pos (List.mem_of_getElem? hi), idx_at hnd hi]
         have hR2n : ∀ κ1, κ1 ∉ κ :: ks → R2 κ1 = R κ1 := fun κ1 hn => if_neg hn
         have hy1 : All2 (fun k k' => Lo' k' = R2 k) (κ :: ks) (rg c.ls) := all2_range hlen fun i k hk => by
          rw [Nat.zero_add]; exact (hR2 i k hk).symm
         have hyb : All2 (fun k k' => R2 k' = Lo' k) (rg c.ls) (κ :: ks) := hy1.flip fun _ _ e => e.symm
         have hyt : All2 (fun k k' => R2 k' = Lo' k) (rg c.ls).tail ks := by
          revert hyb
          cases rg c.ls with
          | nil => exact fun z => z.elim
          | cons _ _ => exact fun z => z.2
         have hyt1 : All2 (fun k k' => Lo' k' = R2 k) ks (rg c.ls).tail := hyt.flip fun _ _ e => e.symm
         have hy' : Sep w' R2 Pr' (obsL ks (κ :: ks) c.ls y) := Sep.relabel hyt hyb hy
         have hkeys : (obsL ks (κ :: ks) c.ls y).map (·.1) = κ :: ks := obsL_keys y hlen
         have hkeys0 : (obsL ks (κ :: ks) c.ls x0).map (·.1) = κ :: ks := obsL_keys x0 hlen
         have hmem0 : ∀ κ1 ∈ κ :: ks, ∃ (i : Nat) (o : Ob), (obsL ks (κ :: ks) c.ls x0)[i]? = some (κ1, o) := fun κ1 hκ1 => by
          rw [← hkeys0] at hκ1
          obtain ⟨⟨q1, q2⟩, q3, q4⟩ := List.mem_map.1 hκ1
          simp only at q4; subst q4
          obtain ⟨i, hi⟩ := List.getElem?_of_mem q3
          exact ⟨i, q2, hi⟩
         have hin : ∀ κ1 ∈ κ :: ks, (kills (loose c.pin c.ls κ ks) (frzs (k1 ++ k2) σ)).ob κ1 ≠ none := fun κ1 hκ1 => by
          obtain ⟨i, o, hi⟩ := hmem0 κ1 hκ1
          obtain ⟨o1, q1, qs⟩ := hat hi
          obtain ⟨o2, q3, _⟩ := hst κ1 o1 hκ1 (noIt_at hi qs) q1
          rw [q3]; simp
         have hlent : ∀ b, Bl w L (obs0 c.ls x0) b ↔ ∃ κ1 ∈ κ :: ks, ∃ o, (kills (loose c.pin c.ls κ ks) (frzs (k1 ++ k2) σ)).ob κ1 = some o ∧ Occ w R κ1 o b := fun b => by
          constructor
          · intro hb
            obtain ⟨i, κ1, o, hi, hoc⟩ := Bl.relabel htl hsame hb
            obtain ⟨o1, q1, q2⟩ := hat hi
            have hm := List.mem_of_getElem? (obsL_at hi).1
            obtain ⟨o2, q3, q4⟩ := hst κ1 o1 hm (noIt_at hi q2) q1
            exact ⟨κ1, hm, o2, q3, q4.occ.2 (q2.occ.1 hoc)⟩
          · rintro ⟨κ1, hm, o2, q3, hoc⟩
            obtain ⟨i, o, hi⟩ := hmem0 κ1 hm
            obtain ⟨o1, q1, q2⟩ := hat hi
            obtain ⟨o2', q3', q4⟩ := hst κ1 o1 hm (noIt_at hi q2) q1
            rw [q3] at q3'; cases q3'
            exact Bl.relabel htb hback ⟨i, κ1, o, hi, q2.occ.2 (q4.occ.1 hoc)⟩
         have hmv : ∀ κ1, R2 κ1 = R κ1 ∨ ∀ κ' o, (kills (loose c.pin c.ls κ ks) (frzs (k1 ++ k2) σ)).ob κ' = some o → κ1 ∉ o.refs := fun κ1 => by
          by_cases hm : κ1 ∈ κ :: ks
          · obtain ⟨i, hi⟩ := List.getElem?_of_mem hm
            have hil : i < c.ls.length := by rw [← hlen]; exact (List.getElem?_eq_some_iff.1 hi).1
            have hL : L i = R κ1 := by
             show R ((κ :: ks).getD i 0) = R κ1
             rw [List.getD_eq_getElem?_getD, hi]; rfl
            by_cases hcp : c.pin = false
            · by_cases hi0 : i = 0 ∧ mvd c.pin c.ls = false
              · exact .inl (by rw [hR2 i κ1 hi, hpin i hil (.inr hi0), hL])
              · have hml : κ1 ∈ loose c.pin c.ls κ ks := by
                 unfold loose
                 rw [hcp]
                 rw [hcp] at hi0
                 cases hmv : mvd false c.ls with
                 | true => exact List.mem_of_getElem? hi
                 | false =>
                   cases i with
                   | zero => exact (hi0 ⟨rfl, hmv⟩).elim
                   | succ i => exact List.mem_of_getElem? (by simpa using hi)
                exact .inr (hkl κ1 hml).2
            · exact .inl (by rw [hR2 i κ1 hi, hpin i hil (.inl (by simpa using hcp)), hL])
          · exact .inl (hR2n κ1 hm)
         have i1 := hf.lent2 (obsL ks (κ :: ks) c.ls y) (w' := w') (R' := R2) (Pr' := Pr') (by rw [hkeys]; exact hnd) (by rw [hkeys]; exact hin) (by rw [hkeys]; exact hR2n) (fun κ1 => by
          by_cases hm : κ1 ∈ κ :: ks
          · obtain ⟨i, hi⟩ := List.getElem?_of_mem hm
            have hil : i < c.ls.length := by rw [← hlen]; exact (List.getElem?_eq_some_iff.1 hi).1
            have hL : L i = R κ1 := by
             show R ((κ :: ks).getD i 0) = R κ1
             rw [List.getD_eq_getElem?_getD, hi]; rfl
            by_cases hcp : c.pin = false
            · by_cases hi0 : i = 0 ∧ mvd c.pin c.ls = false
              · exact .inl (by rw [hR2 i κ1 hi, hpin i hil (.inr hi0), hL])
              · have hml : κ1 ∈ loose c.pin c.ls κ ks := by
                 unfold loose
                 rw [hcp]
                 rw [hcp] at hi0
                 cases hmv : mvd false c.ls with
                 | true => exact List.mem_of_getElem? hi
                 | false =>
                   cases i with
                   | zero => exact (hi0 ⟨rfl, hmv⟩).elim
                   | succ i => exact List.mem_of_getElem? (by simpa using hi)
                obtain ⟨m1, m2⟩ := hkl κ1 hml
                refine .inr ⟨m1, fun κ' o _ ho => m2 κ' o ho, ?_⟩
                have := List.all_eq_true.1 hloose κ1 hml
                rw [hkL]; exact this
            · exact .inl (by rw [hR2 i κ1 hi, hpin i hil (.inl (by simpa using hcp)), hL])
          · exact .inl (hR2n κ1 hm)) hy' (fun κ1 o hm κ' hκ' => by
          obtain ⟨i, hi⟩ := List.getElem?_of_mem hm
          exact hin κ' (List.mem_cons_of_mem _ ((obsL_at hi).2.2 κ' hκ'))) (fun b hb => by
          rw [hkeys]
          rcases hby b (Bl.relabel hyt hyb hb) with q | q
          · exact .inl ((hlent b).1 q)
          · exact .inr q) (fun b hb hall => hw b hb (fun z => by
          rw [hkeys] at hall
          obtain ⟨κ1, m1, o, m2, m3⟩ := (hlent b).1 z
          exact hall κ1 m1 o m2 m3)) hg hp1 (fun b hb hlt => by
          rw [hkeys]
          exact (hp2 b hb hlt).imp id (hlent b).1) hp3 hFz
         obtain ⟨R', m1, m2, m3, m4, m5⟩ := adds_sound (N := (frzs (k1 ++ k2) σ).tmps.length) (d := dst.getD 0) (Nw := fun b => w.heap.size ≤ b ∨ Bl w L (obs0 c.ls x0) b) (fun b hb hz => by
          rcases hb with hb | hb
          · have := (h.fz b hz).1; omega
          · obtain ⟨κ1, _, o, q1, q2⟩ := (hlent b).1 hb
            exact (hf.occ_un q1 q2).2 hz) c.rs r 0 rv _ _ _ R2 cs1 ns i1 (fun κ1 o1 b ho hoc => by
          by_cases hm : κ1 ∈ κ :: ks
          · obtain ⟨⟨q1, q2⟩, q3, q4⟩ := List.mem_map.1 (show κ1 ∈ (obsL ks (κ :: ks) c.ls y).map (·.1) by rw [hkeys]; exact hm)
            simp only at q4; subst q4
            have e1 := setsL_mem _ (kills (loose c.pin c.ls κ ks) (frzs (k1 ++ k2) σ)).objs q1 q2 q3 (by rw [hkeys]; exact hnd) (ob_lt' (hin q1 hm))
            have e2 : (setsL (kills (loose c.pin c.ls κ ks) (frzs (k1 ++ k2) σ)).objs (obsL ks (κ :: ks) c.ls y)).getD q1 none = some o1 := ho
            rw [e1] at e2; cases e2
            obtain ⟨i, hi⟩ := List.getElem?_of_mem q3
            exact .inr (Bl.relabel hyt hyb ⟨i, q1, o1, hi, hoc⟩)
          · rw [ob_setObs _ _ _ (by rw [hkeys]; exact hm)] at ho
            have hnl : ∀ b, Occ w R κ1 o1 b → ¬ Bl w L (obs0 c.ls x0) b := fun b hoc z => by
             obtain ⟨κ2, q1, o2, q2, q3⟩ := (hlent b).1 z
             exact hf.occ_ds ho q2 (fun e => hm (e ▸ q1)) hoc q3
            have hoc0 : Occ w R κ1 o1 b := by
             rcases hoc with ⟨q1, q2⟩ | q1
             · exact .inl ⟨(real_same (hR2n κ1 hm) o1).1 q1, by rw [← hR2n κ1 hm]; exact q2⟩
             · exact .inr (q1.back (hR2n κ1 hm) (fun hre => hw _ (RepOb.lt hre (hf.ob κ1 o1 ho)) (hnl _ (.inl ⟨hre, rfl⟩))) (fun κ2 h2 => (hmv κ2).elim id (fun z => (z κ1 o1 ho h2).elim)))
            refine .inl fun z => ?_
            rcases z with z | z
            · have := (hf.ob κ1 o1 ho).occ_lt hoc0; omega
            · exact hnl b hoc0 z) hrr hrets hadds
         have hκset : ((kills (loose c.pin c.ls κ ks) (frzs (k1 ++ k2) σ)).setObs (obsL ks (κ :: ks) c.ls y)).ob κ ≠ none := by
          obtain ⟨⟨q1, q2⟩, q3, q4⟩ := List.mem_map.1 (show κ ∈ (obsL ks (κ :: ks) c.ls y).map (·.1) by rw [hkeys]; exact List.mem_cons_self ..)
          have e1 := setsL_mem _ (kills (loose c.pin c.ls κ ks) (frzs (k1 ++ k2) σ)).objs q1 q2 q3 (by rw [hkeys]; exact hnd) (ob_lt' (hin q1 (by rw [show q1 = κ from q4]; exact List.mem_cons_self ..)))
          intro hz
          have hz' : (setsL (kills (loose c.pin c.ls κ ks) (frzs (k1 ++ k2) σ)).objs (obsL ks (κ :: ks) c.ls y)).getD κ none = none := hz
          have q5 : q1 = κ := q4
          have e3 : (setsL (kills (loose c.pin c.ls κ ks) (frzs (k1 ++ k2) σ)).objs (obsL ks (κ :: ks) c.ls y)).getD κ none = some q2 := q5 ▸ e1
          rw [e3] at hz'
          cases hz'
         have hself : All2 (RepCp w' R' Pr') (selfC c.pin c.ls κ) (selfV c.pin c.ls Lo') := by
          unfold selfC selfV
          cases mvd c.pin c.ls with
          | false => trivial
          | true =>
            refine ⟨?_, trivial⟩
            show (Lo' 0).hdr = (R' κ).hdr
            rw [(m4 κ hκset).1, hR2 0 κ rfl]
         refine ⟨packV (selfV c.pin c.ls Lo' ++ rv), R', Pr', rfl, m1, packA_rep (hself.append m2), fun κ' hκ => ?_⟩
         obtain ⟨c', hc, hk⟩ := packA_refs hκ
         rcases List.mem_append.1 hc with hc | hc
         · unfold selfC at hc
           split at hc
           · obtain rfl : c' = .one (.own κ) := by simpa using hc
             have : κ' = κ := by simpa [Cp.refs, C.refs] using hk
             subst this
             exact (m4 κ' hκset).2
           · cases hc
         · exact m3 c' hc κ' hk
       · cases hpost
     · cases hpost
   · cases hpre
 · cases hpre
end
end Go.Rx
