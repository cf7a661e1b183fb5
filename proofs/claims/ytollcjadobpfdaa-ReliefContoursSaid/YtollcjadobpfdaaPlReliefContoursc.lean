/- Plain laws for ReliefContours. No condition. -/
import Derived.Test.YtollcjadobpfdaaPlReliefContoursb
namespace Go.Proofs.Ytollcjadobpfdaa.Rw
open Go.Rx
set_option linter.unusedVariables false
set_option linter.unusedSimpArgs false
def sideP (s : Int) (ps : List (Int × Int)) : Int → Int × Int := if s = 1 then ptA ps else flipP 2097153 (ptA ps)
theorem sideP_neg {s : Int} (hs : s = 1 ∨ s = -1) {ps : List (Int × Int)} (ho : ∀ q ∈ ps, okQ q) (a b c : Int) : w64 (s * sg (crossI (ptA ps a) (ptA ps b) (ptA ps c))) < 0 ↔ crossI (sideP s ps a) (sideP s ps b) (sideP s ps c) < 0 := by
 have h1 := sg_cases (crossI (ptA ps a) (ptA ps b) (ptA ps c))
 have h2 := @sg_neg (crossI (ptA ps a) (ptA ps b) (ptA ps c))
 have h3 := @sg_pos (crossI (ptA ps a) (ptA ps b) (ptA ps c))
 unfold sideP
 rcases hs with rfl | rfl
 · rw [if_pos rfl, w64_id (by omega) (by omega)]; omega
 · have h4 := crossI_swap (ptA ps a) (ptA ps b) (ptA ps c)
   rw [if_neg (by omega), flip_cross, w64_id (by omega) (by omega)]; omega
def chainS (P : Int → Int × Int) : Nat → List Int
 | 0 => []
 | i + 1 => (i : Int) :: popS P i (chainS P i)
theorem popS_mem {P : Int → Int × Int} {k x : Int} : ∀ {s : List Int}, x ∈ popS P k s → x ∈ s
 | [], h => h
 | [t], h => h
 | t :: a :: s, h => by
   simp only [popS] at h
   split at h
   · exact List.mem_cons_of_mem _ (popS_mem h)
   · exact h
theorem popS_len {P : Int → Int × Int} {k : Int} : ∀ (s : List Int), (popS P k s).length ≤ s.length
 | [] => Nat.le_refl _
 | [t] => Nat.le_refl _
 | t :: a :: s => by
   simp only [popS]
   split
   · exact Nat.le_trans (popS_len (a :: s)) (by simp)
   · exact Nat.le_refl _
theorem chainS_in {P : Int → Int × Int} : ∀ {i : Nat} {x : Int}, x ∈ chainS P i → 0 ≤ x ∧ x < i
 | i + 1, x, h => by
   simp only [chainS, List.mem_cons] at h
   rcases h with rfl | h
   · omega
   · have := chainS_in (popS_mem h); omega
theorem chainS_len {P : Int → Int × Int} : ∀ (i : Nat), (chainS P i).length ≤ i
 | 0 => Nat.le_refl _
 | i + 1 => by
   have := chainS_len (P := P) i
   have := popS_len (P := P) (k := i) (chainS P i)
   simp only [chainS, List.length_cons]; omega
theorem chainS_stk {P : Int → Int × Int} {K : Int} {n : Int} (hr : Rising P K n) : ∀ (i : Nat), ((i + 1 : Nat) : Int) ≤ n → Stk P ((i + 1 : Nat) : Int) (chainS P (i + 1))
 | 0, h => by simp [chainS, popS, Stk]
 | i + 1, h => by
   have ih := chainS_stk hr i (by omega)
   simp only [chainS] at ih ⊢
   have := stk_next hr (k := ((i + 1 : Nat) : Int)) (by omega) (s := popS P i (chainS P i)) (by rw [show ((i + 1 : Nat) : Int) - 1 = (i : Int) by omega]; exact ih)
   rw [show ((i + 1 : Nat) : Int) - 1 = (i : Int) by omega] at this
   rw [show ((i + 1 + 1 : Nat) : Int) = ((i + 1 : Nat) : Int) + 1 by omega]
   exact this
def pairsF (l : List Int) : Nat → Nat → List (Int × Int)
 | 0, _ => []
 | d + 1, i => (l.getD (i - 1) 0, l.getD i 0) :: pairsF l d (i + 1)
theorem pairsF_mem {l : List Int} {e : Int × Int} : ∀ {d i : Nat}, e ∈ pairsF l d i ↔ ∃ j, i ≤ j ∧ j < i + d ∧ e = (l.getD (j - 1) 0, l.getD j 0)
 | 0, i => by simp only [pairsF, List.not_mem_nil, false_iff]; rintro ⟨j, a, b, _⟩; omega
 | d + 1, i => by
   simp only [pairsF, List.mem_cons, pairsF_mem]
   constructor
   · rintro (h | ⟨j, a, b, c⟩)
     · exact ⟨i, by omega, by omega, h⟩
     · exact ⟨j, by omega, by omega, c⟩
   · rintro ⟨j, a, b, c⟩
     by_cases h : j = i
     · subst h; exact .inl c
     · exact .inr ⟨j, by omega, by omega, c⟩
theorem links_mem {e : Int × Int} : ∀ {s : List Int}, e ∈ linksS s ↔ ∃ j, j + 1 < s.length ∧ e = (s.getD (j + 1) 0, s.getD j 0)
 | [] => by simp [linksS]
 | [x] => by simp [linksS]
 | t :: a :: s => by
   rw [linksS, List.mem_cons, links_mem]
   constructor
   · rintro (h | ⟨j, h1, h2⟩)
     · exact ⟨0, by simp, by simpa using h⟩
     · exact ⟨j + 1, by simp at h1 ⊢; omega, by simpa using h2⟩
   · rintro ⟨j, h1, h2⟩
     cases j with
     | zero => exact .inl (by simpa using h2)
     | succ j => exact .inr ⟨j, by simp at h1 ⊢; omega, by simpa using h2⟩
theorem pairs_links {s : List Int} {e : Int × Int} : e ∈ pairsF s.reverse (s.length - 1) 1 ↔ e ∈ linksS s := by
 rw [pairsF_mem, links_mem]
 have g : ∀ i, i < s.length → s.reverse.getD i 0 = s.getD (s.length - 1 - i) 0 := fun i hi => by
  simp only [List.getD_eq_getElem?_getD]
  rw [List.getElem?_reverse hi]
 constructor
 · rintro ⟨j, a, b, rfl⟩
   refine ⟨s.length - 1 - j, by omega, ?_⟩
   rw [g _ (by omega), g _ (by omega), show s.length - 1 - (j - 1) = s.length - 1 - j + 1 by omega]
 · rintro ⟨j, a, rfl⟩
   refine ⟨s.length - 1 - j, by omega, by omega, ?_⟩
   rw [g _ (by omega), g _ (by omega), show s.length - 1 - (s.length - 1 - j - 1) = j + 1 by omega, show s.length - 1 - (s.length - 1 - j) = j by omega]
def setE (s : Int) (m : List ((Int × Int) × Bool)) (e : Int × Int) : List ((Int × Int) × Bool) := if 0 < s then msetB kE m e true else msetB kE m (e.2, e.1) true
theorem setE_get {s : Int} {e : Int × Int} : ∀ {E : List (Int × Int)} {m : List ((Int × Int) × Bool)}, (mgetB kE (E.foldl (setE s) m) e).getD false = true ↔ (mgetB kE m e).getD false = true ∨ (if 0 < s then e else (e.2, e.1)) ∈ E
 | [], m => by simp
 | x :: E, m => by
   rw [List.foldl_cons, setE_get, List.mem_cons]
   unfold setE
   by_cases hs : 0 < s
   · simp only [hs, if_true, mget_mset]
     by_cases h : e = x
     · simp [h]
     · simp [h]
   · simp only [hs, if_false, mget_mset]
     by_cases h : e = (x.2, x.1)
     · rw [if_pos h]; simp [h]
     · rw [if_neg h]
       have : ¬ (e.2, e.1) = x := fun z => h (by rw [← z])
       simp [this]
section
variable {ps : List (Int × Int)} {k : Nat}
theorem rim_l6 {r0 : f87_t_l0} (y10 : List Int) (l : List Int) (hl : l.length ≤ 1000) (x11 : Int) (x12 : Nat) (h12 : x12 < 10) (s : Int) : ∀ (d i n : Nat) (m : List ((Int × Int) × Bool)), i + d = max i l.length → 1 ≤ i → i ≤ 1001 → d < n →
 f87_l6 k r0 n y10 l m ps x11 (x12 : Int) s (i : Int) = r0 y10 ((pairsF l d i).foldl (setE s) m) ps x11 ((x12 + 1 : Nat) : Int)
 | 0, i, n + 1, m, hd, hi, hi2, hn => by
   rw [f87_l6, f87_l6_B, if_neg (by omega), w64_id (by omega) (by omega)]
   rfl
 | d + 1, i, n + 1, m, hd, hi, hi2, hn => by
   have h1 : (i : Int) < (l.length : Int) := by omega
   have wi : w64 ((i : Int) - 1) = (i : Int) - 1 := w64_id (by omega) (by omega)
   have e1 : (((i : Int) - 1).toNat) = i - 1 := by omega
   have ih := fun m => rim_l6 (r0 := r0) y10 l hl x11 x12 h12 s d (i + 1) n m (by omega) (by omega) (by omega) (by omega)
   rw [f87_l6, f87_l6_B, if_pos h1, wi]
   simp only [f87_c17, f87_c17_B]
   rw [w64_id (n := (i : Int) + 1) (by omega) (by omega), show (i : Int) + 1 = ((i + 1 : Nat) : Int) by omega, ih, ih, pairsF, List.foldl_cons, e1]
   rw [Int.toNat_natCast]
   unfold setE
   by_cases hs : 0 < s
   · rw [if_pos hs, if_pos (by omega), if_pos (by omega), if_pos (by omega), if_pos h1, if_pos hs]
   · rw [if_neg hs, if_pos (by omega), if_pos h1, if_pos (by omega), if_pos (by omega), if_neg hs]
theorem rim_l4 {r2 : f87_t_l2} {r0 : f87_t_l0} (ho : ∀ q ∈ ps, okQ q) (h2 : ps.length ≤ 200) {s : Int} (hs : s = 1 ∨ s = -1) (y10 : List Int) (m : List ((Int × Int) × Bool)) (x11 x12 x17 : Int) (i : Nat) (hi : i < ps.length) : ∀ (stk : List Int) (n : Nat), (∀ x ∈ stk, 0 ≤ x ∧ x < ps.length) → stk.length ≤ 400 → stk.length < n →
 f87_l4 k r2 r0 n y10 stk.reverse m ps x11 x12 x17 (i : Int) s = r2 y10 ((i : Int) :: popS (sideP s ps) i stk).reverse m ps x11 x12 x17 ((i + 1 : Nat) : Int) s
 | [], n + 1, hx, hl, hn => by
   rw [f87_l4, f87_l4_B, if_neg (by simp)]
   simp only [f87_r9, f87_r9_B]
   rw [if_neg (by simp), if_pos (by simp), w64_id (by omega) (by omega)]
   rfl
 | [t], n + 1, hx, hl, hn => by
   rw [f87_l4, f87_l4_B, if_neg (by simp)]
   simp only [f87_r9, f87_r9_B]
   rw [if_neg (by simp), if_pos (by simp), w64_id (by omega) (by omega)]
   rfl
 | t :: a :: st, n + 1, hx, hl, hn => by
   have ht := hx t (by simp)
   have ha := hx a (by simp)
   have hlen : ((t :: a :: st).reverse.length : Int) = st.length + 2 := by simp only [List.length_reverse, List.length_cons]; omega
   simp only [List.length_cons] at hl hn
   have w1 : w64 ((st.length : Int) + 2 - 2) = st.length := by rw [w64_id (by omega) (by omega)]; omega
   have w2 : w64 ((st.length : Int) + 2 - 1) = ((st.length + 1 : Nat) : Int) := by rw [w64_id (by omega) (by omega)]; omega
   have ga : (t :: a :: st).reverse.getD st.length 0 = a := by simp [List.getD_eq_getElem?_getD]
   have gt : (t :: a :: st).reverse.getD (st.length + 1) 0 = t := by simp [List.getD_eq_getElem?_getD]
   rw [f87_l4, f87_l4_B, hlen, w1, w2, Int.toNat_natCast, Int.toNat_natCast, ga, gt]
   rw [if_pos (by omega), if_pos (by omega), if_pos (by omega), if_pos ha.1, if_pos ha.2, if_pos (by omega), if_pos (by omega), if_pos ht.1, if_pos ht.2, if_pos (by omega), if_pos (by omega)]
   have e : ∀ i : Int, ((ps.getD i.toNat (0, 0)).1, (ps.getD i.toNat (0, 0)).2) = ptA ps i := fun i => rfl
   rw [e, e, e, turnP (ptA_ok ho _) (ptA_ok ho _) (ptA_ok ho _), Option.bind_some]
   simp only [f87_r9, f87_r9_B]
   have sp := sideP_neg hs ho a t i
   rw [hlen, w2, Int.toNat_natCast]
   rw [popS]
   by_cases g : crossI (sideP s ps a) (sideP s ps t) (sideP s ps i) < 0
   · rw [if_pos (decide_eq_true (sp.2 g)), if_pos (by omega), if_pos (by omega), if_pos g]
     have tk : (t :: a :: st).reverse.take (st.length + 1) = (a :: st).reverse := by
      rw [List.reverse_cons, List.take_append_of_le_length (by simp)]
      exact List.take_of_length_le (by simp)
     rw [tk]
     exact rim_l4 ho h2 hs y10 m x11 x12 x17 i hi (a :: st) n (fun x hx' => hx x (List.mem_cons_of_mem _ hx')) (by simp; omega) (by simp; omega)
   · rw [if_neg (by rw [decide_eq_true_iff]; exact fun z => g (sp.1 z)), if_pos (by simp; omega), if_neg g, w64_id (by omega) (by omega)]
     rw [List.reverse_cons (a := (i : Int))]
     rfl
theorem rim_l2 {r0 : f87_t_l0} (hk : 1000 ≤ k) (ho : ∀ q ∈ ps, okQ q) (h2 : ps.length ≤ 200) {s : Int} (hs : s = 1 ∨ s = -1) (y10 : List Int) (m : List ((Int × Int) × Bool)) (x11 : Int) (x12 : Nat) (h12 : x12 < 10) : ∀ (d i n : Nat), i + d = ps.length → d < n →
 f87_l2 k r0 n y10 (chainS (sideP s ps) i).reverse m ps x11 (x12 : Int) (ps.length : Int) (i : Int) s = r0 y10 ((pairsF (chainS (sideP s ps) ps.length).reverse ((chainS (sideP s ps) ps.length).length - 1) 1).foldl (setE s) m) ps x11 ((x12 + 1 : Nat) : Int)
 | 0, i, n + 1, hd, hn => by
   have : i = ps.length := by omega
   subst this
   have hl := chainS_len (P := sideP s ps) ps.length
   rw [f87_l2, f87_l2_B, if_neg (by omega)]
   have := rim_l6 (k := k) (ps := ps) (r0 := r0) y10 (chainS (sideP s ps) ps.length).reverse (by simp; omega) x11 x12 h12 s ((chainS (sideP s ps) ps.length).length - 1) 1 k m (by simp; omega) (by omega) (by omega) (by omega)
   exact this
 | d + 1, i, n + 1, hd, hn => by
   have hl := chainS_len (P := sideP s ps) i
   rw [f87_l2, f87_l2_B, if_pos (by omega)]
   rw [rim_l4 ho h2 hs y10 m x11 _ _ i (by omega) (chainS (sideP s ps) i) k (fun x hx => by have := chainS_in hx; omega) (by omega) (by omega)]
   exact rim_l2 hk ho h2 hs y10 m x11 x12 h12 d (i + 1) n (by omega) (by omega)
def rimM (ps : List (Int × Int)) : List ((Int × Int) × Bool) :=
 let E := fun s => pairsF (chainS (sideP s ps) ps.length).reverse ((chainS (sideP s ps) ps.length).length - 1) 1
 (E (-1)).foldl (setE (-1)) ((E 1).foldl (setE 1) [])
theorem rim_ev (hk : 1000 ≤ k) (ho : ∀ q ∈ ps, okQ q) (h2 : ps.length ≤ 200) : f87 k ps = some ((rimM ps, ()), ()) := by
 simp only [f87, f87_entry_B]
 obtain ⟨k, rfl⟩ : ∃ m, k = m + 4 := ⟨k - 4, by omega⟩
 have a := fun r0 m => rim_l2 (k := k + 4) (r0 := r0) hk ho h2 (s := 1) (.inl rfl) [1, -1] m 2 0 (by omega) ps.length 0 (k + 4) (by omega) (by omega)
 have b := fun r0 m => rim_l2 (k := k + 4) (r0 := r0) hk ho h2 (s := -1) (.inr rfl) [1, -1] m 2 1 (by omega) ps.length 0 (k + 4) (by omega) (by omega)
 have c0 : ∀ s, (chainS (sideP s ps) 0).reverse = [] := fun s => rfl
 simp only [c0] at a b
 show f87_l0 (k + 4) (k + 3 + 1) [1, -1] [] ps 2 0 = _
 rw [f87_l0, f87_l0_B, if_pos (by omega), if_pos (by omega), if_pos (by simp)]
 refine (a _ _).trans ?_
 show f87_l0 (k + 4) (k + 2 + 1) [1, -1] _ ps 2 1 = _
 rw [f87_l0, f87_l0_B, if_pos (by omega), if_pos (by omega), if_pos (by simp)]
 refine (b _ _).trans ?_
 show f87_l0 (k + 4) (k + 1 + 1) [1, -1] _ ps 2 2 = _
 rw [f87_l0, f87_l0_B, if_neg (by omega)]
 rfl
theorem rim_outer (ho : ∀ q ∈ ps, okQ q) (hs : sortedQ ps) (h1 : 1 ≤ ps.length) (e : Int × Int) : (mgetB kE (rimM ps) e).getD false = true ↔ OuterE (ptA ps) ps.length e ∧ e.1 ≠ e.2 := by
 have hr := rising_of ho hs
 have st : ∀ {P : Int → Int × Int}, Rising P 2097153 ps.length → ∀ e, e ∈ linksS (chainS P ps.length) ↔ e.1 < e.2 ∧ OuterE P ps.length e := fun {P} hP e => by
  obtain ⟨n, hn⟩ : ∃ n, ps.length = n + 1 := ⟨ps.length - 1, by omega⟩
  have := chainS_stk hP n (by omega)
  rw [hn] at hP ⊢
  simp only [chainS] at this ⊢
  generalize popS P (n : Int) (chainS P n) = q at this ⊢
  rw [show (n : Int) = ((n + 1 : Nat) : Int) - 1 by omega] at this ⊢
  exact stk_edges hP this
 unfold rimM
 rw [setE_get, setE_get, pairs_links, pairs_links]
 have e1 : sideP 1 ps = ptA ps := if_pos rfl
 have e2 : sideP (-1) ps = flipP 2097153 (ptA ps) := if_neg (by omega)
 rw [e1, e2, if_pos (by omega), if_neg (by omega), st hr, st (flip_rise hr), flip_outer]
 simp only [mgetB, Option.getD_none, Bool.false_eq_true, false_or]
 constructor
 · rintro (⟨a, b⟩ | ⟨a, b⟩)
   · exact ⟨b, by omega⟩
   · exact ⟨b, by omega⟩
 · rintro ⟨a, b⟩
   rcases Int.lt_or_gt_of_ne b with g | g
   · exact .inl ⟨g, a⟩
   · exact .inr ⟨g, a⟩
end
end Go.Proofs.Ytollcjadobpfdaa.Rw
namespace Go.Proofs.Ytollcjadobpfdaa.Rw
open Go.Rx
set_option linter.unusedVariables false
set_option linter.unusedSimpArgs false
theorem index_l0 {k : Nat} {l : List Bool} (hl : l.length ≤ 1000) : ∀ (d i n : Nat), i + d = l.length → d < n → ∃ r : Int, f108_l0 k n l false (l.length : Int) (i : Int) = some (r, ()) ∧ (0 ≤ r ↔ ∃ j, i ≤ j ∧ l.getD j true = false)
 | 0, i, n + 1, hd, hn => ⟨-1, by rw [f108_l0, f108_l0_B, if_neg (by omega)], by
   refine ⟨fun z => by omega, fun ⟨j, h1, h2⟩ => ?_⟩
   rw [List.getD_eq_getElem?_getD, List.getElem?_eq_none (by omega)] at h2
   simp at h2⟩
 | d + 1, i, n + 1, hd, hn => by
   have hi : i < l.length := by omega
   have e : ∀ x, l.getD i x = l[i] := fun x => by simp [List.getD_eq_getElem?_getD, List.getElem?_eq_getElem hi]
   rw [f108_l0, f108_l0_B, if_pos (by omega), if_pos (by omega), if_pos (by omega), Int.toNat_natCast, e]
   by_cases h : l[i] = false
   · rw [if_pos (by simp [h])]
     exact ⟨_, rfl, fun _ => ⟨i, Nat.le_refl _, by rw [e]; exact h⟩, fun _ => by omega⟩
   · rw [if_neg (by simpa using h), w64_id (by omega) (by omega), show (i : Int) + 1 = ((i + 1 : Nat) : Int) by omega]
     obtain ⟨r, h1, h2⟩ := index_l0 (k := k) hl d (i + 1) n (by omega) (by omega)
     refine ⟨r, by simpa using h1, h2.trans ⟨fun ⟨j, a, b⟩ => ⟨j, by omega, b⟩, fun ⟨j, a, b⟩ => ⟨j, ?_, b⟩⟩⟩
     rcases Nat.lt_or_eq_of_le a with q | q
     · omega
     · subst q; rw [e] at b; exact absurd b h
open Classical in
theorem contains_ev {k : Nat} (hk : 1000 ≤ k) {l : List Bool} (hl : l.length ≤ 900) : f88 k l false = some (decide (∃ j, l.getD j true = false), ()) := by
 simp only [f88, f88_entry_B, f108, f108_entry_B]
 obtain ⟨r, h1, h2⟩ := index_l0 (k := k) (l := l) (by omega) l.length 0 k (by omega) (by omega)
 have h1' : f108_l0 k k l (decide ((decide (false = true)) = true)) (l.length : Int) 0 = some (r, ()) := by simpa using h1
 rw [h1', Option.bind_some]
 congr 2
 rw [decide_eq_decide, h2]
 exact ⟨fun ⟨j, _, b⟩ => ⟨j, b⟩, fun ⟨j, b⟩ => ⟨j, Nat.zero_le _, b⟩⟩
def badE (m : List ((Int × Int) × Int)) (r : List ((Int × Int) × Bool)) (e : Int × Int) : Prop := decide ((mgetB kE m (e.2, e.1)).isSome = true) = decide ((mgetB kE r e).getD false = true)
open Classical in
noncomputable def leftV (m : List ((Int × Int) × Int)) (r : List ((Int × Int) × Bool)) (used : List Bool) (left : List ((Int × Int) × Int)) : Int :=
 if (∃ kv ∈ left, badE m r kv.1) ∨ (∃ j : Nat, used.getD j true = false ∧ ∀ kv ∈ left, kv.1.1 ≠ j) then 3 else 0
theorem set_getD {l : List Bool} {t j : Nat} (ht : t < l.length) : (l.set t true).getD j true = false ↔ j ≠ t ∧ l.getD j true = false := by
 simp only [List.getD_eq_getElem?_getD, List.getElem?_set]
 by_cases h : t = j
 · subst h; simp [ht]
 · simp only [h, if_false]
   exact ⟨fun z => ⟨fun q => h q.symm, z⟩, fun z => z.2⟩
theorem erase_mem {α : Type} : ∀ {l : List α} {i : Nat} (hi : i < l.length) (x : α), x ∈ l ↔ x = l[i] ∨ x ∈ l.eraseIdx i
 | y :: l, 0, hi, x => by simp [List.eraseIdx]
 | y :: l, i + 1, hi, x => by
   have := erase_mem (l := l) (i := i) (by simpa using hi) x
   rw [List.eraseIdx_cons_succ, List.mem_cons, List.mem_cons, this, List.getElem_cons_succ]
   exact ⟨fun h => h.elim (fun e => .inr (.inl e)) fun h => h.elim .inl fun h => .inr (.inr h), fun h => h.elim (fun e => .inr (.inl e)) fun h => h.elim .inl fun h => .inr (.inr h)⟩
theorem valid_l0 {k : Nat} (hk : 1000 ≤ k) {m : List ((Int × Int) × Int)} {r : List ((Int × Int) × Bool)} : ∀ (n : Nat) (used : List Bool) (cur : Option ((Int × Int) × Int)) (left : List ((Int × Int) × Int)), left.length < n → used.length ≤ 900 → (∀ kv ∈ left, 0 ≤ kv.1.1 ∧ kv.1.1 < used.length) →
 f52_l0 k n used m cur left r = some (leftV m r used left, ())
 | n + 1, used, cur, left, hn, hu, hin => by
   classical
   rw [f52_l0, f52_l0_B]
   refine pickK_intro (fun h => ?_) (fun i hi => ?_)
   · subst h
     rw [contains_ev hk hu, Option.bind_some]
     unfold leftV
     by_cases g : ∃ j, used.getD j true = false
     · rw [if_pos (decide_eq_true g), if_pos (.inr (g.imp fun j z => ⟨z, by simp⟩))]
     · rw [if_neg (by simpa using g), if_neg]
       rintro (⟨kv, h, _⟩ | ⟨j, h, _⟩)
       · simp at h
       · exact g ⟨j, h⟩
   · have hx := hin left[i] (List.getElem_mem hi)
     rw [if_pos hx.1, if_pos hx.2]
     by_cases g : badE m r left[i].1
     · rw [if_pos (by exact g)]
       unfold leftV
       rw [if_pos (.inl ⟨left[i], List.getElem_mem hi, g⟩)]
     · rw [if_neg (by exact g)]
       have hlen : (left.eraseIdx i).length < n := by rw [List.length_eraseIdx_of_lt hi]; omega
       rw [valid_l0 hk n _ _ _ hlen (by rw [List.length_set]; exact hu) (fun kv h => by rw [List.length_set]; exact hin kv ((erase_mem hi kv).2 (.inr h)))]
       congr 2
       unfold leftV
       have ht : left[i].1.1.toNat < used.length := by omega
       have iff : ((∃ kv ∈ left.eraseIdx i, badE m r kv.1) ∨ (∃ j : Nat, (used.set left[i].1.1.toNat true).getD j true = false ∧ ∀ kv ∈ left.eraseIdx i, kv.1.1 ≠ j)) ↔ ((∃ kv ∈ left, badE m r kv.1) ∨ (∃ j : Nat, used.getD j true = false ∧ ∀ kv ∈ left, kv.1.1 ≠ j)) := by
        constructor
        · rintro (⟨kv, h1, h2⟩ | ⟨j, h1, h2⟩)
          · exact .inl ⟨kv, (erase_mem hi kv).2 (.inr h1), h2⟩
          · rw [set_getD ht] at h1
            refine .inr ⟨j, h1.2, fun kv h => ?_⟩
            rcases (erase_mem hi kv).1 h with rfl | h
            · omega
            · exact h2 kv h
        · rintro (⟨kv, h1, h2⟩ | ⟨j, h1, h2⟩)
          · rcases (erase_mem hi kv).1 h1 with rfl | h
            · exact absurd h2 g
            · exact .inl ⟨kv, h, h2⟩
          · refine .inr ⟨j, (set_getD ht).2 ⟨fun z => ?_, h1⟩, fun kv h => h2 kv ((erase_mem hi kv).2 (.inr h))⟩
            have := h2 left[i] (List.getElem_mem hi)
            omega
       by_cases c : (∃ kv ∈ left, badE m r kv.1) ∨ (∃ j : Nat, used.getD j true = false ∧ ∀ kv ∈ left, kv.1.1 ≠ j)
       · rw [if_pos c, if_pos (iff.2 c)]
       · rw [if_neg c, if_neg (fun z => c (iff.1 z))]
theorem edgesL_len : ∀ cs : List Cell3, (edgesL cs).length = 3 * cs.length
 | [] => rfl
 | c :: cs => by
   have := edgesL_len cs
   rw [show edgesL (c :: cs) = edgesC c ++ edgesL cs from rfl, List.length_append, List.length_cons, this]
   simp only [edgesC, List.length_cons, List.length_nil]
   omega
open Classical in
noncomputable def validV (ps : List (Int × Int)) (cs : List Cell3) : Int := if formV ps cs = 0 then (if cs.length = 0 then 14 else if TilesV (ptA ps) ps.length cs then 0 else 3) else formV ps cs
theorem FormOK.edge {ps : List (Int × Int)} {cs : List Cell3} (h : FormOK ps cs) {e : Int × Int} (he : e ∈ edgesL cs) : 0 ≤ e.1 ∧ e.1 < ps.length ∧ e.1 ≠ e.2 := by
 obtain ⟨c, hc, hec⟩ := List.mem_flatMap.1 he
 have k := h.cell c hc
 have c1 := k.corner (edge_corner hec).1
 refine ⟨c1.1, c1.2, fun z => ?_⟩
 obtain ⟨x, x1, x2, x3, x4⟩ := edge_rot (p := ptA ps) hec k.ccw
 rw [z] at x3
 have : crossI (ptA ps e.2) (ptA ps e.2) (ptA ps x) = 0 := by simp only [crossI]; grind
 omega
theorem corner_edge {c : Cell3} {i : Int} (h : cornerC c i) : ∃ e ∈ edgesC c, e.1 = i := by
 unfold cornerC at h
 simp only [edgesC, List.mem_cons, List.not_mem_nil, or_false]
 rcases h with rfl | rfl | rfl
 · exact ⟨_, .inl rfl, rfl⟩
 · exact ⟨_, .inr (.inl rfl), rfl⟩
 · exact ⟨_, .inr (.inr rfl), rfl⟩
theorem valid_ev {k : Nat} {ps : List (Int × Int)} {cs : List Cell3} (hk : 2000 ≤ k) (hp : ps.length < 4611686018427387904) (hc : cs.length < 4611686018427387904) : f52 k (ps, cs) = some (validV ps cs, ()) := by
 classical
 simp only [f52, f52_entry_B]
 rw [form_ev (by omega) hc hp, Option.bind_some]
 unfold validV
 by_cases hf : formV ps cs = 0
 · rw [if_neg (fun z => z hf), if_pos hf]
   have hok := formV_ok hf
   have l1 := hok.len
   have l2 := hok.clen
   by_cases h0 : cs.length = 0
   · rw [if_pos (by omega), if_pos h0]
   · rw [if_neg (by omega), if_neg h0, if_pos (by omega), if_pos (by omega), edges_ev (by omega) (by omega), Option.bind_some]
     have keys : (cs.foldl setC []).map Prod.fst = (edgesL cs).foldl insK [] := setC_keys cs []
     have klen : (cs.foldl setC []).length = ((edgesL cs).foldl insK []).length := by rw [← keys, List.length_map]
     have kmem : ∀ e, e ∈ (cs.foldl setC []).map Prod.fst ↔ e ∈ edgesL cs := fun e => by rw [keys, foldK_mem]; simp
     have kdup := foldK_len (E := edgesL cs) (s := [])
     have kle := foldK_le (E := edgesL cs) (s := [])
     rw [edgesL_len] at kdup kle
     simp only [List.length_nil, Nat.zero_add, List.not_mem_nil, not_false_eq_true, implies_true, and_true] at kdup kle
     simp only
     rw [w64_id (by omega) (by omega), klen]
     by_cases hd : (edgesL cs).Nodup
     · rw [if_neg (fun z => z (by have := kdup.2 hd; omega)), rim_ev (by omega) hok.ok (by omega), Option.bind_some]
       have hlist : ∀ kv ∈ cs.foldl setC [], kv.1 ∈ edgesL cs := fun kv h => (kmem kv.1).1 (List.mem_map.2 ⟨kv, h, rfl⟩)
       rw [valid_l0 (by omega) k _ _ _ (by omega) (by simp; omega) (fun kv h => by have := hok.edge (hlist kv h); simp; omega)]
       congr 2
       have n1 : 1 ≤ ps.length := by
        cases cs with
        | nil => exact absurd rfl h0
        | cons c l => have := (hok.cell c (by simp)).lo; have := (hok.cell c (by simp)).b; have := (hok.cell c (by simp)).bn; omega
       have bad : ∀ e ∈ edgesL cs, ¬ badE (cs.foldl setC []) (rimM ps) e ↔ (OuterE (ptA ps) ps.length e ↔ (e.2, e.1) ∉ edgesL cs) := fun e he => by
        unfold badE
        rw [decide_eq_decide, mget_key, kmem, rim_outer hok.ok hok.up n1]
        have := (hok.edge he).2.2
        by_cases a : OuterE (ptA ps) ps.length e <;> by_cases b : (e.2, e.1) ∈ edgesL cs <;> simp [a, b, this]
       unfold leftV
       by_cases ht : TilesV (ptA ps) ps.length cs
       · rw [if_pos ht, if_neg]
         rintro (⟨kv, h1, h2⟩ | ⟨j, h1, h2⟩)
         · exact (bad kv.1 (hlist kv h1)).2 (ht.2.1 kv.1 (hlist kv h1)) h2
         · have hj : j < ps.length := by
            rcases Nat.lt_or_ge j ps.length with g | g
            · exact g
            · rw [List.getD_eq_getElem?_getD, List.getElem?_eq_none (by simp; omega)] at h1; simp at h1
           obtain ⟨c, hc, hj'⟩ := ht.2.2 j (by omega) (by omega)
           obtain ⟨e, he, e1⟩ := corner_edge hj'
           obtain ⟨kv, k1, k2⟩ := List.mem_map.1 ((kmem e).2 (List.mem_flatMap.2 ⟨c, hc, he⟩))
           exact h2 kv k1 (by rw [k2]; exact e1)
       · rw [if_neg ht]
         by_cases h3 : ∀ e ∈ edgesL cs, ¬ badE (cs.foldl setC []) (rimM ps) e
         · have hu : ¬ ∀ i : Int, 0 ≤ i → i < ps.length → ∃ c ∈ cs, cornerC c i := fun z => ht ⟨hd, fun e he => (bad e he).1 (h3 e he), z⟩
           rw [if_pos]
           refine .inr (Classical.byContradiction fun z => hu fun i i0 i1 => Classical.byContradiction fun q => z ⟨i.toNat, ?_, fun kv h e => q ?_⟩)
           · have : i.toNat < ps.length := by omega
             simp [List.getD_eq_getElem?_getD, this]
           · obtain ⟨c, hc, hec⟩ := List.mem_flatMap.1 (hlist kv h)
             exact ⟨c, hc, by have := (edge_corner hec).1; rwa [show kv.1.1 = i by omega] at this⟩
         · rw [if_pos]
           refine .inl (Classical.byContradiction fun z => h3 fun e he hb => z ?_)
           obtain ⟨kv, k1, k2⟩ := List.mem_map.1 ((kmem e).2 he)
           exact ⟨kv, k1, by rw [k2]; exact hb⟩
     · rw [if_pos (fun z => hd (kdup.1 (by omega))), if_neg (fun z => hd z.1)]
 · rw [if_pos hf, if_neg hf]
end Go.Proofs.Ytollcjadobpfdaa.Rw
namespace Go.Proofs.Ytollcjadobpfdaa.Rw
open Go.Rx
set_option linter.unusedVariables false
set_option linter.unusedSimpArgs false
section
variable {ps : List (Int × Int)} {cs : List Cell3} {k : Nat}
theorem pt_eq (ps : List (Int × Int)) (i : Int) : ((ps.getD i.toNat (0, 0)).1, (ps.getD i.toNat (0, 0)).2) = ptA ps i := rfl
theorem tmod3 : Int.tmod 1 3 = 1 ∧ Int.tmod 2 3 = 2 ∧ Int.tmod 3 3 = 0 := by decide
open Classical in
theorem inside_ev (hk : 1000 ≤ k) (ho : ∀ q ∈ ps, okQ q) {c : Cell3} (hc : CellOK (ptA ps) ps.length c) {q : Int × Int} (hq : okQ q) : f103 k ps c q = some (decide (∀ e ∈ edgesC c, 0 ≤ crossI (ptA ps e.1) (ptA ps e.2) q), ()) := by
 obtain ⟨k, rfl⟩ : ∃ m, k = m + 4 := ⟨k - 4, by omega⟩
 obtain ⟨a, b, d⟩ := c
 have c1 := hc.corner (i := a) (.inl rfl)
 have c2 := hc.corner (i := b) (.inr (.inl rfl))
 have c3 := hc.corner (i := d) (.inr (.inr rfl))
 have step : ∀ (m : Nat) (x s t : Int), 0 ≤ x → x < 3 → ([a, b, d] : List Int).getD x.toNat 0 = s → ([a, b, d] : List Int).getD ((x + 1).tmod 3).toNat 0 = t → 0 ≤ (x + 1).tmod 3 → (x + 1).tmod 3 < 3 → (0 ≤ s ∧ s < ps.length) → (0 ≤ t ∧ t < ps.length) →
  f103_l0 (k + 4) (m + 1) a b d q.1 q.2 ps x = if 0 ≤ crossI (ptA ps s) (ptA ps t) q then f103_l0 (k + 4) m a b d q.1 q.2 ps (x + 1) else some (false, ()) := fun m x s t h0 h3 hs ht h5 h6 h7 h8 => by
  rw [f103_l0, f103_l0_B, w64_id (n := x + 1) (by omega) (by omega), hs, ht, if_pos h3, if_pos h0, if_pos h3, if_pos h7.1, if_pos h7.2, if_pos h5, if_pos h6, if_pos h8.1, if_pos h8.2, pt_eq, pt_eq]
  rw [turnR (ptA_ok ho _) (ptA_ok ho _) (show okQ (q.1, q.2) from hq), Option.bind_some]
  have := @sg_neg (crossI (ptA ps s) (ptA ps t) (q.1, q.2))
  by_cases g : 0 ≤ crossI (ptA ps s) (ptA ps t) q
  · rw [if_neg (fun z => by have := this.1 z; have g' : 0 ≤ crossI (ptA ps s) (ptA ps t) (q.1, q.2) := g; omega), if_pos g]
  · rw [if_pos (this.2 (by have g' : ¬ 0 ≤ crossI (ptA ps s) (ptA ps t) (q.1, q.2) := g; omega)), if_neg g]
 simp only [f103, f103_entry_B]
 rw [step (k + 3) 0 a b (by omega) (by omega) rfl (by rw [show ((0 : Int) + 1).tmod 3 = 1 from tmod3.1]; rfl) (by rw [show ((0 : Int) + 1).tmod 3 = 1 from tmod3.1]; omega) (by rw [show ((0 : Int) + 1).tmod 3 = 1 from tmod3.1]; omega) c1 c2]
 rw [step (k + 2) (0 + 1) b d (by omega) (by omega) rfl (by rw [show ((0 : Int) + 1 + 1).tmod 3 = 2 from tmod3.2.1]; rfl) (by rw [show ((0 : Int) + 1 + 1).tmod 3 = 2 from tmod3.2.1]; omega) (by rw [show ((0 : Int) + 1 + 1).tmod 3 = 2 from tmod3.2.1]; omega) c2 c3]
 rw [step (k + 1) (0 + 1 + 1) d a (by omega) (by omega) rfl (by rw [show ((0 : Int) + 1 + 1 + 1).tmod 3 = 0 from tmod3.2.2]; rfl) (by rw [show ((0 : Int) + 1 + 1 + 1).tmod 3 = 0 from tmod3.2.2]; omega) (by rw [show ((0 : Int) + 1 + 1 + 1).tmod 3 = 0 from tmod3.2.2]; omega) c3 c1]
 have hend : f103_l0 (k + 4) (k + 1) a b d q.1 q.2 ps (0 + 1 + 1 + 1) = some (true, ()) := by
  rw [f103_l0, f103_l0_B, if_neg (by omega)]
 rw [hend]
 have e : (∀ e ∈ edgesC (a, (b, d)), 0 ≤ crossI (ptA ps e.1) (ptA ps e.2) q) ↔ (0 ≤ crossI (ptA ps a) (ptA ps b) q ∧ 0 ≤ crossI (ptA ps b) (ptA ps d) q ∧ 0 ≤ crossI (ptA ps d) (ptA ps a) q) := by simp [edgesC]
 by_cases g1 : 0 ≤ crossI (ptA ps a) (ptA ps b) q
 · rw [if_pos g1]
   by_cases g2 : 0 ≤ crossI (ptA ps b) (ptA ps d) q
   · rw [if_pos g2]
     by_cases g3 : 0 ≤ crossI (ptA ps d) (ptA ps a) q
     · rw [if_pos g3, decide_eq_true (e.2 ⟨g1, g2, g3⟩)]
     · rw [if_neg g3, decide_eq_false (fun z => g3 (e.1 z).2.2)]
   · rw [if_neg g2, decide_eq_false (fun z => g2 (e.1 z).2.1)]
 · rw [if_neg g1, decide_eq_false (fun z => g1 (e.1 z).1)]
theorem twice_ev (ho : ∀ q ∈ ps, okQ q) {c : Cell3} (hc : CellOK (ptA ps) ps.length c) : f102 k ps c = some (crossI (ptA ps c.1) (ptA ps c.2.1) (ptA ps c.2.2), ()) := by
 have c1 := hc.corner (i := c.1) (.inl rfl)
 have c2 := hc.corner (i := c.2.1) (.inr (.inl rfl))
 have c3 := hc.corner (i := c.2.2) (.inr (.inr rfl))
 simp only [f102, f102_entry_B]
 rw [if_pos c1.1, if_pos c1.2, if_pos c2.1, if_pos c2.2, if_pos c3.1, if_pos c3.2]
 exact congrArg (fun z => some (z, ())) (cross_w64 (ptA_ok ho c.1) (ptA_ok ho c.2.1) (ptA_ok ho c.2.2))
open Classical in
theorem overlap_l4 {r2 : f104_t_l2} {r0 : f104_t_l0} (ho : ∀ q ∈ ps, okQ q) (a b c d e f x11 x13 s t : Int) (h0 : 0 ≤ x13) (h3 : x13 < 3) (hs : ([a, b, c] : List Int).getD x13.toNat 0 = s) (ht : ([a, b, c] : List Int).getD ((x13 + 1).tmod 3).toNat 0 = t) (h5 : 0 ≤ (x13 + 1).tmod 3) (h6 : (x13 + 1).tmod 3 < 3)
 (cs : 0 ≤ s ∧ s < ps.length) (ct : 0 ≤ t ∧ t < ps.length) (cd : 0 ≤ d ∧ d < ps.length) (ce : 0 ≤ e ∧ e < ps.length) (cf : 0 ≤ f ∧ f < ps.length) (n : Nat) (hn : 4 ≤ n) :
 f104_l4 k r2 r0 n a b c d e f ps x11 x13 0 true = if crossI (ptA ps s) (ptA ps t) (ptA ps d) ≤ 0 ∧ crossI (ptA ps s) (ptA ps t) (ptA ps e) ≤ 0 ∧ crossI (ptA ps s) (ptA ps t) (ptA ps f) ≤ 0 then some (false, ()) else r2 a b c d e f ps x11 (x13 + 1) := by
 obtain ⟨n, rfl⟩ : ∃ m, n = m + 4 := ⟨n - 4, by omega⟩
 have step : ∀ (m : Nat) (x g : Int) (v : Bool), 0 ≤ x → x < 3 → ([d, e, f] : List Int).getD x.toNat 0 = g → (0 ≤ g ∧ g < ps.length) → f104_l4 k r2 r0 (m + 1) a b c d e f ps x11 x13 x v = f104_l4 k r2 r0 m a b c d e f ps x11 x13 (x + 1) (decide (v = true ∧ crossI (ptA ps s) (ptA ps t) (ptA ps g) ≤ 0)) := fun m x g v g0 g3 hg cg => by
  rw [f104_l4, f104_l4_B, w64_id (n := x13 + 1) (by omega) (by omega), hs, ht, hg, if_pos g3, if_pos g0, if_pos g3]
  simp only [f104_r10, f104_r10_B]
  rw [w64_id (n := x + 1) (by omega) (by omega)]
  by_cases hv : v = true
  · rw [if_pos hv, if_pos h0, if_pos h3, if_pos cs.1, if_pos cs.2, if_pos h5, if_pos h6, if_pos ct.1, if_pos ct.2, if_pos cg.1, if_pos cg.2, pt_eq, pt_eq, pt_eq, turnR (ptA_ok ho _) (ptA_ok ho _) (ptA_ok ho _), Option.bind_some]
    congr 1
    have := @sg_pos (crossI (ptA ps s) (ptA ps t) (ptA ps g))
    simp only [hv, true_and, decide_eq_true_eq, decide_eq_decide]
    omega
  · rw [if_neg hv]
    congr 1
    simp [hv]
 rw [step (n + 3) 0 d true (by omega) (by omega) rfl cd, step (n + 2) (0 + 1) e _ (by omega) (by omega) rfl ce, step (n + 1) (0 + 1 + 1) f _ (by omega) (by omega) rfl cf]
 rw [f104_l4, f104_l4_B, if_neg (by omega), w64_id (n := x13 + 1) (by omega) (by omega)]
 simp only [true_and, decide_eq_true_eq, and_assoc]
open Classical in
theorem overlap_l2 {r0 : f104_t_l0} (hk : 10 ≤ k) (ho : ∀ q ∈ ps, okQ q) {c d : Cell3} (hc : CellOK (ptA ps) ps.length c) (hd : CellOK (ptA ps) ps.length d) (x11 : Int) (h11 : 0 ≤ x11) (h12 : x11 < 10) (n : Nat) (hn : 4 ≤ n) :
 f104_l2 k r0 n c.1 c.2.1 c.2.2 d.1 d.2.1 d.2.2 ps x11 0 = if partedBy (ptA ps) c d then some (false, ()) else r0 d.1 d.2.1 d.2.2 c.1 c.2.1 c.2.2 ps (x11 + 1) := by
 obtain ⟨n, rfl⟩ : ∃ m, n = m + 4 := ⟨n - 4, by omega⟩
 have c1 := hc.corner (i := c.1) (.inl rfl)
 have c2 := hc.corner (i := c.2.1) (.inr (.inl rfl))
 have c3 := hc.corner (i := c.2.2) (.inr (.inr rfl))
 have d1 := hd.corner (i := d.1) (.inl rfl)
 have d2 := hd.corner (i := d.2.1) (.inr (.inl rfl))
 have d3 := hd.corner (i := d.2.2) (.inr (.inr rfl))
 have t1 : ((0 : Int) + 1).tmod 3 = 1 := tmod3.1
 have t2 : ((0 : Int) + 1 + 1).tmod 3 = 2 := tmod3.2.1
 have t3 : ((0 : Int) + 1 + 1 + 1).tmod 3 = 0 := tmod3.2.2
 have e1 : f104_l2 k r0 (n + 4) c.1 c.2.1 c.2.2 d.1 d.2.1 d.2.2 ps x11 (0) = if crossI (ptA ps c.1) (ptA ps c.2.1) (ptA ps d.1) ≤ 0 ∧ crossI (ptA ps c.1) (ptA ps c.2.1) (ptA ps d.2.1) ≤ 0 ∧ crossI (ptA ps c.1) (ptA ps c.2.1) (ptA ps d.2.2) ≤ 0 then some (false, ()) else f104_l2 k r0 (n + 3) c.1 c.2.1 c.2.2 d.1 d.2.1 d.2.2 ps x11 (0 + 1) := by
  rw [f104_l2, f104_l2_B, if_pos (by omega)]
  exact overlap_l4 ho _ _ _ _ _ _ x11 (0) c.1 c.2.1 (by omega) (by omega) rfl (by rw [t1]; rfl) (by rw [t1]; omega) (by rw [t1]; omega) c1 c2 d1 d2 d3 k (by omega)
 have e2 : f104_l2 k r0 (n + 3) c.1 c.2.1 c.2.2 d.1 d.2.1 d.2.2 ps x11 (0 + 1) = if crossI (ptA ps c.2.1) (ptA ps c.2.2) (ptA ps d.1) ≤ 0 ∧ crossI (ptA ps c.2.1) (ptA ps c.2.2) (ptA ps d.2.1) ≤ 0 ∧ crossI (ptA ps c.2.1) (ptA ps c.2.2) (ptA ps d.2.2) ≤ 0 then some (false, ()) else f104_l2 k r0 (n + 2) c.1 c.2.1 c.2.2 d.1 d.2.1 d.2.2 ps x11 (0 + 1 + 1) := by
  rw [f104_l2, f104_l2_B, if_pos (by omega)]
  exact overlap_l4 ho _ _ _ _ _ _ x11 (0 + 1) c.2.1 c.2.2 (by omega) (by omega) rfl (by rw [t2]; rfl) (by rw [t2]; omega) (by rw [t2]; omega) c2 c3 d1 d2 d3 k (by omega)
 have e3 : f104_l2 k r0 (n + 2) c.1 c.2.1 c.2.2 d.1 d.2.1 d.2.2 ps x11 (0 + 1 + 1) = if crossI (ptA ps c.2.2) (ptA ps c.1) (ptA ps d.1) ≤ 0 ∧ crossI (ptA ps c.2.2) (ptA ps c.1) (ptA ps d.2.1) ≤ 0 ∧ crossI (ptA ps c.2.2) (ptA ps c.1) (ptA ps d.2.2) ≤ 0 then some (false, ()) else f104_l2 k r0 (n + 1) c.1 c.2.1 c.2.2 d.1 d.2.1 d.2.2 ps x11 (0 + 1 + 1 + 1) := by
  rw [f104_l2, f104_l2_B, if_pos (by omega)]
  exact overlap_l4 ho _ _ _ _ _ _ x11 (0 + 1 + 1) c.2.2 c.1 (by omega) (by omega) rfl (by rw [t3]; rfl) (by rw [t3]; omega) (by rw [t3]; omega) c3 c1 d1 d2 d3 k (by omega)
 have e4 : f104_l2 k r0 (n + 1) c.1 c.2.1 c.2.2 d.1 d.2.1 d.2.2 ps x11 (0 + 1 + 1 + 1) = r0 d.1 d.2.1 d.2.2 c.1 c.2.1 c.2.2 ps (x11 + 1) := by
  rw [f104_l2, f104_l2_B, if_neg (by omega), w64_id (by omega) (by omega)]
 rw [e1, e2, e3, e4]
 have hp : partedBy (ptA ps) c d ↔ (crossI (ptA ps c.1) (ptA ps c.2.1) (ptA ps d.1) ≤ 0 ∧ crossI (ptA ps c.1) (ptA ps c.2.1) (ptA ps d.2.1) ≤ 0 ∧ crossI (ptA ps c.1) (ptA ps c.2.1) (ptA ps d.2.2) ≤ 0) ∨ (crossI (ptA ps c.2.1) (ptA ps c.2.2) (ptA ps d.1) ≤ 0 ∧ crossI (ptA ps c.2.1) (ptA ps c.2.2) (ptA ps d.2.1) ≤ 0 ∧ crossI (ptA ps c.2.1) (ptA ps c.2.2) (ptA ps d.2.2) ≤ 0) ∨ (crossI (ptA ps c.2.2) (ptA ps c.1) (ptA ps d.1) ≤ 0 ∧ crossI (ptA ps c.2.2) (ptA ps c.1) (ptA ps d.2.1) ≤ 0 ∧ crossI (ptA ps c.2.2) (ptA ps c.1) (ptA ps d.2.2) ≤ 0) := by
  unfold partedBy
  simp [edgesC]
 by_cases g1 : (crossI (ptA ps c.1) (ptA ps c.2.1) (ptA ps d.1) ≤ 0 ∧ crossI (ptA ps c.1) (ptA ps c.2.1) (ptA ps d.2.1) ≤ 0 ∧ crossI (ptA ps c.1) (ptA ps c.2.1) (ptA ps d.2.2) ≤ 0)
 · rw [if_pos g1, if_pos (hp.2 (.inl g1))]
 · rw [if_neg g1]
   by_cases g2 : (crossI (ptA ps c.2.1) (ptA ps c.2.2) (ptA ps d.1) ≤ 0 ∧ crossI (ptA ps c.2.1) (ptA ps c.2.2) (ptA ps d.2.1) ≤ 0 ∧ crossI (ptA ps c.2.1) (ptA ps c.2.2) (ptA ps d.2.2) ≤ 0)
   · rw [if_pos g2, if_pos (hp.2 (.inr (.inl g2)))]
   · rw [if_neg g2]
     by_cases g3 : (crossI (ptA ps c.2.2) (ptA ps c.1) (ptA ps d.1) ≤ 0 ∧ crossI (ptA ps c.2.2) (ptA ps c.1) (ptA ps d.2.1) ≤ 0 ∧ crossI (ptA ps c.2.2) (ptA ps c.1) (ptA ps d.2.2) ≤ 0)
     · rw [if_pos g3, if_pos (hp.2 (.inr (.inr g3)))]
     · rw [if_neg g3, if_neg (fun z => (hp.1 z).elim g1 fun z => z.elim g2 g3)]
open Classical in
theorem overlap_ev (hk : 1000 ≤ k) (ho : ∀ q ∈ ps, okQ q) {c d : Cell3} (hc : CellOK (ptA ps) ps.length c) (hd : CellOK (ptA ps) ps.length d) : f104 k ps c d = some (decide (¬ (partedBy (ptA ps) c d ∨ partedBy (ptA ps) d c)), ()) := by
 obtain ⟨k, rfl⟩ : ∃ m, k = m + 4 := ⟨k - 4, by omega⟩
 simp only [f104, f104_entry_B]
 have e1 : f104_l0 (k + 4) (k + 4) c.1 c.2.1 c.2.2 d.1 d.2.1 d.2.2 ps 0 = if partedBy (ptA ps) c d then some (false, ()) else f104_l0 (k + 4) (k + 3) d.1 d.2.1 d.2.2 c.1 c.2.1 c.2.2 ps (0 + 1) := by
  rw [f104_l0, f104_l0_B, if_pos (by omega)]
  exact overlap_l2 (by omega) ho hc hd 0 (by omega) (by omega) _ (by omega)
 have e2 : f104_l0 (k + 4) (k + 3) d.1 d.2.1 d.2.2 c.1 c.2.1 c.2.2 ps (0 + 1) = if partedBy (ptA ps) d c then some (false, ()) else f104_l0 (k + 4) (k + 2) c.1 c.2.1 c.2.2 d.1 d.2.1 d.2.2 ps (0 + 1 + 1) := by
  rw [f104_l0, f104_l0_B, if_pos (by omega)]
  exact overlap_l2 (by omega) ho hd hc (0 + 1) (by omega) (by omega) _ (by omega)
 have e3 : f104_l0 (k + 4) (k + 2) c.1 c.2.1 c.2.2 d.1 d.2.1 d.2.2 ps (0 + 1 + 1) = some (true, ()) := by
  rw [f104_l0, f104_l0_B, if_neg (by omega)]
 rw [e1, e2, e3]
 by_cases g1 : partedBy (ptA ps) c d
 · rw [if_pos g1]; simp [g1]
 · rw [if_neg g1]
   by_cases g2 : partedBy (ptA ps) d c
   · rw [if_pos g2]; simp [g2]
   · rw [if_neg g2]; simp [g1, g2]
end
end Go.Proofs.Ytollcjadobpfdaa.Rw
namespace Go.Proofs.Ytollcjadobpfdaa.Rw
open Go.Rx
set_option linter.unusedVariables false
set_option linter.unusedSimpArgs false
def sumI (f : Nat → Int) : Nat → Nat → Int
 | 0, _ => 0
 | d + 1, i => f i + sumI f d (i + 1)
theorem sumI_range (f : Nat → Int) : ∀ (d i : Nat), sumF f (List.range' i d) = sumI f d i
 | 0, i => rfl
 | d + 1, i => by rw [List.range'_succ, sumF, sumI, sumI_range f d (i + 1)]
theorem sumI_size {f : Nat → Int} {B : Int} (h : ∀ i, -B ≤ f i ∧ f i ≤ B) : ∀ (d i : Nat), -(B * d) ≤ sumI f d i ∧ sumI f d i ≤ B * d
 | 0, i => by simp [sumI]
 | d + 1, i => by
   have := sumI_size h d (i + 1)
   have := h i
   have e : B * ((d + 1 : Nat) : Int) = B * d + B := by rw [show ((d + 1 : Nat) : Int) = (d : Int) + 1 by omega, Int.mul_add, Int.mul_one]
   simp only [sumI]
   omega
open Classical in
noncomputable def hullE (ps : List (Int × Int)) (e : Int × Int) : Int := if MaxE (ptA ps) ps.length e ∧ e.1 ≠ e.2 then shoe (ptA ps) e else 0
theorem sumF_filter {α : Type} (q : α → Bool) (f : α → Int) : ∀ l : List α, sumF f (l.filter q) = sumF (fun x => if q x = true then f x else 0) l
 | [] => rfl
 | x :: l => by
   cases h : q x
   · simp [h, sumF, sumF_filter q f l]
   · simp [h, sumF, sumF_filter q f l]
theorem hull_sumI (ps : List (Int × Int)) : sumF (shoe (ptA ps)) (maxL (ptA ps) ps.length) = sumI (fun i => sumI (fun m => hullE ps ((i : Int), (m : Int))) ps.length 0) ps.length 0 := by
 classical
 unfold maxL
 rw [sumF_filter]
 unfold allE
 rw [sumF_flat, List.range_eq_range', ← sumI_range]
 refine sumF_congr fun i _ => ?_
 rw [sumF_map, ← sumI_range]
 refine sumF_congr fun m _ => ?_
 unfold hullE
 simp only [decide_eq_true_eq]
theorem shoe_size {ps : List (Int × Int)} (ho : ∀ q ∈ ps, okQ q) (e : Int × Int) : -2199023255552 ≤ shoe (ptA ps) e ∧ shoe (ptA ps) e ≤ 2199023255552 := by
 have h1 := ptA_ok ho e.1
 have h2 := ptA_ok ho e.2
 unfold okQ at h1 h2
 have a := mul_size (A := 1048576) (B := 1048576) (x := (ptA ps e.1).1) (y := (ptA ps e.2).2) (by omega) (by omega) (by omega) (by omega)
 have b := mul_size (A := 1048576) (B := 1048576) (x := (ptA ps e.2).1) (y := (ptA ps e.1).2) (by omega) (by omega) (by omega) (by omega)
 unfold shoe
 omega
theorem hullE_size {ps : List (Int × Int)} (ho : ∀ q ∈ ps, okQ q) (e : Int × Int) : -2199023255552 ≤ hullE ps e ∧ hullE ps e ≤ 2199023255552 := by
 have := shoe_size ho e
 unfold hullE
 split <;> omega
section
variable {ps : List (Int × Int)} {k : Nat}
def offE (ps : List (Int × Int)) (i j m : Int) : Prop := crossI (ptA ps i) (ptA ps j) (ptA ps m) < 0 ∨ crossI (ptA ps i) (ptA ps j) (ptA ps m) = 0 ∧ m ≠ i ∧ m ≠ j ∧ (ltQ (ptA ps m) (ptA ps i) ↔ ltQ (ptA ps m) (ptA ps j))
open Classical in
theorem hull_l4 {r2 : f105_t_l2} {r0 : f105_t_l0} (ho : ∀ q ∈ ps, okQ q) (h2 : ps.length ≤ 200) (x13 : Int) (i j : Nat) (hi : i < 300) (hj : j < 300) (x20 x3 : Int) (hx : -2305843009213693952 ≤ x3 ∧ x3 ≤ 2305843009213693952) : ∀ (d m n : Nat) (v : Bool), m + d = ps.length → d < n →
 f105_l4 k r2 r0 n (ptA ps i).1 (ptA ps i).2 (ptA ps j).1 (ptA ps j).2 ps x13 (i : Int) x20 (j : Int) x3 (ps.length : Int) (m : Int) v = r2 (ptA ps i).1 (ptA ps i).2 ps x13 (i : Int) x20 ((j + 1 : Nat) : Int) (if v = true ∧ ∀ x : Int, m ≤ x → x < ps.length → ¬ offE ps i j x then x3 + shoe (ptA ps) (i, j) else x3)
 | 0, m, n + 1, v, hd, hn => by
   have hs := shoe_size ho ((i : Int), (j : Int))
   rw [f105_l4, f105_l4_B, if_neg (by omega)]
   simp only [f105_c17, f105_c17_B]
   rw [w64_id (n := (j : Int) + 1) (by omega) (by omega), show (j : Int) + 1 = ((j + 1 : Nat) : Int) by omega]
   have h1 := ptA_ok ho (i : Int)
   have h2' := ptA_ok ho (j : Int)
   unfold okQ at h1 h2'
   have a := mul_size (A := 1048576) (B := 1048576) (x := (ptA ps i).1) (y := (ptA ps j).2) (by omega) (by omega) (by omega) (by omega)
   have b := mul_size (A := 1048576) (B := 1048576) (x := (ptA ps j).1) (y := (ptA ps i).2) (by omega) (by omega) (by omega) (by omega)
   have w : w64 (x3 + w64 (w64 ((ptA ps i).1 * (ptA ps j).2) - w64 ((ptA ps j).1 * (ptA ps i).2))) = x3 + shoe (ptA ps) (i, j) := by
    rw [w64_id (n := (ptA ps i).1 * (ptA ps j).2) (by omega) (by omega), w64_id (n := (ptA ps j).1 * (ptA ps i).2) (by omega) (by omega), w64_id (n := (ptA ps i).1 * (ptA ps j).2 - (ptA ps j).1 * (ptA ps i).2) (by omega) (by omega)]
    unfold shoe at hs ⊢
    simp only at hs ⊢
    rw [w64_id (by omega) (by omega)]
   rw [w]
   by_cases hv : v = true
   · rw [if_pos hv, if_pos ⟨hv, fun x a b => by omega⟩]
   · rw [if_neg hv, if_neg (fun z => hv z.1)]
 | d + 1, m, n + 1, v, hd, hn => by
   rw [f105_l4, f105_l4_B, if_pos (by omega), if_pos (by omega), if_pos (by omega)]
   rw [pt_eq, turnR (show okQ ((ptA ps i).1, (ptA ps i).2) from ptA_ok ho _) (show okQ ((ptA ps j).1, (ptA ps j).2) from ptA_ok ho _) (ptA_ok ho _), Option.bind_some]
   simp only [f105_r13, f105_r13_B, f105_c14, f105_c14_B]
   rw [w64_id (n := (m : Int) + 1) (by omega) (by omega), show (m : Int) + 1 = ((m + 1 : Nat) : Int) by omega]
   have ih := fun v => hull_l4 (r2 := r2) (r0 := r0) ho h2 x13 i j hi hj x20 x3 hx d (m + 1) n v (by omega) (by omega)
   have hn := @sg_neg (crossI (ptA ps i) (ptA ps j) (ptA ps m))
   have hz := @sg_zero (crossI (ptA ps i) (ptA ps j) (ptA ps m))
   have t1 : offE ps i j m → ((v = true ∧ ∀ x : Int, m ≤ x → x < ps.length → ¬ offE ps i j x) ↔ False) := fun h => ⟨fun z => z.2 m (by omega) (by omega) h, False.elim⟩
   have t2 : ¬ offE ps i j m → ((v = true ∧ ∀ x : Int, ((m + 1 : Nat) : Int) ≤ x → x < ps.length → ¬ offE ps i j x) ↔ (v = true ∧ ∀ x : Int, m ≤ x → x < ps.length → ¬ offE ps i j x)) := fun h => by
    refine ⟨fun z => ⟨z.1, fun x x0 x1 => ?_⟩, fun z => ⟨z.1, fun x x0 x1 => z.2 x (by omega) x1⟩⟩
    rcases Int.lt_or_eq_of_le x0 with q | q
    · exact z.2 x (by omega) x1
    · subst q; exact h
   have bad : offE ps i j m → f105_l4 k r2 r0 n (ptA ps i).1 (ptA ps i).2 (ptA ps j).1 (ptA ps j).2 ps x13 (i : Int) x20 (j : Int) x3 (ps.length : Int) ((m + 1 : Nat) : Int) (decide (false = true)) = r2 (ptA ps i).1 (ptA ps i).2 ps x13 (i : Int) x20 ((j + 1 : Nat) : Int) (if v = true ∧ ∀ x : Int, m ≤ x → x < ps.length → ¬ offE ps i j x then x3 + shoe (ptA ps) (i, j) else x3) := fun h => by
    rw [ih, if_neg (fun z => by simp at z), if_neg (fun z => ((t1 h).1 z))]
   have good : ¬ offE ps i j m → f105_l4 k r2 r0 n (ptA ps i).1 (ptA ps i).2 (ptA ps j).1 (ptA ps j).2 ps x13 (i : Int) x20 (j : Int) x3 (ps.length : Int) ((m + 1 : Nat) : Int) v = r2 (ptA ps i).1 (ptA ps i).2 ps x13 (i : Int) x20 ((j + 1 : Nat) : Int) (if v = true ∧ ∀ x : Int, m ≤ x → x < ps.length → ¬ offE ps i j x then x3 + shoe (ptA ps) (i, j) else x3) := fun h => by
    rw [ih]
    congr 1
    by_cases q : v = true ∧ ∀ x : Int, m ≤ x → x < ps.length → ¬ offE ps i j x
    · rw [if_pos q, if_pos ((t2 h).2 q)]
    · rw [if_neg q, if_neg (fun z => q ((t2 h).1 z))]
   have dv : decide ((decide ((decide (v = true)) = true)) = true) = v := by cases v <;> rfl
   have dv1 : decide ((decide (v = true)) = true) = v := by cases v <;> rfl
   obtain ⟨r, e, er⟩ := less_ev k (ptA_ok ho (m : Int)) (ptA_ok ho (i : Int))
   obtain ⟨r', e', er'⟩ := less_ev k (ptA_ok ho (m : Int)) (ptA_ok ho (j : Int))
   have e : f81 k (ptA ps m) ((ptA ps i).1, (ptA ps i).2) = some (r, ()) := e
   have e' : f81 k (ptA ps m) ((ptA ps j).1, (ptA ps j).2) = some (r', ()) := e'
   rw [show crossI ((ptA ps i).1, (ptA ps i).2) ((ptA ps j).1, (ptA ps j).2) (ptA ps m) = crossI (ptA ps i) (ptA ps j) (ptA ps m) from rfl]
   by_cases g1 : crossI (ptA ps i) (ptA ps j) (ptA ps m) < 0
   · rw [if_pos (hn.2 g1), if_pos trivial]
     exact bad (.inl g1)
   · rw [if_neg (fun z => g1 (hn.1 z))]
     simp only [Bool.decide_eq_true]
     by_cases g2 : crossI (ptA ps i) (ptA ps j) (ptA ps m) = 0
     · rw [if_pos (hz.2 g2)]
       by_cases g3 : (m : Int) = i
       · rw [if_neg (fun z => z g3), if_neg (by simp)]
         exact good (fun z => z.elim g1 fun z => z.2.1 g3)
       · rw [if_pos g3]
         by_cases g4 : (m : Int) = j
         · rw [if_neg (fun z => z g4), if_neg (by simp)]
           exact good (fun z => z.elim g1 fun z => z.2.2.1 g4)
         · rw [if_pos g4, e, Option.bind_some, e', Option.bind_some]
           simp only
           by_cases g5 : (ltQ (ptA ps m) (ptA ps i) ↔ ltQ (ptA ps m) (ptA ps j))
           · rw [if_pos (by rw [decide_eq_true_iff, decide_eq_decide, er, er']; exact g5)]
             exact bad (.inr ⟨g2, g3, g4, g5⟩)
           · rw [if_neg (by rw [decide_eq_true_iff, decide_eq_decide, er, er']; exact g5)]
             exact good (fun z => z.elim g1 fun z => g5 z.2.2.2)
     · rw [if_neg (fun z => g2 (hz.1 z)), if_neg (by simp)]
       exact good (fun z => z.elim g1 fun z => g2 z.1)
open Classical in
theorem hullE_eq (hs : sortedQ ps) {i j : Nat} (hi : i < ps.length) (hj : j < ps.length) (x3 : Int) : (if decide (¬ (i : Int) = j) = true ∧ ∀ x : Int, ((0 : Nat) : Int) ≤ x → x < ps.length → ¬ offE ps i j x then x3 + shoe (ptA ps) (i, j) else x3) = x3 + hullE ps (i, j) := by
 have m := maxE_iff hs (i := (i : Int)) (k := (j : Int)) (by omega) (by omega) (by omega) (by omega)
 unfold hullE
 by_cases h : MaxE (ptA ps) ps.length ((i : Int), (j : Int)) ∧ (i : Int) ≠ j
 · rw [if_pos h, if_pos ⟨decide_eq_true h.2, fun x x0 x1 => m.1 h.1 x x0 x1⟩]
 · rw [if_neg h, if_neg (fun z => h ⟨m.2 fun x x0 x1 => z.2 x x0 x1, of_decide_eq_true z.1⟩)]; omega
theorem hull_l2 {r0 : f105_t_l0} (hk : 1000 ≤ k) (ho : ∀ q ∈ ps, okQ q) (hs : sortedQ ps) (h2 : ps.length ≤ 200) (x13 : Int) (i : Nat) (hi : i < ps.length) : ∀ (d j n : Nat) (c : Nat) (x3 : Int), j + d = ps.length → d < n → c + d ≤ 1000000 → -(2199023255552 * c) ≤ x3 → x3 ≤ 2199023255552 * c →
 f105_l2 k r0 n (ptA ps i).1 (ptA ps i).2 ps x13 (i : Int) (ps.length : Int) (j : Int) x3 = r0 ps x13 ((i + 1 : Nat) : Int) (x3 + sumI (fun m => hullE ps ((i : Int), (m : Int))) d j)
 | 0, j, n + 1, c, x3, hd, hn, hc, b1, b2 => by
   rw [f105_l2, f105_l2_B, if_neg (by omega), w64_id (by omega) (by omega)]
   simp [sumI]
 | d + 1, j, n + 1, c, x3, hd, hn, hc, b1, b2 => by
   have hE := hullE_size ho ((i : Int), (j : Int))
   rw [f105_l2, f105_l2_B, if_pos (by omega), if_pos (by omega), if_pos (by omega)]
   have := hull_l4 (k := k) (ps := ps) (r2 := f105_l2 k r0 n) (r0 := r0) ho h2 x13 i j (by omega) (by omega) (ps.length : Int) x3 ⟨by omega, by omega⟩ ps.length 0 k (decide (¬ (i : Int) = j)) (by omega) (by omega)
   refine (this.trans ?_)
   rw [hullE_eq hs hi (by omega)]
   rw [hull_l2 hk ho hs h2 x13 i hi d (j + 1) n (c + 1) _ (by omega) (by omega) (by omega) (by omega) (by omega)]
   congr 1
   simp only [sumI]
   omega
theorem hull_l0 (hk : 1000 ≤ k) (ho : ∀ q ∈ ps, okQ q) (hs : sortedQ ps) (h2 : ps.length ≤ 200) : ∀ (d i n : Nat) (c : Nat) (x3 : Int), i + d = ps.length → d < n → c + d * 200 ≤ 900000 → -(2199023255552 * c) ≤ x3 → x3 ≤ 2199023255552 * c →
 f105_l0 k n ps (ps.length : Int) (i : Int) x3 = some (x3 + sumI (fun i => sumI (fun m => hullE ps ((i : Int), (m : Int))) ps.length 0) d i, ())
 | 0, i, n + 1, c, x3, hd, hn, hc, b1, b2 => by
   rw [f105_l0, f105_l0_B, if_neg (by omega)]
   simp [sumI]
 | d + 1, i, n + 1, c, x3, hd, hn, hc, b1, b2 => by
   have hE := sumI_size (fun m : Nat => hullE_size ho ((i : Int), (m : Int))) ps.length 0
   rw [f105_l0, f105_l0_B, if_pos (by omega), if_pos (by omega), if_pos (by omega)]
   have := hull_l2 (k := k) (ps := ps) (r0 := f105_l0 k n) hk ho hs h2 (ps.length : Int) i (by omega) ps.length 0 k c x3 (by omega) (by omega) (by omega) b1 b2
   refine (this.trans ?_)
   rw [hull_l0 hk ho hs h2 d (i + 1) n (c + 200) _ (by omega) (by omega) (by omega) (by omega) (by omega)]
   congr 2
   simp only [sumI]
   omega
theorem hull_ev (hk : 1000 ≤ k) (ho : ∀ q ∈ ps, okQ q) (hs : sortedQ ps) (h2 : ps.length ≤ 200) : f105 k ps = some (sumF (shoe (ptA ps)) (maxL (ptA ps) ps.length), ()) := by
 simp only [f105, f105_entry_B]
 have := hull_l0 (k := k) hk ho hs h2 ps.length 0 k 0 0 (by omega) (by omega) (by omega) (by omega) (by omega)
 rw [hull_sumI]
 refine this.trans ?_
 rw [Int.zero_add]
end
end Go.Proofs.Ytollcjadobpfdaa.Rw
namespace Go.Proofs.Ytollcjadobpfdaa.Rw
open Go.Rx
set_option linter.unusedVariables false
set_option linter.unusedSimpArgs false
section
variable {ps : List (Int × Int)} {cs : List Cell3} {k : Nat}
def badC (ps : List (Int × Int)) (cs : List Cell3) (i : Nat) : Prop :=
 (∃ r : Int, 0 ≤ r ∧ r < ps.length ∧ ¬ cornerC (ctA cs i) r ∧ ∀ e ∈ edgesC (ctA cs i), 0 ≤ crossI (ptA ps e.1) (ptA ps e.2) (ptA ps r)) ∨ (∃ j, j < i ∧ ¬ (partedBy (ptA ps) (ctA cs i) (ctA cs (j : Nat)) ∨ partedBy (ptA ps) (ctA cs (j : Nat)) (ctA cs i)))
def useC (u : List Bool) (c : Cell3) : List Bool := ((u.set c.1.toNat true).set c.2.1.toNat true).set c.2.2.toNat true
theorem useC_len (u : List Bool) (c : Cell3) : (useC u c).length = u.length := by simp [useC]
theorem tiles_l2 {r0 : f82_t_l0} (a b c : Int) (used : List Bool) (ha : 0 ≤ a ∧ a < used.length) (hb : 0 ≤ b ∧ b < used.length) (hc : 0 ≤ c ∧ c < used.length) (x19 x20 x4 : Int) (n : Nat) (hn : 4 ≤ n) :
 f82_l2 k r0 n ps cs used a b c x19 x20 0 x4 = f82_l4 k r0 k ps cs (useC used (a, (b, c))) a b c x19 x20 x4 (ps.length : Int) 0 := by
 obtain ⟨n, rfl⟩ : ∃ m, n = m + 4 := ⟨n - 4, by omega⟩
 have step : ∀ (m : Nat) (x g : Int) (u : List Bool), 0 ≤ x → x < 3 → ([a, b, c] : List Int).getD x.toNat 0 = g → (0 ≤ g ∧ g < u.length) → f82_l2 k r0 (m + 1) ps cs u a b c x19 x20 x x4 = f82_l2 k r0 m ps cs (u.set g.toNat true) a b c x19 x20 (x + 1) x4 := fun m x g u g0 g3 hg cg => by
  rw [f82_l2, f82_l2_B, hg, if_pos g3, if_pos g0, if_pos g3, if_pos cg.1, if_pos cg.2, w64_id (by omega) (by omega)]
 rw [step (n + 3) 0 a used (by omega) (by omega) rfl ha, step (n + 2) (0 + 1) b _ (by omega) (by omega) rfl (by simpa using hb), step (n + 1) (0 + 1 + 1) c _ (by omega) (by omega) rfl (by simpa using hc)]
 rw [f82_l2, f82_l2_B, if_neg (by omega)]
 rfl
open Classical in
theorem tiles_l6 {r0 : f82_t_l0} (hk : 1000 ≤ k) (hok : FormOK ps cs) (i : Nat) (hi : i < cs.length) (used : List Bool) (x19 x4 : Int) (a b c : Int) (habc : ctA cs i = (a, (b, c))) : ∀ (d j n : Nat), j + d = i → d < n →
 f82_l6 k r0 n ps cs used a b c x19 (i : Int) x4 (cs.take i) (i : Int) (j : Int) = if ∃ x : Nat, j ≤ x ∧ x < i ∧ ¬ (partedBy (ptA ps) (ctA cs i) (ctA cs x) ∨ partedBy (ptA ps) (ctA cs x) (ctA cs i)) then some (3, ()) else r0 ps cs used x19 ((i + 1 : Nat) : Int) x4
 | 0, j, n + 1, hd, hn => by
   have := hok.clen
   rw [f82_l6, f82_l6_B, if_neg (by omega), if_neg (by rintro ⟨x, a, b, _⟩; omega), w64_id (by omega) (by omega)]
   rfl
 | d + 1, j, n + 1, hd, hn => by
   have hl := hok.clen
   have hlt : (cs.take i).length = i := by rw [List.length_take]; omega
   have hg : (cs.take i).getD j (0, 0, 0) = ctA cs (j : Nat) := by
    unfold ctA
    simp only [List.getD_eq_getElem?_getD, Int.toNat_natCast]
    rw [List.getElem?_take_of_lt (by omega)]
   have cell : ∀ m : Nat, m < cs.length → CellOK (ptA ps) ps.length (ctA cs (m : Nat)) := fun m hm => by
    refine hok.cell _ ?_
    unfold ctA
    simp [List.getD_eq_getElem?_getD, List.getElem?_eq_getElem hm]
   have ov := overlap_ev (k := k) hk hok.ok (cell i hi) (cell j (by omega))
   rw [habc] at ov
   rw [f82_l6, f82_l6_B, if_pos (by omega), if_pos (by omega), if_pos (by omega), Int.toNat_natCast, hg]
   rw [show ((ctA cs (j : Nat)).1, ((ctA cs (j : Nat)).2.1, (ctA cs (j : Nat)).2.2)) = ctA cs (j : Nat) from rfl, ov, Option.bind_some, w64_id (by omega) (by omega), show (j : Int) + 1 = ((j + 1 : Nat) : Int) by omega]
   rw [tiles_l6 hk hok i hi used x19 x4 a b c habc d (j + 1) n (by omega) (by omega)]
   rw [← habc]
   by_cases g : ¬ (partedBy (ptA ps) (ctA cs i) (ctA cs (j : Nat)) ∨ partedBy (ptA ps) (ctA cs (j : Nat)) (ctA cs i))
   · rw [if_pos (decide_eq_true g), if_pos ⟨j, Nat.le_refl _, by omega, g⟩]
   · rw [if_neg (fun z => g (of_decide_eq_true z))]
     by_cases q : ∃ x : Nat, j + 1 ≤ x ∧ x < i ∧ ¬ (partedBy (ptA ps) (ctA cs i) (ctA cs x) ∨ partedBy (ptA ps) (ctA cs x) (ctA cs i))
     · rw [if_pos q, if_pos (q.imp fun x z => ⟨by omega, z.2⟩)]
     · rw [if_neg q, if_neg]
       rintro ⟨x, a, b, z⟩
       rcases Nat.lt_or_eq_of_le a with h | h
       · exact q ⟨x, h, b, z⟩
       · subst h; exact g z
open Classical in
theorem tiles_l4 {r0 : f82_t_l0} (hk : 1000 ≤ k) (hok : FormOK ps cs) (i : Nat) (hi : i < cs.length) (used : List Bool) (x19 x4 : Int) (a b c : Int) (habc : ctA cs i = (a, (b, c))) : ∀ (d m n : Nat), m + d = ps.length → d < n →
 f82_l4 k r0 n ps cs used a b c x19 (i : Int) x4 (ps.length : Int) (m : Int) = if (∃ r : Int, m ≤ r ∧ r < ps.length ∧ ¬ cornerC (ctA cs i) r ∧ ∀ e ∈ edgesC (ctA cs i), 0 ≤ crossI (ptA ps e.1) (ptA ps e.2) (ptA ps r)) ∨ (∃ j : Nat, j < i ∧ ¬ (partedBy (ptA ps) (ctA cs i) (ctA cs (j : Nat)) ∨ partedBy (ptA ps) (ctA cs (j : Nat)) (ctA cs i))) then some (3, ()) else r0 ps cs used x19 ((i + 1 : Nat) : Int) x4
 | 0, m, n + 1, hd, hn => by
   have hl := hok.clen
   have := tiles_l6 (k := k) (r0 := r0) hk hok i hi used x19 x4 a b c habc i 0 k (by omega) (by omega)
   rw [f82_l4, f82_l4_B, if_neg (by omega), if_pos (by omega), if_pos (by omega), Int.toNat_natCast, show (cs.take i).length = i by rw [List.length_take]; omega]
   refine this.trans ?_
   by_cases g : ∃ j : Nat, j < i ∧ ¬ (partedBy (ptA ps) (ctA cs i) (ctA cs (j : Nat)) ∨ partedBy (ptA ps) (ctA cs (j : Nat)) (ctA cs i))
   · rw [if_pos (g.imp fun j z => ⟨Nat.zero_le _, z⟩), if_pos (.inr g)]
   · rw [if_neg (fun ⟨j, z⟩ => g ⟨j, z.2⟩), if_neg]
     rintro (⟨r, a, b, _⟩ | z)
     · omega
     · exact g z
 | d + 1, m, n + 1, hd, hn => by
   have hl := hok.len
   have hcell : CellOK (ptA ps) ps.length (ctA cs i) := by
    refine hok.cell _ ?_
    unfold ctA
    simp [List.getD_eq_getElem?_getD, List.getElem?_eq_getElem hi]
   have ins := inside_ev (k := k) hk hok.ok hcell (ptA_ok hok.ok (m : Int))
   rw [habc] at ins
   rw [f82_l4, f82_l4_B, if_pos (by omega), if_pos (by omega), if_pos (by omega), pt_eq, ins]
   simp only [Option.bind_some, f82_r15, f82_r15_B, Bool.decide_eq_true, decide_eq_true_eq]
   rw [w64_id (by omega) (by omega), show (m : Int) + 1 = ((m + 1 : Nat) : Int) by omega]
   rw [tiles_l4 hk hok i hi used x19 x4 a b c habc d (m + 1) n (by omega) (by omega)]
   have hcor : cornerC (ctA cs i) m ↔ ((m : Int) = a ∨ (m : Int) = b ∨ (m : Int) = c) := by rw [habc]; rfl
   rw [← habc]
   have good : ¬ (¬ cornerC (ctA cs i) m ∧ ∀ e ∈ edgesC (ctA cs i), 0 ≤ crossI (ptA ps e.1) (ptA ps e.2) (ptA ps m)) → (if (∃ r : Int, ((m + 1 : Nat) : Int) ≤ r ∧ r < ps.length ∧ ¬ cornerC (ctA cs i) r ∧ ∀ e ∈ edgesC (ctA cs i), 0 ≤ crossI (ptA ps e.1) (ptA ps e.2) (ptA ps r)) ∨ (∃ j : Nat, j < i ∧ ¬ (partedBy (ptA ps) (ctA cs i) (ctA cs (j : Nat)) ∨ partedBy (ptA ps) (ctA cs (j : Nat)) (ctA cs i))) then some ((3 : Int), ()) else r0 ps cs used x19 ((i + 1 : Nat) : Int) x4) = (if (∃ r : Int, m ≤ r ∧ r < ps.length ∧ ¬ cornerC (ctA cs i) r ∧ ∀ e ∈ edgesC (ctA cs i), 0 ≤ crossI (ptA ps e.1) (ptA ps e.2) (ptA ps r)) ∨ (∃ j : Nat, j < i ∧ ¬ (partedBy (ptA ps) (ctA cs i) (ctA cs (j : Nat)) ∨ partedBy (ptA ps) (ctA cs (j : Nat)) (ctA cs i))) then some (3, ()) else r0 ps cs used x19 ((i + 1 : Nat) : Int) x4) := fun h => by
    by_cases q : (∃ r : Int, ((m + 1 : Nat) : Int) ≤ r ∧ r < ps.length ∧ ¬ cornerC (ctA cs i) r ∧ ∀ e ∈ edgesC (ctA cs i), 0 ≤ crossI (ptA ps e.1) (ptA ps e.2) (ptA ps r)) ∨ (∃ j : Nat, j < i ∧ ¬ (partedBy (ptA ps) (ctA cs i) (ctA cs (j : Nat)) ∨ partedBy (ptA ps) (ctA cs (j : Nat)) (ctA cs i)))
    · rw [if_pos q, if_pos (q.imp (fun ⟨r, z1, z2⟩ => ⟨r, by omega, z2⟩) id)]
    · rw [if_neg q, if_neg]
      rintro (⟨r, z1, z2, z3⟩ | z)
      · rcases Int.lt_or_eq_of_le z1 with g | g
        · exact q (.inl ⟨r, by omega, z2, z3⟩)
        · subst g; exact h z3
      · exact q (.inr z)
   by_cases g1 : (m : Int) = a
   · rw [if_neg (fun z => z g1), if_neg (by simp)]
     exact good (fun z => z.1 (hcor.2 (.inl g1)))
   · rw [if_pos g1]
     by_cases g2 : (m : Int) = b
     · rw [if_neg (fun z => z g2), if_neg (by simp)]
       exact good (fun z => z.1 (hcor.2 (.inr (.inl g2))))
     · rw [if_pos g2]
       by_cases g3 : (m : Int) = c
       · rw [if_neg (fun z => z g3), if_neg (by simp)]
         exact good (fun z => z.1 (hcor.2 (.inr (.inr g3))))
       · rw [if_pos g3]
         have nc : ¬ cornerC (ctA cs i) m := fun z => (hcor.1 z).elim g1 fun z => z.elim g2 g3
         by_cases g4 : ∀ e ∈ edgesC (ctA cs i), 0 ≤ crossI (ptA ps e.1) (ptA ps e.2) (ptA ps m)
         · rw [if_pos g4, if_pos (.inl ⟨m, Int.le_refl _, by omega, nc, g4⟩)]
         · rw [if_neg g4]
           exact good (fun z => g4 z.2)
open Classical in
theorem tiles_l0 (hk : 1000 ≤ k) (hok : FormOK ps cs) : ∀ (d i n : Nat) (used : List Bool) (x4 : Int), i + d = cs.length → d < n → used.length = ps.length → -(8796093022208 * i) ≤ x4 → x4 ≤ 8796093022208 * i →
 f82_l0 k n ps cs used (cs.length : Int) (i : Int) x4 = some (if (∃ j : Nat, i ≤ j ∧ j < cs.length ∧ badC ps cs j) ∨ (∃ j, ((cs.drop i).foldl useC used).getD j true = false) ∨ x4 + sumF (fun c => crossI (ptA ps c.1) (ptA ps c.2.1) (ptA ps c.2.2)) (cs.drop i) ≠ sumF (shoe (ptA ps)) (maxL (ptA ps) ps.length) then 3 else 0, ())
 | 0, i, n + 1, used, x4, hd, hn, hu, b1, b2 => by
   have hl := hok.len
   rw [f82_l0, f82_l0_B, if_neg (by omega), contains_ev hk (by omega), Option.bind_some, hull_ev hk hok.ok hok.up hl, List.drop_of_length_le (by omega)]
   simp only [Option.bind_some, f82_r25, f82_r25_B, List.foldl_nil, sumF, Int.add_zero, decide_eq_true_eq]
   have n0 : ¬ ∃ j : Nat, i ≤ j ∧ j < cs.length ∧ badC ps cs j := by rintro ⟨j, a, b, _⟩; omega
   by_cases g1 : ∃ j, used.getD j true = false
   · rw [if_pos g1, if_pos trivial, if_pos (.inr (.inl g1))]
   · rw [if_neg g1]
     by_cases g2 : x4 = sumF (shoe (ptA ps)) (maxL (ptA ps) ps.length)
     · rw [if_neg (fun z => z g2), if_neg (fun z => z.elim n0 fun z => z.elim g1 fun z => z g2)]
     · rw [if_pos g2, if_pos (.inr (.inr g2))]
 | d + 1, i, n + 1, used, x4, hd, hn, hu, b1, b2 => by
   have hl := hok.clen
   have hi : i < cs.length := by omega
   have hget : cs[i] = ctA cs i := by unfold ctA; simp [List.getD_eq_getElem?_getD, List.getElem?_eq_getElem hi]
   have hcell : CellOK (ptA ps) ps.length (ctA cs i) := by rw [← hget]; exact hok.cell _ (List.getElem_mem hi)
   have c1 := hcell.corner (i := (ctA cs i).1) (.inl rfl)
   have c2 := hcell.corner (i := (ctA cs i).2.1) (.inr (.inl rfl))
   have c3 := hcell.corner (i := (ctA cs i).2.2) (.inr (.inr rfl))
   have hs := cross_size (ptA_ok hok.ok (ctA cs i).1) (ptA_ok hok.ok (ctA cs i).2.1) (ptA_ok hok.ok (ctA cs i).2.2)
   rw [f82_l0, f82_l0_B, if_pos (by omega), if_pos (by omega), if_pos (by omega)]
   rw [show cs.getD ((i : Int)).toNat (0, (0, 0)) = ctA cs i from rfl, show ((ctA cs i).1, ((ctA cs i).2.1, (ctA cs i).2.2)) = ctA cs i from rfl, twice_ev hok.ok hcell, Option.bind_some]
   rw [tiles_l2 _ _ _ used (by omega) (by omega) (by omega) _ _ _ k (by omega)]
   rw [show ((ctA cs i).1, ((ctA cs i).2.1, (ctA cs i).2.2)) = ctA cs i from rfl]
   have t4 := tiles_l4 (k := k) (r0 := f82_l0 k n) hk hok i hi (useC used (ctA cs i)) (cs.length : Int) (w64 (x4 + crossI (ptA ps (ctA cs i).1) (ptA ps (ctA cs i).2.1) (ptA ps (ctA cs i).2.2))) _ _ _ (show ctA cs i = ((ctA cs i).1, ((ctA cs i).2.1, (ctA cs i).2.2)) from rfl) ps.length 0 k (by omega) (by have := hok.len; omega)
   refine t4.trans ?_
   rw [w64_id (by omega) (by omega), tiles_l0 hk hok d (i + 1) n _ _ (by omega) (by omega) (by rw [useC_len]; exact hu) (by omega) (by omega)]
   rw [List.drop_eq_getElem_cons hi, List.foldl_cons, sumF, hget]
   have hbad : badC ps cs i ↔ ((∃ r : Int, ((0 : Nat) : Int) ≤ r ∧ r < ps.length ∧ ¬ cornerC (ctA cs i) r ∧ ∀ e ∈ edgesC (ctA cs i), 0 ≤ crossI (ptA ps e.1) (ptA ps e.2) (ptA ps r)) ∨ (∃ j : Nat, j < i ∧ ¬ (partedBy (ptA ps) (ctA cs i) (ctA cs (j : Nat)) ∨ partedBy (ptA ps) (ctA cs (j : Nat)) (ctA cs i)))) := Iff.rfl
   by_cases g : badC ps cs i
   · rw [if_pos (hbad.1 g), if_pos (.inl ⟨i, Nat.le_refl _, hi, g⟩)]
   · rw [if_neg (fun z => g (hbad.2 z))]
     congr 2
     rw [show x4 + (crossI (ptA ps (ctA cs i).1) (ptA ps (ctA cs i).2.1) (ptA ps (ctA cs i).2.2) + sumF (fun c => crossI (ptA ps c.1) (ptA ps c.2.1) (ptA ps c.2.2)) (cs.drop (i + 1))) = x4 + crossI (ptA ps (ctA cs i).1) (ptA ps (ctA cs i).2.1) (ptA ps (ctA cs i).2.2) + sumF (fun c => crossI (ptA ps c.1) (ptA ps c.2.1) (ptA ps c.2.2)) (cs.drop (i + 1)) by omega]
     have hh : (∃ j : Nat, i + 1 ≤ j ∧ j < cs.length ∧ badC ps cs j) ↔ (∃ j : Nat, i ≤ j ∧ j < cs.length ∧ badC ps cs j) := by
      constructor
      · rintro ⟨j, a, b⟩; exact ⟨j, by omega, b⟩
      · rintro ⟨j, a, b, c⟩
        rcases Nat.lt_or_eq_of_le a with q | q
        · exact ⟨j, q, b, c⟩
        · subst q; exact absurd c g
     simp only [hh]
theorem useC_get {c : Cell3} {u : List Bool} {j : Nat} (h1 : 0 ≤ c.1 ∧ c.1 < u.length) (h2 : 0 ≤ c.2.1 ∧ c.2.1 < u.length) (h3 : 0 ≤ c.2.2 ∧ c.2.2 < u.length) : (useC u c).getD j true = false ↔ ¬ cornerC c j ∧ u.getD j true = false := by
 unfold useC
 rw [set_getD (by simp; omega), set_getD (by simp; omega), set_getD (by omega)]
 unfold cornerC
 constructor
 · rintro ⟨a, b, c, d⟩; exact ⟨by omega, d⟩
 · rintro ⟨a, d⟩; exact ⟨by omega, by omega, by omega, d⟩
theorem useL_get {j : Nat} : ∀ {cs : List Cell3} {u : List Bool}, (∀ c ∈ cs, CellOK (ptA ps) u.length c) → ((cs.foldl useC u).getD j true = false ↔ (∀ c ∈ cs, ¬ cornerC c j) ∧ u.getD j true = false)
 | [], u, h => by simp
 | c :: cs, u, h => by
   have k := h c (by simp)
   rw [List.foldl_cons, useL_get (fun d hd => by rw [useC_len]; exact h d (by simp [hd])), useC_get (k.corner (.inl rfl)) (k.corner (.inr (.inl rfl))) (k.corner (.inr (.inr rfl)))]
   simp only [List.forall_mem_cons]
   exact ⟨fun ⟨a, b, c⟩ => ⟨⟨b, a⟩, c⟩, fun ⟨⟨b, a⟩, c⟩ => ⟨a, b, c⟩⟩
open Classical in
theorem tiles_ev (hk : 1000 ≤ k) (hok : FormOK ps cs) : f82 k (ps, cs) = some (if TilesM (ptA ps) ps.length cs then 0 else 3, ()) := by
 have hl := hok.len
 simp only [f82, f82_entry_B]
 rw [if_pos (by omega), if_pos (by omega), Int.toNat_natCast]
 have t := tiles_l0 hk hok cs.length 0 k (List.replicate ps.length false) 0 (by omega) (by have := hok.clen; omega) (by simp) (by omega) (by omega)
 refine t.trans ?_
 congr 2
 have hct : ∀ i : Nat, (hi : i < cs.length) → ctA cs i = cs[i] := fun i hi => by unfold ctA; simp [List.getD_eq_getElem?_getD, List.getElem?_eq_getElem hi]
 have hin : ∀ i : Nat, i < cs.length → ctA cs i ∈ cs := fun i hi => by rw [hct i hi]; exact List.getElem_mem hi
 have hall : ∀ c ∈ cs, CellOK (ptA ps) (List.replicate ps.length false).length c := fun c hc => by rw [List.length_replicate]; exact hok.cell c hc
 have hu : ∀ j : Nat, ((cs.drop 0).foldl useC (List.replicate ps.length false)).getD j true = false ↔ (∀ c ∈ cs, ¬ cornerC c j) ∧ j < ps.length := fun j => by
  rw [List.drop_zero, useL_get (ps := ps) hall]
  refine and_congr_right fun _ => ?_
  by_cases g : j < ps.length
  · simp [List.getD_eq_getElem?_getD, g]
  · simp [List.getD_eq_getElem?_getD, g]
 by_cases ht : TilesM (ptA ps) ps.length cs
 · rw [if_pos ht, if_neg]
   rintro (⟨j, j0, j1, (⟨r, r0, r1, r2, r3⟩ | ⟨m, m1, m2⟩)⟩ | ⟨j, hj⟩ | hs)
   · exact ht.2.1 _ (hin j j1) r r0 r1 r2 r3
   · refine m2 (ht.1 _ (hin j j1) _ (hin m (by omega)) fun z => ?_)
     have nd := sortedC_nodup hok.cup
     rw [hct j j1, hct m (by omega)] at z
     have := (List.getElem_inj nd).1 z
     omega
   · obtain ⟨a, b⟩ := (hu j).1 hj
     obtain ⟨c, hc, hcc⟩ := ht.2.2.1 (j : Int) (by omega) (by omega)
     exact a c hc hcc
   · rw [List.drop_zero, Int.zero_add] at hs
     exact hs ht.2.2.2
 · rw [if_neg ht, if_pos]
   refine Classical.byContradiction fun z => ht ⟨fun c hc d hd hne => ?_, fun c hc r r0 r1 r2 r3 => ?_, fun i i0 i1 => ?_, ?_⟩
   · obtain ⟨i, hi, rfl⟩ := List.mem_iff_getElem.1 hc
     obtain ⟨j, hj, rfl⟩ := List.mem_iff_getElem.1 hd
     refine Classical.byContradiction fun q => ?_
     rcases Nat.lt_trichotomy i j with g | g | g
     · exact z (.inl ⟨j, Nat.zero_le _, hj, .inr ⟨i, g, by rw [hct i hi, hct j hj]; exact fun w => q w.symm⟩⟩)
     · subst g; exact hne rfl
     · exact z (.inl ⟨i, Nat.zero_le _, hi, .inr ⟨j, g, by rw [hct i hi, hct j hj]; exact q⟩⟩)
   · obtain ⟨i, hi, rfl⟩ := List.mem_iff_getElem.1 hc
     exact z (.inl ⟨i, Nat.zero_le _, hi, .inl ⟨r, r0, r1, by rw [hct i hi]; exact r2, by rw [hct i hi]; exact r3⟩⟩)
   · refine Classical.byContradiction fun q => z (.inr (.inl ⟨i.toNat, (hu _).2 ⟨fun c hc w => q ⟨c, hc, ?_⟩, by omega⟩⟩))
     rwa [show ((i.toNat : Nat) : Int) = i by omega] at w
   · refine Classical.byContradiction fun q => z (.inr (.inr ?_))
     rw [List.drop_zero, Int.zero_add]
     exact q
theorem fault_ev (hk : 1000 ≤ k) : f46 k (ps, cs) = some (validV ps cs, ()) := by
 classical
 rw [mesh_ev hk]
 unfold validV
 by_cases hf : formV ps cs = 0
 · rw [if_pos hf, if_pos hf]
   have hok := formV_ok hf
   by_cases h0 : cs.length = 0
   · rw [if_pos h0, if_pos h0]
   · rw [if_neg h0, if_neg h0, tiles_ev hk hok, Option.bind_some]
     have := hok.iff (fun z => h0 (by rw [z]; rfl))
     by_cases g : TilesV (ptA ps) ps.length cs
     · rw [if_pos g, if_pos (this.1 g)]
     · rw [if_neg g, if_neg (fun z => g (this.2 z))]
 · rw [if_neg hf, if_neg hf]
end
end Go.Proofs.Ytollcjadobpfdaa.Rw
namespace Go.Proofs.Ytollcjadobpfdaa.Rw
open Go.Rx
set_option linter.unusedVariables false
set_option linter.unusedSimpArgs false
def okZ (h : Int) : Prop := -65536 ≤ h ∧ h ≤ 65536
open Classical in
noncomputable def heightsV (ps : List (Int × Int)) (cs : List Cell3) (z : List Int) : Int := if validV ps cs = 0 then (if z.length = ps.length then (if ∀ h ∈ z, okZ h then 0 else 1) else 3) else validV ps cs
section
variable {ps : List (Int × Int)} {cs : List Cell3} {k : Nat}
theorem okZ_from {z : List Int} {i : Nat} (hi : i < z.length) : (∀ h ∈ z.drop i, okZ h) ↔ okZ (z.getD i 0) ∧ ∀ h ∈ z.drop (i + 1), okZ h := by
 rw [List.drop_eq_getElem_cons hi, List.forall_mem_cons]
 simp [List.getD_eq_getElem?_getD, List.getElem?_eq_getElem hi]
open Classical in
theorem check_l0 {z : List Int} (hz : z.length < 4611686018427387904) : ∀ (d i n : Nat), i + d = z.length → d < n → f13_l0 k n z (z.length : Int) (i : Int) = some (if ∀ h ∈ z.drop i, okZ h then 0 else 1, ())
 | 0, i, n + 1, hd, hn => by
   rw [f13_l0, f13_l0_B, if_neg (by omega), List.drop_of_length_le (by omega), if_pos (by simp)]
 | d + 1, i, n + 1, hd, hn => by
   have hi : i < z.length := by omega
   rw [f13_l0, f13_l0_B, if_pos (by omega), if_pos (by omega), if_pos (by omega), Int.toNat_natCast]
   simp only [f13_r9, f13_r9_B]
   rw [w64_id (by omega) (by omega), show (i : Int) + 1 = ((i + 1 : Nat) : Int) by omega, check_l0 hz d (i + 1) n (by omega) (by omega)]
   have f := okZ_from hi
   unfold okZ at f ⊢
   by_cases g1 : z.getD i 0 < -65536
   · rw [if_pos g1, if_pos trivial, if_neg (fun q => by have := (f.1 q).1; omega)]
   · rw [if_neg g1]
     by_cases g2 : 65536 < z.getD i 0
     · rw [if_pos (decide_eq_true g2), if_neg (fun q => by have := (f.1 q).1; omega)]
     · rw [if_neg (by simpa using g2)]
       by_cases g3 : ∀ h ∈ z.drop (i + 1), -65536 ≤ h ∧ h ≤ 65536
       · rw [if_pos g3, if_pos (f.2 ⟨⟨by omega, by omega⟩, g3⟩)]
       · rw [if_neg g3, if_neg (fun q => g3 (f.1 q).2)]
theorem check_ev {z : List Int} (hk : 2000 + z.length ≤ k) (hp : ps.length < 4611686018427387904) (hc : cs.length < 4611686018427387904) (hz : z.length < 4611686018427387904) : f13 k (ps, cs) z = some (heightsV ps cs z, ()) := by
 classical
 simp only [f13, f13_entry_B]
 rw [valid_ev (by omega) hp hc, Option.bind_some]
 unfold heightsV
 by_cases h : validV ps cs = 0
 · rw [if_neg (fun q => q h), if_pos h]
   by_cases g : z.length = ps.length
   · rw [if_neg (fun q => q (by omega)), if_pos g]
     exact check_l0 hz z.length 0 k (by omega) (by omega)
   · rw [if_pos (by omega), if_neg g]
 · rw [if_pos h, if_neg h]
open Classical in
theorem hfault_l0 {z : List Int} (hz : z.length < 4611686018427387904) : ∀ (d i n : Nat) (e : Int), i + d = z.length → d < n → f10_l0 k n z (z.length : Int) (i : Int) e = some (if e = 0 then (if ∀ h ∈ z.drop i, okZ h then 0 else 1) else e, ())
 | 0, i, n + 1, e, hd, hn => by
   rw [f10_l0, f10_l0_B, if_neg (by omega), List.drop_of_length_le (by omega)]
   by_cases h : e = 0
   · rw [if_pos h, if_pos (by simp), h]
   · rw [if_neg h]
 | d + 1, i, n + 1, e, hd, hn => by
   have hi : i < z.length := by omega
   rw [f10_l0, f10_l0_B, if_pos (by omega), if_pos (by omega), if_pos (by omega), Int.toNat_natCast]
   simp only [f10_r7, f10_r7_B, f10_c8, f10_c8_B]
   have ih := fun e => hfault_l0 hz d (i + 1) n e (by omega) (by omega)
   rw [w64_id (by omega) (by omega), show (i : Int) + 1 = ((i + 1 : Nat) : Int) by omega, ih, ih]
   have f := okZ_from hi
   unfold okZ at f ⊢
   by_cases h : e = 0
   · subst h
     rw [if_pos rfl, if_pos rfl, if_pos rfl]
     by_cases g1 : 65536 < z.getD i 0
     · rw [if_pos g1, if_pos trivial, if_neg (by omega), if_neg (fun q => by have := (f.1 q).1; omega)]
     · rw [if_neg g1]
       by_cases g2 : z.getD i 0 < -65536
       · rw [if_pos (decide_eq_true g2), if_neg (by omega), if_neg (fun q => by have := (f.1 q).1; omega)]
       · rw [if_neg (by simpa using g2)]
         by_cases g3 : ∀ h ∈ z.drop (i + 1), -65536 ≤ h ∧ h ≤ 65536
         · rw [if_pos g3, if_pos (f.2 ⟨⟨by omega, by omega⟩, g3⟩)]
         · rw [if_neg g3, if_neg (fun q => g3 (f.1 q).2)]
   · rw [if_neg h, if_neg (by simp), if_neg h, if_neg h]
theorem hfault_ev {z : List Int} (hk : 2000 + z.length ≤ k) (hz : z.length < 4611686018427387904) : f10 k (ps, cs) z = some (heightsV ps cs z, ()) := by
 classical
 simp only [f10, f10_entry_B, f10_r2, f10_r2_B, f10_c3, f10_c3_B]
 rw [fault_ev (by omega), Option.bind_some]
 have l := fun e => hfault_l0 (k := k) (z := z) hz z.length 0 k e (by omega) (by omega)
 simp only [show (((0 : Nat)) : Int) = 0 from rfl, List.drop_zero] at l
 simp only [l]
 unfold heightsV
 by_cases h : validV ps cs = 0
 · rw [if_pos h, if_pos h]
   by_cases g : z.length = ps.length
   · rw [if_neg (by simp; omega), if_pos h, if_pos g]
   · rw [if_pos (by simp; omega), if_neg (by omega), if_neg g, if_pos h]
 · rw [if_neg h, if_neg h, if_neg (by simp), if_neg h]
theorem find1_ev (hk : 10 ≤ k) (ho : ∀ q ∈ ps, okQ q) {c : Cell3} (hc : CellOK (ptA ps) ps.length c) (p : Int × Int) : ∃ r : Bool, f54 k c (ps, cs) p = some (r, ()) := by
 obtain ⟨k, rfl⟩ : ∃ m, k = m + 4 := ⟨k - 4, by omega⟩
 obtain ⟨a, b, d⟩ := c
 have c1 := hc.corner (i := a) (.inl rfl)
 have c2 := hc.corner (i := b) (.inr (.inl rfl))
 have c3 := hc.corner (i := d) (.inr (.inr rfl))
 obtain ⟨q, q1, q2, q3⟩ := clamp_in (k + 4) (p.1, p.2)
 have step : ∀ (m : Nat) (x s t : Int), 0 ≤ x → x < 3 → ([a, b, d] : List Int).getD x.toNat 0 = s → ([a, b, d] : List Int).getD ((x + 1).tmod 3).toNat 0 = t → 0 ≤ (x + 1).tmod 3 → (x + 1).tmod 3 < 3 → (0 ≤ s ∧ s < ps.length) → (0 ≤ t ∧ t < ps.length) →
  (∃ r : Bool, f54_l0 (k + 4) m a b d (ps, cs) p (x + 1) = some (r, ())) → ∃ r : Bool, f54_l0 (k + 4) (m + 1) a b d (ps, cs) p x = some (r, ()) := fun m x s t h0 h3 hs ht h5 h6 h7 h8 h9 => by
  rw [f54_l0, f54_l0_B, w64_id (n := x + 1) (by omega) (by omega), hs, ht, if_pos h3, if_pos h0, if_pos h3, if_pos h7.1, if_pos h7.2, if_pos h5, if_pos h6, if_pos h8.1, if_pos h8.2, pt_eq, pt_eq, q1, Option.bind_some]
  rw [turnP (ptA_ok ho _) (ptA_ok ho _) (show okQ (q.1, q.2) from q2), Option.bind_some]
  split
  · exact ⟨_, rfl⟩
  · exact h9
 simp only [f54, f54_entry_B]
 refine step (k + 3) 0 a b (by omega) (by omega) rfl (by rw [show ((0 : Int) + 1).tmod 3 = 1 from tmod3.1]; rfl) (by rw [show ((0 : Int) + 1).tmod 3 = 1 from tmod3.1]; omega) (by rw [show ((0 : Int) + 1).tmod 3 = 1 from tmod3.1]; omega) c1 c2 ?_
 refine step (k + 2) (0 + 1) b d (by omega) (by omega) rfl (by rw [show ((0 : Int) + 1 + 1).tmod 3 = 2 from tmod3.2.1]; rfl) (by rw [show ((0 : Int) + 1 + 1).tmod 3 = 2 from tmod3.2.1]; omega) (by rw [show ((0 : Int) + 1 + 1).tmod 3 = 2 from tmod3.2.1]; omega) c2 c3 ?_
 refine step (k + 1) (0 + 1 + 1) d a (by omega) (by omega) rfl (by rw [show ((0 : Int) + 1 + 1 + 1).tmod 3 = 0 from tmod3.2.2]; rfl) (by rw [show ((0 : Int) + 1 + 1 + 1).tmod 3 = 0 from tmod3.2.2]; omega) (by rw [show ((0 : Int) + 1 + 1 + 1).tmod 3 = 0 from tmod3.2.2]; omega) c3 c1 ?_
 rw [f54_l0, f54_l0_B, if_neg (by omega), ok_ev, Option.bind_some]
 exact ⟨_, rfl⟩
theorem find_l0 (hk : 1000 ≤ k) (hok : FormOK ps cs) (p : Int × Int) : ∀ (d i n : Nat), i + d = cs.length → d < n → ∃ r : Int, f53_l0 k n cs ((ps, cs), p) (cs.length : Int) (i : Int) = some (r, ()) ∧ -1 ≤ r ∧ r < cs.length
 | 0, i, n + 1, hd, hn => ⟨-1, by rw [f53_l0, f53_l0_B, if_neg (by omega)], by omega, by omega⟩
 | d + 1, i, n + 1, hd, hn => by
   have hl := hok.clen
   have hi : i < cs.length := by omega
   have hcell : CellOK (ptA ps) ps.length (ctA cs i) := by
    refine hok.cell _ ?_
    unfold ctA
    simp [List.getD_eq_getElem?_getD, List.getElem?_eq_getElem hi]
   obtain ⟨v, hv⟩ := find1_ev (cs := cs) (k := k) (by omega) hok.ok hcell p
   have hv : f54 k ((cs.getD ((i : Int)).toNat (0, (0, 0))).1, (((cs.getD ((i : Int)).toNat (0, (0, 0))).2).1, ((cs.getD ((i : Int)).toNat (0, (0, 0))).2).2)) (ps, cs) p = some (v, ()) := hv
   rw [f53_l0, f53_l0_B, if_pos (by omega), if_pos (by omega), if_pos (by omega)]
   simp only [hv, Option.bind_some]
   rw [w64_id (by omega) (by omega), show (i : Int) + 1 = ((i + 1 : Nat) : Int) by omega]
   by_cases g : v = true
   · rw [if_pos g]; exact ⟨_, rfl, by omega, by omega⟩
   · rw [if_neg g]; exact find_l0 hk hok p d (i + 1) n (by omega) (by omega)
theorem find_ev (hk : 2000 ≤ k) (hp : ps.length < 4611686018427387904) (hc : cs.length < 4611686018427387904) (h : validV ps cs = 0) (p : Int × Int) : ∃ r : Int, f15 k (ps, cs) p = some (r, ()) ∧ -1 ≤ r ∧ r < cs.length := by
 have hok : FormOK ps cs := formV_ok (by
  unfold validV at h
  split at h
  · assumption
  · rename_i g; exact absurd h g)
 simp only [f15, f15_entry_B, f53, f53_entry_B]
 rw [valid_ev hk hp hc, Option.bind_some, if_neg (fun q => q h)]
 obtain ⟨r, h1, h2, h3⟩ := find_l0 (k := k) (by omega) hok (p.1, p.2) cs.length 0 k (by omega) (by have := hok.clen; omega)
 have h1 : f53_l0 k k cs ((ps, cs), (p.1, p.2)) (cs.length : Int) 0 = some (r, ()) := h1
 rw [h1, Option.bind_some]
 exact ⟨r, rfl, h2, h3⟩
theorem valid_form (h : validV ps cs = 0) : FormOK ps cs := formV_ok (by
 unfold validV at h
 split at h
 · assumption
 · rename_i g; exact absurd h g)
end
end Go.Proofs.Ytollcjadobpfdaa.Rw
namespace Go.Proofs.Ytollcjadobpfdaa.Rw
open Go.Rx
set_option linter.unusedVariables false
set_option linter.unusedSimpArgs false
section
variable {ps : List (Int × Int)} {cs : List Cell3} {z : List Int} {k : Nat}
def zA (z : List Int) (i : Int) : Int := z.getD i.toNat 0
theorem zA_ok (h : ∀ x ∈ z, okZ x) (i : Int) : okZ (zA z i) := by
 unfold zA
 rw [List.getD_eq_getElem?_getD]
 by_cases g : i.toNat < z.length
 · rw [List.getElem?_eq_getElem g]; exact h _ (List.getElem_mem g)
 · rw [List.getElem?_eq_none (by omega)]; simp [okZ]
def sumZ (ps : List (Int × Int)) (z : List Int) (c : Cell3) (p : Int × Int) : Int := crossI (ptA ps c.2.1) (ptA ps c.2.2) p * zA z c.1 + crossI (ptA ps c.2.2) (ptA ps c.1) p * zA z c.2.1 + crossI (ptA ps c.1) (ptA ps c.2.1) p * zA z c.2.2
theorem part_size (ho : ∀ q ∈ ps, okQ q) (hz : ∀ x ∈ z, okZ x) (a b i : Int) {p : Int × Int} (hp : okQ p) : -576460752303423488 ≤ crossI (ptA ps a) (ptA ps b) p * zA z i ∧ crossI (ptA ps a) (ptA ps b) p * zA z i ≤ 576460752303423488 := by
 have h1 := cross_size (ptA_ok ho a) (ptA_ok ho b) hp
 have h2 := zA_ok hz i
 unfold okZ at h2
 have := mul_size (A := 8796093022208) (B := 65536) h1.1 h1.2 h2.1 h2.2
 omega
theorem cross_sum (a b c p : Int × Int) : crossI b c p + crossI c a p + crossI a b p = crossI a b c := by simp only [crossI]; grind
theorem height_l0 (ho : ∀ q ∈ ps, okQ q) (hz : ∀ x ∈ z, okZ x) {c : Cell3} (hc : CellOK (ptA ps) ps.length c) (hl : z.length = ps.length) {p : Int × Int} (hp : okQ p) (n : Nat) (hn : 4 ≤ n) :
 f11_l0 k n c.1 c.2.1 c.2.2 ps cs p.1 p.2 z 0 0 0 = ((f16 k (sumZ ps z c p) (crossI (ptA ps c.1) (ptA ps c.2.1) (ptA ps c.2.2))).bind fun r2 => some ((r2.1.1, r2.1.2), r2.2.1, ())) := by
 obtain ⟨n, rfl⟩ : ∃ m, n = m + 4 := ⟨n - 4, by omega⟩
 obtain ⟨a, b, d⟩ := c
 have c1 := hc.corner (i := a) (.inl rfl)
 have c2 := hc.corner (i := b) (.inr (.inl rfl))
 have c3 := hc.corner (i := d) (.inr (.inr rfl))
 have t1 : ((0 : Int) + 1).tmod 3 = 1 := tmod3.1
 have t2 : ((0 : Int) + 1 + 1).tmod 3 = 2 := tmod3.2.1
 have t3 : ((0 : Int) + 1 + 1 + 1).tmod 3 = 0 := tmod3.2.2
 have u1 : ((0 : Int) + 2).tmod 3 = 2 := tmod3.2.1
 have u2 : ((0 : Int) + 1 + 2).tmod 3 = 0 := tmod3.2.2
 have u3 : ((0 : Int) + 1 + 1 + 2).tmod 3 = 1 := by decide
 have step : ∀ (m : Nat) (x u s t sum all : Int), 0 ≤ x → x < 3 → ([a, b, d] : List Int).getD x.toNat 0 = u → ([a, b, d] : List Int).getD ((x + 1).tmod 3).toNat 0 = s → ([a, b, d] : List Int).getD ((x + 2).tmod 3).toNat 0 = t → 0 ≤ (x + 1).tmod 3 → (x + 1).tmod 3 < 3 → 0 ≤ (x + 2).tmod 3 → (x + 2).tmod 3 < 3 → (0 ≤ u ∧ u < ps.length) → (0 ≤ s ∧ s < ps.length) → (0 ≤ t ∧ t < ps.length) →
  (-1729382256910270464 ≤ sum ∧ sum ≤ 1729382256910270464) → (-1729382256910270464 ≤ all ∧ all ≤ 1729382256910270464) →
  f11_l0 k (m + 1) a b d ps cs p.1 p.2 z sum all x = f11_l0 k m a b d ps cs p.1 p.2 z (sum + crossI (ptA ps s) (ptA ps t) p * zA z u) (all + crossI (ptA ps s) (ptA ps t) p) (x + 1) := fun m x u s t sum all h0 h3 hu hs ht h5 h6 h7 h8 cu c_s ct b1 b2 => by
  have hb := cross_size (ptA_ok ho s) (ptA_ok ho t) hp
  have hb2 := part_size ho hz s t u hp
  have cp : f50 k (ptA ps s) (ptA ps t) (p.1, p.2) = some (crossI (ptA ps s) (ptA ps t) p, ()) := crossP (ptA_ok ho s) (ptA_ok ho t) (show okQ (p.1, p.2) from hp)
  rw [f11_l0, f11_l0_B, w64_id (n := x + 1) (by omega) (by omega), w64_id (n := x + 2) (by omega) (by omega), hs, ht, hu, if_pos h3, if_pos h5, if_pos h6, if_pos c_s.1, if_pos c_s.2, if_pos h7, if_pos h8, if_pos ct.1, if_pos ct.2, pt_eq, pt_eq, cp, Option.bind_some]
  rw [if_pos h0, if_pos h3, if_pos cu.1, if_pos (by omega)]
  rw [show z.getD u.toNat 0 = zA z u from rfl]
  simp only
  rw [w64_id (n := crossI (ptA ps s) (ptA ps t) p * zA z u) (by omega) (by omega), w64_id (n := sum + crossI (ptA ps s) (ptA ps t) p * zA z u) (by omega) (by omega), w64_id (n := all + crossI (ptA ps s) (ptA ps t) p) (by omega) (by omega)]
 have p1 := part_size ho hz b d a hp
 have p2 := part_size ho hz d a b hp
 have p3 := part_size ho hz a b d hp
 have q1 := cross_size (ptA_ok ho b) (ptA_ok ho d) hp
 have q2 := cross_size (ptA_ok ho d) (ptA_ok ho a) hp
 simp only
 rw [step (n + 3) 0 a b d 0 0 (by omega) (by omega) rfl (by rw [t1]; rfl) (by rw [u1]; rfl) (by rw [t1]; omega) (by rw [t1]; omega) (by rw [u1]; omega) (by rw [u1]; omega) c1 c2 c3 (by omega) (by omega)]
 rw [step (n + 2) (0 + 1) b d a _ _ (by omega) (by omega) rfl (by rw [t2]; rfl) (by rw [u2]; rfl) (by rw [t2]; omega) (by rw [t2]; omega) (by rw [u2]; omega) (by rw [u2]; omega) c2 c3 c1 (by omega) (by omega)]
 rw [step (n + 1) (0 + 1 + 1) d a b _ _ (by omega) (by omega) rfl (by rw [t3]; rfl) (by rw [u3]; rfl) (by rw [t3]; omega) (by rw [t3]; omega) (by rw [u3]; omega) (by rw [u3]; omega) c3 c1 c2 (by omega) (by omega)]
 rw [f11_l0, f11_l0_B, if_neg (by omega)]
 have e1 : 0 + crossI (ptA ps b) (ptA ps d) p * zA z a + crossI (ptA ps d) (ptA ps a) p * zA z b + crossI (ptA ps a) (ptA ps b) p * zA z d = sumZ ps z (a, (b, d)) p := by simp only [sumZ]; omega
 have e2 : 0 + crossI (ptA ps b) (ptA ps d) p + crossI (ptA ps d) (ptA ps a) p + crossI (ptA ps a) (ptA ps b) p = crossI (ptA ps a) (ptA ps b) (ptA ps d) := by rw [Int.zero_add]; exact cross_sum _ _ _ _
 rw [e1, e2]
theorem heights_form (h : heightsV ps cs z = 0) : validV ps cs = 0 ∧ z.length = ps.length ∧ ∀ x ∈ z, okZ x := by
 classical
 unfold heightsV at h
 split at h
 · rename_i a
   split at h
   · rename_i b
     split at h
     · rename_i c; exact ⟨a, b, c⟩
     · omega
   · omega
 · rename_i a; exact absurd h a
theorem cell_in (hok : FormOK ps cs) {i : Int} (h0 : 0 ≤ i) (h1 : i < cs.length) : CellOK (ptA ps) ps.length (ctA cs i) := by
 refine hok.cell _ ?_
 unfold ctA
 have : i.toNat < cs.length := by omega
 simp [List.getD_eq_getElem?_getD, List.getElem?_eq_getElem this]
open Classical in
theorem height_ev (hk : 2000 + z.length ≤ k) (hp : ps.length < 4611686018427387904) (hc : cs.length < 4611686018427387904) (hz : z.length < 4611686018427387904) (p : Int × Int) :
 f11 k (ps, cs) z p = if heightsV ps cs z ≠ 0 then some ((0, 0), heightsV ps cs z, ()) else if ¬ okQ p then some ((0, 0), 1, ()) else ((f15 k (ps, cs) p).bind fun r3 => if r3.1 < 0 then some ((0, 0), 4, ()) else ((f16 k (sumZ ps z (ctA cs r3.1) p) (crossI (ptA ps (ctA cs r3.1).1) (ptA ps (ctA cs r3.1).2.1) (ptA ps (ctA cs r3.1).2.2))).bind fun r2 => some ((r2.1.1, r2.1.2), r2.2.1, ()))) := by
 simp only [f11, f11_entry_B]
 rw [check_ev hk hp hc hz, Option.bind_some]
 by_cases h : heightsV ps cs z = 0
 · rw [if_neg (fun q => q h), if_neg (fun q => q h), ok_ev, Option.bind_some]
   by_cases g : okQ p
   · have g' : okQ (p.1, p.2) := g
     rw [if_neg (by simp [g']), if_neg (fun q => q g)]
     obtain ⟨h1, h2, h3⟩ := heights_form h
     have hok := valid_form h1
     obtain ⟨r, e, r1, r2⟩ := find_ev (k := k) (by omega) hp hc h1 p
     rw [show f15 k (ps, cs) (p.1, p.2) = f15 k (ps, cs) p from rfl, e, Option.bind_some, Option.bind_some]
     by_cases q : r < 0
     · rw [if_pos q, if_pos q]
     · rw [if_neg q, if_neg q, if_pos (by omega), if_pos r2]
       exact height_l0 hok.ok h3 (cell_in hok (by omega) r2) h2 g k (by omega)
   · have g' : ¬ okQ (p.1, p.2) := g
     rw [if_pos (by simp [g']), if_pos g]
 · rw [if_pos h, if_pos h]
end
theorem one_valid : validV [(0, 0), (0, 2), (2, 0)] [(0, (2, 1))] = 0 := by
 have a := fault_ev (ps := [(0, 0), (0, 2), (2, 0)]) (cs := [(0, (2, 1))]) (k := 1000) (Nat.le_refl _)
 have b : f46 1000 ([(0, 0), (0, 2), (2, 0)], [(0, (2, 1))]) = some (0, ()) := by kernel_rfl
 rw [b] at a
 simp only [Option.some.injEq, Prod.mk.injEq, and_true] at a
 exact a.symm
end Go.Proofs.Ytollcjadobpfdaa.Rw
namespace Go.Proofs.Ytollcjadobpfdaa.Rw
open Go.Rx
set_option linter.unusedVariables false
set_option linter.unusedSimpArgs false
theorem raised_ev {k : Nat} (hk : 3000 ≤ k) : f12 k = some (true, ()) := by
 classical
 have hh : heightsV [(0, 0), (0, 2), (2, 0)] [(0, (2, 1))] [0, 0, 4] = 0 := by
  unfold heightsV
  rw [if_pos one_valid, if_pos (by simp), if_pos]
  intro h hm
  simp only [List.mem_cons, List.not_mem_nil, or_false] at hm
  unfold okZ
  omega
 have he := height_ev (ps := [(0, 0), (0, 2), (2, 0)]) (cs := [(0, (2, 1))]) (z := [0, 0, 4]) (k := k) (by simp; omega) (by simp) (by simp) (by simp) (1, 0)
 rw [if_neg (fun q => q hh), if_neg (fun q => q (by unfold okQ; simp))] at he
 have hf : f15 k ([(0, 0), (0, 2), (2, 0)], [(0, (2, 1))]) (1, 0) = some (0, ()) := by
  simp only [f15, f15_entry_B]
  rw [valid_ev (by omega) (by simp) (by simp), Option.bind_some, if_neg (fun q => q one_valid)]
  obtain ⟨j, rfl⟩ : ∃ m, k = m + 20 := ⟨k - 20, by omega⟩
  have : f53 (j + 20) [(0, (2, 1))] (([(0, 0), (0, 2), (2, 0)], [(0, (2, 1))]), (1, 0)) = some (0, ()) := by kernel_rfl
  rw [this, Option.bind_some]
 rw [hf, Option.bind_some, if_neg (by omega)] at he
 have e1 : sumZ [(0, 0), (0, 2), (2, 0)] [0, 0, 4] (ctA [(0, (2, 1))] 0) (1, 0) = 8 := by kernel_rfl
 have e2 : crossI (ptA [(0, 0), (0, 2), (2, 0)] (ctA [(0, (2, 1))] 0).1) (ptA [(0, 0), (0, 2), (2, 0)] (ctA [(0, (2, 1))] 0).2.1) (ptA [(0, 0), (0, 2), (2, 0)] (ctA [(0, (2, 1))] 0).2.2) = 4 := by kernel_rfl
 have e3 : f16 k 8 4 = some ((2, 1), 0, ()) := by
  obtain ⟨j, rfl⟩ : ∃ m, k = m + 20 := ⟨k - 20, by omega⟩
  kernel_rfl
 rw [show ((0 : Int), ()).1 = 0 from rfl, e1, e2, e3] at he
 simp only [f12, f12_entry_B, f51, f51_entry_B, f12_r2, f12_r2_B, Option.bind_some]
 rw [he]
 rfl
end Go.Proofs.Ytollcjadobpfdaa.Rw
namespace Go.Proofs.Ytollcjadobpfdaa.Rw
open Go.Rx
set_option linter.unusedVariables false
set_option linter.unusedSimpArgs false
def ordP (a b : Int) : Int × Int := (min a b, max a b)
theorem ordP_comm (a b : Int) : ordP a b = ordP b a := by unfold ordP; rw [Int.min_comm, Int.max_comm]
abbrev Part := (Int × Int) × (Int × Int)
def cellP (z : List Int) (h : Int) (c : Cell3) : List Part :=
 if h < zA z c.1 then
  (if h < zA z c.2.1 then (if h < zA z c.2.2 then [] else [(ordP c.2.2 c.2.1, ordP c.2.2 c.1)])
   else (if h < zA z c.2.2 then [(ordP c.2.1 c.1, ordP c.2.1 c.2.2)] else [(ordP c.1 c.2.1, ordP c.1 c.2.2)]))
 else
  (if h < zA z c.2.1 then (if h < zA z c.2.2 then [(ordP c.1 c.2.2, ordP c.1 c.2.1)] else [(ordP c.2.1 c.2.2, ordP c.2.1 c.1)])
   else (if h < zA z c.2.2 then [(ordP c.2.2 c.1, ordP c.2.2 c.2.1)] else []))
theorem cellP_len (z : List Int) (h : Int) (c : Cell3) : (cellP z h c).length ≤ 1 := by
 unfold cellP
 repeat' split
 all_goals simp
theorem flat_len {z : List Int} {h : Int} : ∀ cs : List Cell3, (cs.flatMap (cellP z h)).length ≤ cs.length
 | [] => Nat.le_refl _
 | c :: cs => by
   have := flat_len (z := z) (h := h) cs
   have := cellP_len z h c
   rw [List.flatMap_cons, List.length_append, List.length_cons]; omega
theorem high_ev (k : Nat) (a h : Int) : f60 k a h = some (decide (h < a), ()) := by
 simp only [f60, f60_entry_B]
theorem ordered_ev (k : Nat) (a b : Int) : f61 k a b = some (ordP a b, ()) := by
 simp only [f61, f61_entry_B, mx2_min, mx2_max]
 rfl
section
variable {ps : List (Int × Int)} {cs : List Cell3} {z : List Int} {k : Nat}
theorem cont_l2 {r0 : f17_t_l0} (c : Cell3) (c1 : 0 ≤ c.1 ∧ c.1 < z.length) (c2 : 0 ≤ c.2.1 ∧ c.2.1 < z.length) (c3 : 0 ≤ c.2.2 ∧ c.2.2 < z.length) (y : List Part) (hy : y.length ≤ 1000) (h x32 : Int) (i : Nat) (hi : i < 1000) (n : Nat) (hn : 4 ≤ n) :
 f17_l2 k r0 n c.1 c.2.1 c.2.2 0 0 0 0 y z 0 h cs x32 (i : Int) 0 = r0 (y ++ cellP z h c) z h cs x32 ((i + 1 : Nat) : Int) := by
 obtain ⟨n, rfl⟩ : ∃ m, n = m + 4 := ⟨n - 4, by omega⟩
 obtain ⟨a, b, d⟩ := c
 simp only at c1 c2 c3
 have t1 : ((0 : Int) + 1).tmod 3 = 1 := tmod3.1
 have t2 : ((0 : Int) + 1 + 1).tmod 3 = 2 := tmod3.2.1
 have t3 : ((0 : Int) + 1 + 1 + 1).tmod 3 = 0 := tmod3.2.2
 have step : ∀ (m : Nat) (x s t cnt u0 u1 v0 v1 : Int), 0 ≤ x → x < 3 → 0 ≤ cnt → cnt < 100 → ([a, b, d] : List Int).getD x.toNat 0 = s → ([a, b, d] : List Int).getD ((x + 1).tmod 3).toNat 0 = t → 0 ≤ (x + 1).tmod 3 → (x + 1).tmod 3 < 3 → (0 ≤ s ∧ s < z.length) → (0 ≤ t ∧ t < z.length) →
  f17_l2 k r0 (m + 1) a b d u0 u1 v0 v1 y z cnt h cs x32 (i : Int) x = if ¬ h < zA z s then (if h < zA z t then f17_l2 k r0 m a b d (ordP s t).1 (ordP s t).2 v0 v1 y z (cnt + 1) h cs x32 (i : Int) (x + 1) else f17_l2 k r0 m a b d u0 u1 v0 v1 y z cnt h cs x32 (i : Int) (x + 1)) else (if h < zA z t then f17_l2 k r0 m a b d u0 u1 v0 v1 y z cnt h cs x32 (i : Int) (x + 1) else f17_l2 k r0 m a b d u0 u1 (ordP s t).1 (ordP s t).2 y z (cnt + 1) h cs x32 (i : Int) (x + 1)) := fun m x s t cnt u0 u1 v0 v1 h0 h3 hc0 hc1 hs ht h5 h6 cs1 ct1 => by
  rw [f17_l2, f17_l2_B, w64_id (n := x + 1) (by omega) (by omega), hs, ht, if_pos h3, if_pos h0, if_pos h3, if_pos h5, if_pos h6, if_pos cs1.1, if_pos cs1.2, high_ev, Option.bind_some]
  rw [show z.getD s.toNat 0 = zA z s from rfl, show z.getD t.toNat 0 = zA z t from rfl, high_ev, Option.bind_some, if_pos ct1.1, if_pos ct1.2]
  simp only [f17_r16, f17_r16_B, f17_r19, f17_r19_B, f17_c17, f17_c17_B]
  rw [show z.getD s.toNat 0 = zA z s from rfl, show z.getD t.toNat 0 = zA z t from rfl, high_ev, high_ev, ordered_ev, w64_id (n := x + 1) (by omega) (by omega), w64_id (n := cnt + 1) (by omega) (by omega), if_pos cs1.1, if_pos cs1.2, if_pos ct1.1, if_pos ct1.2]
  by_cases g1 : h < zA z s <;> by_cases g2 : h < zA z t <;> simp [g1, g2]
 have fin : ∀ (m : Nat) (cnt u0 u1 v0 v1 : Int), f17_l2 k r0 (m + 1) a b d u0 u1 v0 v1 y z cnt h cs x32 (i : Int) (0 + 1 + 1 + 1) = if cnt = 2 then r0 (y ++ [((v0, v1), (u0, u1))]) z h cs x32 ((i + 1 : Nat) : Int) else r0 y z h cs x32 ((i + 1 : Nat) : Int) := fun m cnt u0 u1 v0 v1 => by
  rw [f17_l2, f17_l2_B, if_neg (by omega), if_pos (show (y.length + 1) * 32 ≤ 140737488355328 by omega)]
  simp only [f17_c24, f17_c24_B]
  rw [w64_id (by omega) (by omega)]
  rfl
 have s1 := fun (cnt u0 u1 v0 v1 : Int) (q0 : 0 ≤ cnt) (q1 : cnt < 100) => step (n + 3) 0 a b cnt u0 u1 v0 v1 (by omega) (by omega) q0 q1 rfl (by rw [t1]; rfl) (by rw [t1]; omega) (by rw [t1]; omega) c1 c2
 have s2 := fun (cnt u0 u1 v0 v1 : Int) (q0 : 0 ≤ cnt) (q1 : cnt < 100) => step (n + 2) (0 + 1) b d cnt u0 u1 v0 v1 (by omega) (by omega) q0 q1 rfl (by rw [t2]; rfl) (by rw [t2]; omega) (by rw [t2]; omega) c2 c3
 have s3 := fun (cnt u0 u1 v0 v1 : Int) (q0 : 0 ≤ cnt) (q1 : cnt < 100) => step (n + 1) (0 + 1 + 1) d a cnt u0 u1 v0 v1 (by omega) (by omega) q0 q1 rfl (by rw [t3]; rfl) (by rw [t3]; omega) (by rw [t3]; omega) c3 c1
 simp only
 rw [s1 _ _ _ _ _ (by omega) (by omega)]
 by_cases g1 : h < zA z a
 · rw [if_neg (fun q => q g1)]
   by_cases g2 : h < zA z b
   · rw [if_pos g2, s2 _ _ _ _ _ (by omega) (by omega), if_neg (fun q => q g2)]
     by_cases g3 : h < zA z d
     · rw [if_pos g3, s3 _ _ _ _ _ (by omega) (by omega), if_neg (fun q => q g3), if_pos g1, fin, if_neg (by omega)]
       simp [cellP, g1, g2, g3]
     · rw [if_neg g3, s3 _ _ _ _ _ (by omega) (by omega), if_pos g3, if_pos g1, fin, if_pos (by omega)]
       simp [cellP, g1, g2, g3, ordP_comm d b]
   · rw [if_neg g2, s2 _ _ _ _ _ (by omega) (by omega), if_pos g2]
     by_cases g3 : h < zA z d
     · rw [if_pos g3, s3 _ _ _ _ _ (by omega) (by omega), if_neg (fun q => q g3), if_pos g1, fin, if_pos (by omega)]
       simp [cellP, g1, g2, g3, ordP_comm b a]
     · rw [if_neg g3, s3 _ _ _ _ _ (by omega) (by omega), if_pos g3, if_pos g1, fin, if_pos (by omega)]
       simp [cellP, g1, g2, g3, ordP_comm a d]
 · rw [if_pos g1]
   by_cases g2 : h < zA z b
   · rw [if_pos g2, s2 _ _ _ _ _ (by omega) (by omega), if_neg (fun q => q g2)]
     by_cases g3 : h < zA z d
     · rw [if_pos g3, s3 _ _ _ _ _ (by omega) (by omega), if_neg (fun q => q g3), if_neg g1, fin, if_pos (by omega)]
       simp [cellP, g1, g2, g3, ordP_comm a d]
     · rw [if_neg g3, s3 _ _ _ _ _ (by omega) (by omega), if_pos g3, if_neg g1, fin, if_pos (by omega)]
       simp [cellP, g1, g2, g3, ordP_comm b a]
   · rw [if_neg g2, s2 _ _ _ _ _ (by omega) (by omega), if_pos g2]
     by_cases g3 : h < zA z d
     · rw [if_pos g3, s3 _ _ _ _ _ (by omega) (by omega), if_neg (fun q => q g3), if_neg g1, fin, if_pos (by omega)]
       simp [cellP, g1, g2, g3, ordP_comm d b]
     · rw [if_neg g3, s3 _ _ _ _ _ (by omega) (by omega), if_pos g3, if_neg g1, fin, if_neg (by omega)]
       simp [cellP, g1, g2, g3]
theorem cell_z (hok : FormOK ps cs) (hl : z.length = ps.length) {i : Nat} (hi : i < cs.length) : (0 ≤ (ctA cs i).1 ∧ (ctA cs i).1 < z.length) ∧ (0 ≤ (ctA cs i).2.1 ∧ (ctA cs i).2.1 < z.length) ∧ (0 ≤ (ctA cs i).2.2 ∧ (ctA cs i).2.2 < z.length) := by
 have k := cell_in hok (i := (i : Int)) (by omega) (by omega)
 have c1 := k.corner (i := (ctA cs i).1) (.inl rfl)
 have c2 := k.corner (i := (ctA cs i).2.1) (.inr (.inl rfl))
 have c3 := k.corner (i := (ctA cs i).2.2) (.inr (.inr rfl))
 omega
theorem ctA_get {i : Nat} (hi : i < cs.length) : cs[i] = ctA cs i := by unfold ctA; simp [List.getD_eq_getElem?_getD, List.getElem?_eq_getElem hi]
theorem cont_l0 (hk : 1000 ≤ k) (hok : FormOK ps cs) (hl : z.length = ps.length) (h : Int) : ∀ (d i n : Nat) (y : List Part), i + d = cs.length → d < n → y.length ≤ i →
 f17_l0 k n y z h cs (cs.length : Int) (i : Int) = some (y ++ (cs.drop i).flatMap (cellP z h), 0, ())
 | 0, i, n + 1, y, hd, hn, hy => by
   rw [f17_l0, f17_l0_B, if_neg (by omega), List.drop_of_length_le (by omega)]
   simp
 | d + 1, i, n + 1, y, hd, hn, hy => by
   have hc := hok.clen
   have hi : i < cs.length := by omega
   obtain ⟨c1, c2, c3⟩ := cell_z hok hl hi
   have hp := cellP_len z h (ctA cs i)
   rw [f17_l0, f17_l0_B, if_pos (by omega), if_pos (by omega), if_pos (by omega)]
   rw [show cs.getD ((i : Int)).toNat (0, (0, 0)) = ctA cs i from rfl, cont_l2 (ctA cs i) c1 c2 c3 y (by omega) h _ i (by omega) k (by omega)]
   rw [cont_l0 hk hok hl h d (i + 1) n _ (by omega) (by omega) (by rw [List.length_append]; omega), List.drop_eq_getElem_cons hi, List.flatMap_cons, ctA_get hi, List.append_assoc]
theorem contours_ev (hk : 2000 + z.length ≤ k) (hp : ps.length < 4611686018427387904) (hc : cs.length < 4611686018427387904) (hz : z.length < 4611686018427387904) (h : Int) :
 f17 k (ps, cs) z h = if heightsV ps cs z ≠ 0 then some ([], heightsV ps cs z, ()) else if h < -65536 ∨ 65536 ≤ h then some ([], 1, ()) else some (cs.flatMap (cellP z h), 0, ()) := by
 simp only [f17, f17_entry_B, f17_r4, f17_r4_B]
 rw [check_ev hk hp hc hz, Option.bind_some]
 by_cases h0 : heightsV ps cs z = 0
 · rw [if_neg (show ¬ ¬ heightsV ps cs z = 0 from fun q => q h0), if_neg (show ¬ heightsV ps cs z ≠ 0 from fun q => q h0)]
   obtain ⟨h1, h2, h3⟩ := heights_form h0
   by_cases g1 : h < -65536
   · rw [if_pos g1, if_pos trivial, if_pos (.inl g1)]
   · rw [if_neg g1]
     by_cases g2 : 65536 ≤ h
     · rw [if_pos (decide_eq_true g2), if_pos (.inr g2)]
     · rw [if_neg (by simpa using g2), if_neg (fun q => q.elim g1 g2)]
       have := cont_l0 (k := k) (by omega) (valid_form h1) h2 h cs.length 0 k [] (by omega) (by have := (valid_form h1).clen; omega) (Nat.zero_le _)
       exact this
 · rw [if_pos h0, if_pos (show heightsV ps cs z ≠ 0 from h0)]
theorem cfault_ev (hk : 2000 + z.length ≤ k) (hz : z.length < 4611686018427387904) (h : Int) : f18 k (ps, cs) z h = some (if heightsV ps cs z ≠ 0 then heightsV ps cs z else if h < -65536 ∨ 65536 ≤ h then 1 else 0, ()) := by
 simp only [f18, f18_entry_B, f18_r2, f18_r2_B, f18_c3, f18_c3_B]
 rw [hfault_ev hk hz, Option.bind_some]
 by_cases h0 : heightsV ps cs z = 0
 · by_cases g1 : h < -65536
   · simp [h0, g1]
   · by_cases g2 : 65536 ≤ h
     · simp [h0, g1, g2]
     · simp [h0, g1, g2]
 · simp [h0]
theorem parts_l2 {r0 : f19_t_l0} (c : Cell3) (c1 : 0 ≤ c.1 ∧ c.1 < z.length) (c2 : 0 ≤ c.2.1 ∧ c.2.1 < z.length) (c3 : 0 ≤ c.2.2 ∧ c.2.2 < z.length) (y : List Part) (hy : y.length ≤ 1000) (h x18 : Int) (i : Nat) (hi : i < 1000) (n : Nat) (hn : 4 ≤ n) :
 f19_l2 k r0 n y c.1 c.2.1 c.2.2 z cs x18 (i : Int) h 0 = r0 (y ++ cellP z h c) z cs x18 ((i + 1 : Nat) : Int) h := by
 obtain ⟨n, rfl⟩ : ∃ m, n = m + 4 := ⟨n - 4, by omega⟩
 obtain ⟨a, b, d⟩ := c
 simp only at c1 c2 c3
 have t1 : ((0 : Int) + 1).tmod 3 = 1 := tmod3.1
 have t2 : ((0 : Int) + 1 + 1).tmod 3 = 2 := tmod3.2.1
 have t3 : ((0 : Int) + 1 + 1 + 1).tmod 3 = 0 := tmod3.2.2
 have u1 : ((0 : Int) + 2).tmod 3 = 2 := tmod3.2.1
 have u2 : ((0 : Int) + 1 + 2).tmod 3 = 0 := tmod3.2.2
 have u3 : ((0 : Int) + 1 + 1 + 2).tmod 3 = 1 := by decide
 have step : ∀ (m : Nat) (x s t u : Int) (y : List Part), y.length ≤ 2000 → 0 ≤ x → x < 3 → ([a, b, d] : List Int).getD x.toNat 0 = s → ([a, b, d] : List Int).getD ((x + 1).tmod 3).toNat 0 = t → ([a, b, d] : List Int).getD ((x + 2).tmod 3).toNat 0 = u → 0 ≤ (x + 1).tmod 3 → (x + 1).tmod 3 < 3 → 0 ≤ (x + 2).tmod 3 → (x + 2).tmod 3 < 3 → (0 ≤ s ∧ s < z.length) → (0 ≤ t ∧ t < z.length) → (0 ≤ u ∧ u < z.length) →
  f19_l2 k r0 (m + 1) y a b d z cs x18 (i : Int) h x = f19_l2 k r0 m (y ++ (if h < zA z s then (if ¬ h < zA z t ∧ ¬ h < zA z u then [(ordP s t, ordP s u)] else []) else (if h < zA z t ∧ h < zA z u then [(ordP s u, ordP s t)] else []))) a b d z cs x18 (i : Int) h (x + 1) := fun m x s t u y hy h0 h3 hs ht hu h5 h6 h7 h8 cs1 ct1 cu1 => by
  rw [f19_l2, f19_l2_B, w64_id (n := x + 1) (by omega) (by omega), w64_id (n := x + 2) (by omega) (by omega), hs, ht, hu, if_pos h3, if_pos h0, if_pos h3, if_pos h5, if_pos h6, if_pos h7, if_pos h8, if_pos cs1.1, if_pos cs1.2]
  simp only [f19_r10, f19_r10_B, f19_r12, f19_r12_B, f19_c11, f19_c11_B, mx2_min, mx2_max]
  rw [show z.getD s.toNat 0 = zA z s from rfl, show z.getD t.toNat 0 = zA z t from rfl, show z.getD u.toNat 0 = zA z u from rfl, w64_id (n := x + 1) (by omega) (by omega)]
  have hcap : (y.length + 1) * 32 ≤ 140737488355328 := by omega
  have n1 : h < zA z s → ¬ zA z s ≤ h := fun q => by omega
  have n2 : ¬ h < zA z s → zA z s ≤ h := fun q => by omega
  have n3 : h < zA z t → ¬ zA z t ≤ h := fun q => by omega
  have n4 : ¬ h < zA z t → zA z t ≤ h := fun q => by omega
  have n5 : h < zA z u → ¬ zA z u ≤ h := fun q => by omega
  have n6 : ¬ h < zA z u → zA z u ≤ h := fun q => by omega
  by_cases g1 : h < zA z s <;> by_cases g2 : h < zA z t <;> by_cases g3 : h < zA z u <;> simp [g1, g2, g3, cs1.1, cs1.2, ct1.1, ct1.2, cu1.1, cu1.2, hcap, n1, n2, n3, n4, n5, n6, ordP]
 have l1 : ∀ (y : List Part) (q r : Prop) [Decidable q] [Decidable r] (A B : Part) (w : Prop) [Decidable w], (y ++ (if w then (if q then [A] else []) else (if r then [B] else []))).length ≤ y.length + 1 := fun y q r _ _ A B w _ => by
  rw [List.length_append]
  repeat' split
  all_goals simp
 simp only
 rw [step (n + 3) 0 a b d y (by omega) (by omega) (by omega) rfl (by rw [t1]; rfl) (by rw [u1]; rfl) (by rw [t1]; omega) (by rw [t1]; omega) (by rw [u1]; omega) (by rw [u1]; omega) c1 c2 c3]
 rw [step (n + 2) (0 + 1) b d a _ (Nat.le_trans (l1 ..) (by omega)) (by omega) (by omega) rfl (by rw [t2]; rfl) (by rw [u2]; rfl) (by rw [t2]; omega) (by rw [t2]; omega) (by rw [u2]; omega) (by rw [u2]; omega) c2 c3 c1]
 rw [step (n + 1) (0 + 1 + 1) d a b _ (Nat.le_trans (l1 ..) (Nat.le_trans (Nat.add_le_add_right (l1 ..) 1) (by omega))) (by omega) (by omega) rfl (by rw [t3]; rfl) (by rw [u3]; rfl) (by rw [t3]; omega) (by rw [t3]; omega) (by rw [u3]; omega) (by rw [u3]; omega) c3 c1 c2]
 rw [f19_l2, f19_l2_B, if_neg (by omega), w64_id (by omega) (by omega)]
 congr 1
 by_cases g1 : h < zA z a <;> by_cases g2 : h < zA z b <;> by_cases g3 : h < zA z d <;> simp [g1, g2, g3, cellP]
theorem parts_l0 (hk : 1000 ≤ k) (hok : FormOK ps cs) (hl : z.length = ps.length) (h : Int) : ∀ (d i n : Nat) (y : List Part), i + d = cs.length → d < n → y.length ≤ i →
 f19_l0 k n y z cs (cs.length : Int) (i : Int) h = some (y ++ (cs.drop i).flatMap (cellP z h), ())
 | 0, i, n + 1, y, hd, hn, hy => by
   rw [f19_l0, f19_l0_B, if_neg (by omega), List.drop_of_length_le (by omega)]
   simp
 | d + 1, i, n + 1, y, hd, hn, hy => by
   have hc := hok.clen
   have hi : i < cs.length := by omega
   obtain ⟨c1, c2, c3⟩ := cell_z hok hl hi
   have hp := cellP_len z h (ctA cs i)
   rw [f19_l0, f19_l0_B, if_pos (by omega), if_pos (by omega), if_pos (by omega)]
   rw [show cs.getD ((i : Int)).toNat (0, (0, 0)) = ctA cs i from rfl, parts_l2 (ctA cs i) c1 c2 c3 y (by omega) h _ i (by omega) k (by omega)]
   rw [parts_l0 hk hok hl h d (i + 1) n _ (by omega) (by omega) (by rw [List.length_append]; omega), List.drop_eq_getElem_cons hi, List.flatMap_cons, ctA_get hi, List.append_assoc]
theorem parts_ev (hk : 1000 ≤ k) (hok : FormOK ps cs) (hl : z.length = ps.length) (h : Int) : f19 k (ps, cs) z h = some (cs.flatMap (cellP z h), ()) := by
 simp only [f19, f19_entry_B]
 have := parts_l0 hk hok hl h cs.length 0 k [] (by omega) (by have := hok.clen; omega) (Nat.zero_le _)
 exact this
end
end Go.Proofs.Ytollcjadobpfdaa.Rw
namespace Go.Proofs.Ytollcjadobpfdaa.Rw
open Go.Rx
set_option linter.unusedVariables false
set_option linter.unusedSimpArgs false
theorem equalC_l0 {k : Nat} {l : List Part} (hl : l.length ≤ 1000) : ∀ (d i n : Nat), i + d = l.length → d < n → f20_l0 k n l l (l.length : Int) (i : Int) = some (true, ())
 | 0, i, n + 1, hd, hn => by
   rw [f20_l0, f20_l0_B, if_neg (by omega)]
 | d + 1, i, n + 1, hd, hn => by
   rw [f20_l0, f20_l0_B, if_pos (by omega), if_pos (by omega), if_pos (by omega), if_pos (by omega), if_pos (by omega), if_neg (by simp), w64_id (by omega) (by omega), show (i : Int) + 1 = ((i + 1 : Nat) : Int) by omega]
   exact equalC_l0 hl d (i + 1) n (by omega) (by omega)
theorem equalC_ev {k : Nat} (hk : 2000 ≤ k) {l : List Part} (hl : l.length ≤ 1000) : f20 k l l = some (true, ()) := by
 simp only [f20, f20_entry_B]
 rw [if_neg (by simp)]
 exact equalC_l0 hl l.length 0 k (by omega) (by omega)
theorem reliefContours_ev (ps : List (Int × Int)) (cs : List Cell3) (z : List Int) (h : Int) (hp : ps.length < 4611686018427387904) (hc : cs.length < 4611686018427387904) (hz : z.length < 4611686018427387904) {k : Nat} (hk : 9223372036854775807 ≤ k) : f4 k (ps, cs) z h = some (true, ()) := by
 simp only [f4, f4_entry_B, f4_c5, f4_c5_B, f4_r6, f4_r6_B, raised_ev (show 3000 ≤ k by omega)]
 rw [contours_ev (by omega) hp hc hz, cfault_ev (by omega) hz]
 have e0 := equalC_ev (k := k) (l := []) (by omega) (by simp)
 by_cases h0 : heightsV ps cs z = 0
 · obtain ⟨h1, h2, h3⟩ := heights_form h0
   have hok := valid_form h1
   by_cases g : h < -65536 ∨ 65536 ≤ h
   · rw [if_neg (show ¬ heightsV ps cs z ≠ 0 from fun q => q h0), if_pos g, if_neg (show ¬ heightsV ps cs z ≠ 0 from fun q => q h0), if_pos g]
     simp [e0]
   · rw [if_neg (show ¬ heightsV ps cs z ≠ 0 from fun q => q h0), if_neg g, if_neg (show ¬ heightsV ps cs z ≠ 0 from fun q => q h0), if_neg g]
     have e1 := equalC_ev (k := k) (l := cs.flatMap (cellP z h)) (by omega) (Nat.le_trans (flat_len cs) (by have := hok.clen; omega))
     simp only [Option.bind_some, if_true, parts_ev (show 1000 ≤ k by omega) hok h2, e1, decide_true]
 · rw [if_pos h0, if_pos h0]
   simp [h0, e0]
theorem pure_ReliefContours : Pure_ReliefContours := by
 rintro ⟨⟨ps, cs⟩, z, h, u⟩ hwf
 have h1 : List.length (α := Int × Int) ps * 16 ≤ 140737488351232 := hwf.1.1.1
 have h2 : List.length (α := Int × Int × Int) cs * 24 ≤ 140737488351232 := hwf.1.2.1
 have h3 : List.length (α := Int) z * 8 ≤ 140737488351232 := hwf.2.1.1
 exact ⟨9223372036854775807, reliefContours_ev ps cs z h (Nat.lt_of_le_of_lt (show List.length (α := Int × Int) ps ≤ 140737488351232 by omega) (by decide)) (Nat.lt_of_le_of_lt (show List.length (α := Int × Int × Int) cs ≤ 140737488351232 by omega) (by decide)) (Nat.lt_of_le_of_lt (show List.length (α := Int) z ≤ 140737488351232 by omega) (by decide)) (Nat.le_refl _)⟩
end Go.Proofs.Ytollcjadobpfdaa.Rw
