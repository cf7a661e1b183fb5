/- Reflection, part X: a text of code, piece by piece. -/
import Derived.Test.YtollcjadobpfdaaRxW
namespace Go.Rx
set_option linter.unusedVariables false
set_option linter.unusedSimpArgs false
set_option linter.unusedSectionVars false
inductive Fr (α : Type) where
 | c (c : Code) (n : Nat)
 | cond (t : Nat)
 | blk (id : Nat)
 | j (f : St → Option α)
 | b (id : Nat) (f : St → Option α)
 | i (c : Operand) (f g : St → Option α)
section
variable (T : Tab) (Y : Tys) (E : Env) (A : Ann) (k : Nat)
noncomputable def ap {α : Type} (K : Kont α) : List (Fr α) → Kont α
 | [] => K
 | .c x n :: F => onNx (fun σ => den T Y E A k x n σ (ap K F)) (ap K F)
 | .cond t :: F => onNx (fun σ => ap K F .nx (cut A.conds t σ)) (ap K F)
 | .blk id :: F => inBlk id (fun σ => ap K F .nx (cut A.blks id σ)) (ap K F)
 | .j f :: F => onNx f (ap K F)
 | .b id f :: F => inBlk id f (ap K F)
 | .i x f g :: F => onNx (fun σ => match σ.ρ x with
   | .cp (.one (.lit true)) => f σ
   | .cp (.one (.lit false)) => g σ
   | .cp (.one (.prop p d)) => @ite _ p d (f σ) (g σ)
   | _ => none) (ap K F)
end
section
variable {T : Tab} {Y : Tys} {E : Env} {A : Ann} {k : Nat} {α : Type} {K : Kont α} {F F' : List (Fr α)}
theorem ap_cons (f : Fr α) (h : ap T Y E A k K F = ap T Y E A k K F') : ap T Y E A k K (f :: F) = ap T Y E A k K (f :: F') := by
 cases f <;> simp only [ap, h]
theorem ap_seq {c a b : Code} {n : Nat} (h : c = .seq a b) : ap T Y E A k K (.c c n :: F) = ap T Y E A k K (.c a n :: .c b n :: F) := by
 subst h; funext e σ; cases e <;> rfl
theorem ap_block {c a : Code} {id n : Nat} (h : c = .block id a) : ap T Y E A k K (.c c n :: F) = ap T Y E A k K (.j (fun σ => ap T Y E A k K (.c a id :: .blk id :: F) .nx σ) :: F) := by
 subst h; funext e σ; cases e <;> rfl
theorem ap_cond {c a b : Code} {x : Operand} {n t : Nat} (h : c = .cond x a b) (ht : condId a b = t) : ap T Y E A k K (.c c n :: F) = ap T Y E A k K (.i x (fun σ => ap T Y E A k K (.c a n :: .cond t :: F) .nx σ) (fun σ => ap T Y E A k K (.c b n :: .cond t :: F) .nx σ) :: F) := by
 subst h ht; funext e σ; cases e with
 | nx =>
   show den T Y E A k (.cond x a b) n σ (ap T Y E A k K F) = _
   simp only [ap, onNx, den]
   generalize σ.ρ x = v
   cases v with
   | tup l => rfl
   | cp c =>
     cases c with
     | agg l => rfl
     | one c =>
       cases c with
       | lit b => cases b <;> rfl
       | _ => rfl
 | ret => rfl
 | exit j => rfl
theorem ap_loop {c b : Code} {n : Nat} {C : Nat → St → Option α} (h : c = .loop b) (hC : ∀ j σ, C j σ = loopK (fun σ K => den T Y E A k b n σ K) (cut A.loops n) (ap T Y E A k K F) j σ) :
 ap T Y E A k K (.c c n :: F) = ap T Y E A k K (.j (fun σ => C k (cut A.loops n σ)) :: F) := by
 subst h; funext e σ; cases e with
 | nx => exact (hC k _).symm
 | ret => rfl
 | exit j => rfl
theorem lp_step {c : Code} {n m : Nat} {cl : St → St} : (fun σ => loopK (fun σ K => den T Y E A k c n σ K) cl (ap T Y E A k K F) (m + 1) σ) =
 fun σ => ap T Y E A k K (.c c n :: .j (fun σ => loopK (fun σ K => den T Y E A k c n σ K) cl (ap T Y E A k K F) m (cl σ)) :: F) .nx σ := rfl
theorem ap_pass {C : St → Option α} (hC : ∀ σ, C σ = ap T Y E A k K F .nx σ) : ap T Y E A k K F = ap T Y E A k K (.j C :: F) := by
 funext e σ; cases e with
 | nx => exact (hC σ).symm
 | ret => rfl
 | exit j => rfl
theorem ap_condj {t : Nat} {C : St → Option α} (hC : ∀ σ, C σ = ap T Y E A k K F .nx σ) : ap T Y E A k K (.cond t :: F) = ap T Y E A k K (.j (fun σ => C (cut A.conds t σ)) :: F) := by
 funext e σ; cases e with
 | nx => exact (hC _).symm
 | ret => rfl
 | exit j => rfl
theorem ap_blkb {id : Nat} {C : St → Option α} (hC : ∀ σ, C σ = ap T Y E A k K F .nx σ) : ap T Y E A k K (.blk id :: F) = ap T Y E A k K (.b id (fun σ => C (cut A.blks id σ)) :: F) := by
 simp only [ap]
 rw [show C = fun σ => ap T Y E A k K F .nx σ from funext hC]
theorem ap_j {Fa Fb : List (Fr α)} (h : ap T Y E A k K Fa = ap T Y E A k K Fb) : ap T Y E A k K (.j (fun σ => ap T Y E A k K Fa .nx σ) :: F) = ap T Y E A k K (.j (fun σ => ap T Y E A k K Fb .nx σ) :: F) := by
 rw [h]
theorem ap_i {x : Operand} {Fa Fb Ga Gb : List (Fr α)} (h1 : ap T Y E A k K Fa = ap T Y E A k K Fb) (h2 : ap T Y E A k K Ga = ap T Y E A k K Gb) : ap T Y E A k K (.i x (fun σ => ap T Y E A k K Fa .nx σ) (fun σ => ap T Y E A k K Ga .nx σ) :: F) = ap T Y E A k K (.i x (fun σ => ap T Y E A k K Fb .nx σ) (fun σ => ap T Y E A k K Gb .nx σ) :: F) := by
 rw [h1, h2]
theorem den_ap {c : Code} {n : Nat} {σ : St} : den T Y E A k c n σ K = ap T Y E A k K [.c c n] .nx σ := rfl
theorem ap_at (h : ap T Y E A k K F = ap T Y E A k K F') : ∀ σ, ap T Y E A k K F .nx σ = ap T Y E A k K F' .nx σ := fun σ => by rw [h]
end
def unnil1 {α β : Type} (g : Option (List α) → Option (List β × Unit)) : List α → Option (List β × Unit)
 | [] => match g none, g (some []) with
   | some ([], _), some ([], _) => some ([], ())
   | _, _ => none
 | x :: l => g (some (x :: l))
theorem unnil1_nil {α β : Type} {g : Option (List α) → Option (List β × Unit)} {r : List β × Unit} (h : unnil1 g [] = some r) : g none = some r ∧ g (some []) = some r := by
 unfold unnil1 at h
 simp only at h
 split at h
 · rename_i x1 x2 h1 h2
   cases h
   exact ⟨h1, h2⟩
 · cases h
theorem PureOK.unnil1 {P : Program} {f : FuncId} {e e' : Ty} {g : Option (List e.D) → Option (List e'.D × Unit)} (h : PureOK P f [(false, .sl true e)] [.new e'] fun xs => g xs.1) : PureOK P f [(false, .sl false e)] [.new e'] fun xs => Go.Rx.unnil1 g xs.1 := by
 intro xs r hr w Pr vs hp ha
 obtain ⟨l, u⟩ := xs
 obtain ⟨v, us, rfl, hv, rfl⟩ := ha
 obtain ⟨A, cap, k1, k2, _, k4⟩ := (show RepTy w Pr (.sl false e) l [v] from hv)
 have hr : Go.Rx.unnil1 g l = some r := hr
 have go : ∀ o : Option (List e.D), slL true o = l → slN true o A → g o = some r → _ := fun o ho hn hg => h (o, ()) r hg w Pr [v] hp ⟨v, [], rfl, ⟨A, cap, by rw [ho]; exact k1, by rw [ho]; exact k2, hn, by rw [ho]; exact k4⟩, rfl⟩
 cases l with
 | cons x l =>
   have hA : A ≠ none := by
    obtain ⟨blk, off, cells, el, fr, h1, _⟩ := k4 (by simp [slL])
    rw [h1]; simp
   exact go (some (x :: l)) rfl hA hr
 | nil =>
   obtain ⟨h1, h2⟩ := unnil1_nil hr
   cases A with
   | none => exact go none rfl rfl h1
   | some ad => exact go (some []) rfl (by simp [slN]) h2
def sub : Code → List Nat → Code
 | c, [] => c
 | .seq a b, i :: r => match i with
   | 0 => sub a r
   | _ => sub b r
 | .cond _ a b, i :: r => match i with
   | 0 => sub a r
   | _ => sub b r
 | .block _ c, _ :: r => sub c r
 | .loop c, _ :: r => sub c r
 | c, _ => c
def bitsA : Nat → Nat → List Nat → List Nat
 | 0, _, a => a
 | k + 1, p, a => match p.ble 1 with
   | true => a
   | false => bitsA k (p / 2) (p % 2 :: a)
def sb (c : Code) (p : Nat) : Code := sub c (bitsA 1000 p [])
section
variable {T : Tab} {Y : Tys} {E : Env} {A : Ann} {k : Nat} {α : Type} {K : Kont α} {F F' : List (Fr α)}
theorem ap_sq {c : Code} {p n : Nat} (h : sb c p = .seq (sb c (2 * p)) (sb c (2 * p + 1)) := by kernel_rfl) : ap T Y E A k K (.c (sb c p) n :: F) = ap T Y E A k K (.c (sb c (2 * p)) n :: .c (sb c (2 * p + 1)) n :: F) := ap_seq h
theorem ap_bl {c : Code} {p n : Nat} (id : Nat) (h : sb c p = .block id (sb c (2 * p)) := by kernel_rfl) : ap T Y E A k K (.c (sb c p) n :: F) = ap T Y E A k K (.j (fun σ => ap T Y E A k K (.c (sb c (2 * p)) id :: .blk id :: F) .nx σ) :: F) := ap_block h
theorem ap_cn {c : Code} {p n : Nat} (x : Operand) (t : Nat) (h : sb c p = .cond x (sb c (2 * p)) (sb c (2 * p + 1)) := by kernel_rfl) (ht : condId (sb c (2 * p)) (sb c (2 * p + 1)) = t := by kernel_rfl) : ap T Y E A k K (.c (sb c p) n :: F) = ap T Y E A k K (.i x (fun σ => ap T Y E A k K (.c (sb c (2 * p)) n :: .cond t :: F) .nx σ) (fun σ => ap T Y E A k K (.c (sb c (2 * p + 1)) n :: .cond t :: F) .nx σ) :: F) := ap_cond h ht
theorem ap_lp {c : Code} {p n : Nat} {C : Nat → St → Option α} (hC : ∀ j σ, C j σ = loopK (fun σ K => den T Y E A k (sb c (2 * p)) n σ K) (cut A.loops n) (ap T Y E A k K F) j σ) (h : sb c p = .loop (sb c (2 * p)) := by kernel_rfl) :
 ap T Y E A k K (.c (sb c p) n :: F) = ap T Y E A k K (.j (fun σ => C k (cut A.loops n σ)) :: F) := ap_loop h hC
theorem sb_one (c : Code) : sb c 1 = c := by
 show sub c [] = c
 cases c <;> rfl
theorem den_sb {c : Code} {n : Nat} {σ : St} : den T Y E A k c n σ K = ap T Y E A k K [.c (sb c 1) n] .nx σ := by rw [sb_one]; rfl
theorem ap_fn (h : ap T Y E A k K F = ap T Y E A k K F') : (fun σ => ap T Y E A k K F .nx σ) = fun σ => ap T Y E A k K F' .nx σ := by rw [h]
end
def sets {α : Type} : List (Nat × α) → List α → List α
 | [], l => l
 | (i, v) :: r, l => (sets r l).set i v
def mkS (N M : Nat) (ts : List (Nat × AV)) (os : List (Nat × Ob)) : St := ⟨sets ts (List.replicate N anyA), sets (os.map fun p => (p.1, some p.2)) (List.replicate M none)⟩
abbrev pB (b : Bool) : C := .prop (b = true) (instDecidableEqBool b true)
abbrev w64 (n : Int) : Int := IntKind.i64.wrap n
abbrev aI (n : Int) : AV := .cp (.one (.int .i64 n))
abbrev aC (c : C) : AV := .cp (.one c)
abbrev aB (b : Bool) : AV := .cp (.one (pB b))
abbrev aV (e : Ty) (x : slD false e.D) : AV := .cp (.one (.val false e x))
abbrev aP (κ : Nat) : AV := .cp (.one (.ptr κ 0))
abbrev aO (κ : Nat) : AV := .cp (.one (.own κ))
abbrev cI (n : Int) : C := .int .i64 n
abbrev cV (e : Ty) (x : slD false e.D) : C := .val false e x
end Go.Rx
