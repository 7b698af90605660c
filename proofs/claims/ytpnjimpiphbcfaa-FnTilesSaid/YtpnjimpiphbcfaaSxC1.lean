/- What the functions on numbers and curves compute, in plain terms. -/
import Derived.Test.YtpnjimpiphbcfaaSxExt
set_option linter.unusedSimpArgs false
set_option linter.unusedVariables false
namespace Go.Sx.C1
open Go.Sx

theorem neq_nan_l (k : FloatKind) (b : Option Nat) : fcmp .neq k none b = true := by rw [fcmp_eq]; rfl
theorem neq_nan_r (k : FloatKind) (a : Option Nat) : fcmp .neq k a none = true := by rw [fcmp_eq]; cases a <;> rfl
theorem neq_eql (k : FloatKind) (a b : Option Nat) : fcmp .neq k a b = !fcmp .eql k a b := by rw [fcmp_eq]; rfl

noncomputable def sameF (a b : Option Nat) : Bool :=
  cond (cond (fcmp .neq .f32 a a) true (fcmp .neq .f32 b b)) (cond (fcmp .neq .f32 a a) (fcmp .neq .f32 b b) false) (fbits a == fbits b)
noncomputable def sameOb (a b : Option Nat) : Bool := ob2 (cond (fcmp .neq .f32 a a) true (fcmp .neq .f32 b b)) true (andB (isS a) (andB (isS b) true))
theorem sameOb_true (a b : Option Nat) : sameOb a b = true := by
  unfold sameOb
  cases a with
  | none => rw [neq_nan_l]; simp [ob2, andB, impB]; cases isS b <;> rfl
  | some a =>
    cases b with
    | none => rw [neq_nan_l .f32 none]; simp only [isS, andB]; cases fcmp .neq .f32 (some a) (some a) <;> rfl
    | some b => simp only [isS, andB]; cases fcmp .neq .f32 (some a) (some a) <;> cases fcmp .neq .f32 (some b) (some b) <;> rfl
noncomputable def sameRun : List AV → List Blk → Option Lf
  | [.flt k a, .flt k' b], _ => bif fkEq k .f32 && fkEq k' .f32 then some (.leaf (.bool (sameF a b), none), true) else none
  | _, _ => none

theorem sameRun_args {args : List AV} {H : List Blk} {t : Tr (AV × Option (List Blk))} (h : sameRun args H = some (t, true)) : ∃ a b, args = [.flt .f32 a, .flt .f32 b] ∧ t = .leaf (.bool (sameF a b), none) := by
  unfold sameRun at h
  split at h
  · rename_i k a k' b
    obtain ⟨hk, h1'⟩ := cond_some h
    have hk2 := Bool.and_eq_true_iff.1 hk
    have h1 := fkEq_eq hk2.1; have h2 := fkEq_eq hk2.2
    subst h1; subst h2
    simp only [Option.some.injEq, Prod.mk.injEq, and_true] at h1'
    exact ⟨a, b, rfl, h1'.symm⟩
  · cases h

theorem same_sum {P : Program} (hN : NoApart P) (hm : P.follows .mixedOrders = true) {K : CallerT} (hK : CallerTOk P K) {N d : Nat} {f : FuncId}
    (h : ∀ a b, evF P K noL N d f [.flt .f32 a, .flt .f32 b] [] = some (.leaf (.bool (sameF a b), none), sameOb a b)) : SumOk P f sameRun := by
  refine sum_pure0 hN hm hK (N := N) (d := d) fun args H t hr => ?_
  obtain ⟨a, b, rfl, rfl⟩ := sameRun_args hr
  have := h a b
  rw [sameOb_true] at this
  exact ⟨rfl, rfl, rfl, noL, fun _ _ _ _ _ _ _ _ h => by simp [noL] at h, _, this, rfl⟩

-- how the laws compare floats
noncomputable def sf (x : Option Nat) : Bool :=
  cond (cond (fcmp .neq .f64 (fwide x) (fwide x)) true (fcmp .neq .f64 (fwide x) (fwide x))) (cond (fcmp .neq .f64 (fwide x) (fwide x)) (fcmp .neq .f64 (fwide x) (fwide x)) false)
    (cond (cond (fcmp .eql .f64 (fwide x) (some 0)) (fcmp .eql .f64 (fwide x) (some 0)) false)
      (fcmp .gtr .f64 (fop .quo .f64 (some 4607182418800017408) (fwide x)) (some 0) == fcmp .gtr .f64 (fop .quo .f64 (some 4607182418800017408) (fwide x)) (some 0))
      (fcmp .eql .f64 (fwide x) (fwide x)))
theorem sf_true (x : Option Nat) : sf x = true := by
  unfold sf
  have := neq_eql .f64 (fwide x) (fwide x)
  cases he : fcmp .eql .f64 (fwide x) (fwide x) <;> rw [he] at this <;> simp [this]
noncomputable def sfL : List (Option Nat) → Bool
  | [] => true
  | x :: t => cond (!sf x) false (sfL t)
theorem sfL_true : ∀ l, sfL l = true
  | [] => rfl
  | x :: t => by simp [sfL, sf_true, sfL_true t]
theorem codes_same {b : Bool} {c : Int} (h : b = true) : cond (cond (!b) true (c != c)) false true = true := by subst h; simp

noncomputable def samesL : List (Option Nat) → List (Option Nat) → Bool
  | a :: l, b :: m => cond (!sameF a b) false (samesL l m)
  | _, _ => true

end Go.Sx.C1
