/- What the functions on presses and covers compute, in plain terms. -/
import Derived.Test.YtpechflfloolkaaSxC1
set_option linter.unusedSimpArgs false
set_option linter.unusedVariables false
namespace Go.Sx.C5
open Go.Sx

/-- at least nought, at most one -/
noncomputable def sh (k : Option Nat) : Bool := cond (fcmp .geq .f32 k (some 0)) (fcmp .leq .f32 k (some 1065353216)) false
noncomputable def shL : List (Option Nat) → Bool
  | [] => true
  | x :: t => cond (!sh x) false (shL t)
noncomputable def idx : List (Option Nat) → Int → Int
  | [], _ => -1
  | k :: t, i => cond (!sh k) i (idx t (IntKind.i64.wrap (i + 1)))
theorem idx_all : ∀ (l : List (Option Nat)) (i : Int), 0 ≤ i → i + l.length < 1000000 → (!decide (idx l i ≥ 0)) = shL l
  | [], i, _, _ => by simp [idx, shL]
  | a :: t, i, h, hl => by
    simp only [List.length_cons] at hl
    simp only [idx, shL]
    simp only [IntWalk.i64_in (i + 1) (by omega)]
    cases sh a with
    | false => simpa using h
    | true => simpa using idx_all t (i + 1) (by omega) (by omega)
theorem idx_all0 (l : List (Option Nat)) (h : l.length < 1000) : (!decide (idx l 0 ≥ 0)) = shL l := idx_all l 0 (Int.le_refl 0) (by omega)

/-- a press is valid -/
noncomputable def pS (p a b c d : List (Option Nat)) (g : Option Nat) : Bool :=
  cond (!shL a) false (cond (!shL b) false (cond (!shL c) false (cond (!shL d) false (cond (shL p) (sh g) false))))
noncomputable def pI (p a b c d : List (Option Nat)) (g : Option Nat) : Bool :=
  cond (!!decide (idx a 0 ≥ 0)) false (cond (!!decide (idx b 0 ≥ 0)) false (cond (!!decide (idx c 0 ≥ 0)) false (cond (!!decide (idx d 0 ≥ 0)) false (cond (!decide (idx p 0 ≥ 0)) (sh g) false))))
theorem pI_pS (p a b c d : List (Option Nat)) (g : Option Nat) (hp : p.length < 1000) (ha : a.length < 1000) (hb : b.length < 1000) (hc : c.length < 1000) (hd : d.length < 1000) : pI p a b c d g = pS p a b c d g := by
  unfold pI pS
  rw [idx_all0 p hp, idx_all0 a ha, idx_all0 b hb, idx_all0 c hc, idx_all0 d hd]

end Go.Sx.C5
