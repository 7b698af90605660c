/- What the functions on presses and covers compute, in plain terms. -/
import Derived.Test.YtpnjimpiphbcfaaSxC1
set_option linter.unusedSimpArgs false
set_option linter.unusedVariables false
namespace Go.Sx.C5
open Go.Sx

/-- at least nought, at most one -/
noncomputable def sh (k : Option Nat) : Bool := cond (fcmp .geq .f32 k (some 0)) (fcmp .leq .f32 k (some 1065353216)) false
noncomputable def shL : List (Option Nat) → Bool
  | [] => true
  | x :: t => cond (!sh x) false (shL t)
noncomputable def idx : List (Option Nat) → Int → Int
  | [], _ => -1
  | k :: t, i => cond (!sh k) i (idx t (IntKind.i64.wrap (i + 1)))
theorem idx_all : ∀ (l : List (Option Nat)) (i : Int), 0 ≤ i → i + l.length < 1000000 → (!decide (idx l i ≥ 0)) = shL l
  | [], i, _, _ => by simp [idx, shL]
  | a :: t, i, h, hl => by
    simp only [List.length_cons] at hl
    simp only [idx, shL]
    simp only [IntWalk.i64_in (i + 1) (by omega)]
    cases sh a with
    | false => simpa using h
    | true => simpa using idx_all t (i + 1) (by omega) (by omega)
theorem idx_all0 (l : List (Option Nat)) (h : l.length < 1000) : (!decide (idx l 0 ≥ 0)) = shL l := idx_all l 0 (Int.le_refl 0) (by omega)

/-- a press is valid -/
noncomputable def pS (p a b c d : List (Option Nat)) (g : Option Nat) : Bool :=
  cond (!shL a) false (cond (!shL b) false (cond (!shL c) false (cond (!shL d) false (cond (shL p) (sh g) false))))
noncomputable def pI (p a b c d : List (Option Nat)) (g : Option Nat) : Bool :=
  cond (!!decide (idx a 0 ≥ 0)) false (cond (!!decide (idx b 0 ≥ 0)) false (cond (!!decide (idx c 0 ≥ 0)) false (cond (!!decide (idx d 0 ≥ 0)) false (cond (!decide (idx p 0 ≥ 0)) (sh g) false))))
theorem pI_pS (p a b c d : List (Option Nat)) (g : Option Nat) (hp : p.length < 1000) (ha : a.length < 1000) (hb : b.length < 1000) (hc : c.length < 1000) (hd : d.length < 1000) : pI p a b c d g = pS p a b c d g := by
  unfold pI pS
  rw [idx_all0 p hp, idx_all0 a ha, idx_all0 b hb, idx_all0 c hc, idx_all0 d hd]

noncomputable def mu (a b : Option Nat) : Option Nat := fop .mul .f32 a b
/-- a cover is valid -/
noncomputable def cov (a b c d : Option Nat) : Bool := cond (cond (cond (sh a) (sh b) false) (sh c) false) (sh d) false
noncomputable def covI (a b c d : Option Nat) : Bool := cond (!sh a) false (cond (!sh b) false (cond (!sh c) false (cond (!sh d) false true)))
theorem covI_cov (a b c d : Option Nat) : covI a b c d = cov a b c d := by unfold covI cov; cases sh a <;> cases sh b <;> cases sh c <;> cases sh d <;> rfl
/-- products of curves, number by number -/
noncomputable def muL : List (Option Nat) → List (Option Nat) → List (Option Nat)
  | a :: s, b :: t => mu a b :: muL s t
  | _, _ => []
/-- the curve of paper and inks -/
noncomputable def ovl (k : List Bool) (p : List (Option Nat)) (is : List (List (Option Nat))) : List (Option Nat) :=
  match k, is with
  | true :: k, i :: is => ovl k (muL p i) is
  | false :: k, _ :: is => ovl k p is
  | _, _ => p
noncomputable def gain (g a : Option Nat) : Option Nat := fop .add .f32 a (mu (some 1082130432) (mu (mu g a) (fop .sub .f32 (some 1065353216) a)))
noncomputable def grow (g a : Option Nat) : Option Nat := cond (fcmp .gtr .f32 (gain g a) (some 1065353216)) (some 1065353216) (gain g a)
def press (p a b c d : List (Option Nat)) (g : Option Nat) : List AV := List.map (AV.flt .f32) p ++ (List.map (AV.flt .f32) a ++ (List.map (AV.flt .f32) b ++ (List.map (AV.flt .f32) c ++ (List.map (AV.flt .f32) d ++ [.flt .f32 g]))))
def z16 : AV := .agg (List.replicate 16 (.flt .f32 (some 0)))

/-- sixteen numbers of many -/
def l16 (f : Nat → Option Nat) (b : Nat) : List (Option Nat) := [f (b + 0), f (b + 1), f (b + 2), f (b + 3), f (b + 4), f (b + 5), f (b + 6), f (b + 7), f (b + 8), f (b + 9), f (b + 10), f (b + 11), f (b + 12), f (b + 13), f (b + 14), f (b + 15)]
/-- a press by its 81 numbers -/
def pcs (f : Nat → Option Nat) : List AV := press (l16 f 0) (l16 f 16) (l16 f 32) (l16 f 48) (l16 f 64) (f 80)
def cF (f : Nat → Option Nat) : List AV := List.map (AV.flt .f32) (l16 f 0)
noncomputable def ov1 (k : Bool) (x y : Option Nat) : Option Nat := cond k (mu x y) x
/-- the overprint of a key, number by number -/
noncomputable def ov (f : Nat → Option Nat) (k0 k1 k2 k3 : Bool) (w : Nat) : Option Nat := ov1 k3 (ov1 k2 (ov1 k1 (ov1 k0 (f w) (f (16 + w))) (f (32 + w))) (f (48 + w))) (f (64 + w))
/-- a press is valid -/
noncomputable def pV (f : Nat → Option Nat) : Bool := pS (l16 f 0) (l16 f 16) (l16 f 32) (l16 f 48) (l16 f 64) (f 80)
noncomputable def pVI (f : Nat → Option Nat) : Bool := pI (l16 f 0) (l16 f 16) (l16 f 32) (l16 f 48) (l16 f 64) (f 80)
theorem pVI_pV (f : Nat → Option Nat) : pVI f = pV f := pI_pS _ _ _ _ _ _ (by simp [l16]) (by simp [l16]) (by simp [l16]) (by simp [l16]) (by simp [l16])

end Go.Sx.C5
