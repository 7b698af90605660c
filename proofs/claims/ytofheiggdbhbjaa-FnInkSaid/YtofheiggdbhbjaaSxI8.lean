/- Ink of a grid: contracts of the functions. -/
import Derived.Test.YtofheiggdbhbjaaSxR0
import Derived.Test.YtofheiggdbhbjaaSxC5
import Derived.Test.YtofheiggdbhbjaaSxI7
set_option linter.unusedVariables false
set_option linter.unusedSimpArgs false
set_option maxRecDepth 100000
namespace Go.Proofs.Ytofheiggdbhbjaa.I8
open Go.Sx Go.Sx.R0 Go.Sx.C5 Go.Sx.C1 Go.Sx.Fl Go.Sx.Ink

def z4 : AV := .agg (List.replicate 4 (.flt .f32 (some 0)))
noncomputable def rg (l : Option Nat) : Bool := cond (fcmp .geq .f32 l (some 0)) (fcmp .leq .f32 l (some 1082130432)) false
noncomputable def lm (x a b c d l : Option Nat) : Option Nat := mu x (byL a b c d l)
noncomputable def idx4 (a b c d : Option Nat) : Int := cond (!finS a) 0 (cond (!finS b) 1 (cond (!finS c) 2 (cond (!finS d) 3 (-1))))
noncomputable def TR (g r : Bool) (a b c d l : Option Nat) (rest : Tr (AV × Option (List Blk))) : Tr (AV × Option (List Blk)) :=
  .node (!g) (.leaf (.tup [z4, .lit (.int .i64 1)], none)) (.node (!r) (.leaf (.tup [z4, .lit (.int .i64 2)], none)) (.node (fcmp .leq .f32 (ink a b c d) l) (.leaf (.tup [.agg (List.map (AV.flt .f32) [a, b, c, d]), .lit (.int .i64 0)], none))
    (.node (fcmp .geq .f32 d l) (.leaf (.tup [.agg (List.map (AV.flt .f32) [some 0, some 0, some 0, l]), .lit (.int .i64 0)], none)) rest)))
noncomputable def TS (a b c d l : Option Nat) : Tr (AV × Option (List Blk)) := TR (cov a b c d) (rg l) a b c d l (.leaf (.tup [.agg (List.map (AV.flt .f32) [lm a a b c d l, lm b a b c d l, lm c a b c d l, d]), .lit (.int .i64 0)], none))
noncomputable def TI (a b c d l : Option Nat) : Tr (AV × Option (List Blk)) := TR (covI a b c d) (rg l) a b c d l
  (.node (!!decide (idx4 (lm a a b c d l) (lm b a b c d l) (lm c a b c d l) d ≥ 0)) (.leaf (.tup [z4, .lit (.int .i64 4)], none)) (.leaf (.tup [.agg (List.map (AV.flt .f32) [lm a a b c d l, lm b a b c d l, lm c a b c d l, d]), .lit (.int .i64 0)], none)))
theorem eS (a b c d l : Option Nat) : evF Try.prog finK noL 20 8 8 [.agg (List.map (AV.flt .f32) [a, b, c, d]), .flt .f32 l] [] = some (TS a b c d l, true) := by kernel_rfl
theorem eI (a b c d l : Option Nat) : evF Try.prog finK noL 20 8 7 [.agg (List.map (AV.flt .f32) [a, b, c, d]), .flt .f32 l] [] = some (TI a b c d l, true) := by kernel_rfl
-- how much ink there is
theorem eInk (a b c d : Option Nat) : evF Try.prog finK noL 20 8 9 [.agg (List.map (AV.flt .f32) [a, b, c, d])] [] = some (.node (!covI a b c d) (.leaf (.tup [.flt .f32 (some 0), .lit (.int .i64 1)], none)) (.leaf (.tup [.flt .f32 (ink a b c d), .lit (.int .i64 0)], none)), true) := by kernel_rfl
-- black put under
noncomputable def leI (a b c : Option Nat) : Option Nat := fmin2 .f32 (fmin2 .f32 a b) c
noncomputable def leS (a b c : Option Nat) : Option Nat := cond (fcmp .lss .f32 c (cond (fcmp .lss .f32 b a) b a)) c (cond (fcmp .lss .f32 b a) b a)
noncomputable def pb (a b c d g : Option Nat) : List AV := List.map (AV.flt .f32) [fop .sub .f32 a g, fop .sub .f32 b g, fop .sub .f32 c g, cond (fcmp .gtr .f32 (fop .add .f32 d g) (some 1065353216)) (some 1065353216) (fop .add .f32 d g)]
noncomputable def TP (g : Bool) (a b c d s le : Option Nat) : Tr (AV × Option (List Blk)) := .node (!g) (.leaf (.tup [z4, .lit (.int .i64 1)], none)) (.node (!sh s) (.leaf (.tup [z4, .lit (.int .i64 2)], none)) (.leaf (.tup [.agg (pb a b c d (mu s le)), .lit (.int .i64 0)], none)))
theorem pI (a b c d s : Option Nat) : evF Try.prog finK noL 20 8 10 [.agg (List.map (AV.flt .f32) [a, b, c, d]), .flt .f32 s] [] = some (TP (covI a b c d) a b c d s (leI a b c), true) := by kernel_rfl
def l4 (a b c d : Option Nat) : AV := .agg (List.map (AV.flt .f32) [a, b, c, d])
noncomputable def TPS (a b c d s le : Option Nat) : Tr (AV × Option (List Blk)) := .node (!cov a b c d) (.leaf (.tup [z4, .lit (.int .i64 1)], none)) (.node (!sh s) (.leaf (.tup [z4, .lit (.int .i64 2)], none)) (.node (fcmp .gtr .f32 (fop .add .f32 d (mu s le)) (some 1065353216))
  (.leaf (.tup [l4 (fop .sub .f32 a (mu s le)) (fop .sub .f32 b (mu s le)) (fop .sub .f32 c (mu s le)) (some 1065353216), .lit (.int .i64 0)], none))
  (.leaf (.tup [l4 (fop .sub .f32 a (mu s le)) (fop .sub .f32 b (mu s le)) (fop .sub .f32 c (mu s le)) (fop .add .f32 d (mu s le)), .lit (.int .i64 0)], none))))
theorem pS (a b c d s : Option Nat) : evF Try.prog finK noL 20 8 11 [.agg (List.map (AV.flt .f32) [a, b, c, d]), .flt .f32 s] [] = some (TPS a b c d s (leS a b c), true) := by kernel_rfl
end Go.Proofs.Ytofheiggdbhbjaa.I8
