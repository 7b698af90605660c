/- The law 'FnExactCoverWithGain': the program's CoverWithGain returns what the reference's returns, for all arguments; no condition. -/
import Derived.Test.YtpechflfloolkaaRows
import Derived.WalkKit
import Derived.ProofKit
import Derived.OpenShut
import Derived.ChangeOld
import Derived.Below
import Derived.Test.YtpechflfloolkaaSxK1
import Derived.Test.YtpechflfloolkaaSxC5
namespace Go.Proofs.Ytpechflfloolkaa.lawCoverWithGain
open Go.ChangeShapes Go.WideShapes Go.ChangeAt Go.RowKit Go.Sx
set_option linter.unusedVariables false
set_option linter.unusedSimpArgs false
set_option maxRecDepth 100000
def lawN : Nat := 20
def lawD : Nat := 8

open Go.Sx.C5 Go.Sx.C1

def z4 : AV := .agg (List.replicate 4 (.flt .f32 (some 0)))
noncomputable def co (g c : Bool) : Int := cond (cond (!g) true (!c)) 1 0
noncomputable def TS (g c : Bool) (l : List (Option Nat)) : Tr (AV × Option (List Blk)) :=
  .node (co g c != 0) (.leaf (.tup [z4, .int .i64 (co g c)], none)) (.leaf (.tup [.agg (List.map (AV.flt .f32) l), .lit (.int .i64 0)], none))
noncomputable def TI (g c : Bool) (l : List (Option Nat)) : Tr (AV × Option (List Blk)) :=
  .node (cond (!g) true (!c)) (.leaf (.tup [z4, .lit (.int .i64 1)], none)) (.leaf (.tup [.agg (List.map (AV.flt .f32) l), .lit (.int .i64 0)], none))
theorem TI_TS (g c : Bool) (l : List (Option Nat)) : delitD (TI g c l).get.1 = delitD (TS g c l).get.1 := by
  unfold TI TS co
  cases g <;> cases c <;> rfl
noncomputable def grL (g : Option Nat) : List (Option Nat) → List (Option Nat)
  | [] => []
  | a :: t => grow g a :: grL g t

theorem law (l0 : List AV) (t0 : Typed (List.replicate 16 (.flt .f32) ++ (List.replicate 64 (.flt .f32) ++ [.flt .f32])) l0) (l1 : List AV) (t1 : Typed (List.replicate 4 (.flt .f32)) l1) :
    ∃ K, CallerTOk Try.prog K ∧ ∃ t, evF Try.prog K noL lawN lawD 10 [.agg l0, .agg l1] [] = some (t, true) ∧ delit t.get.1 = .bool true := by
  obtain ⟨_, _, rfl, ⟨p0, rfl, p0K⟩, t0⟩ := t0
  obtain ⟨_, _, rfl, ⟨p1, rfl, p1K⟩, t0⟩ := t0
  obtain ⟨_, _, rfl, ⟨p2, rfl, p2K⟩, t0⟩ := t0
  obtain ⟨_, _, rfl, ⟨p3, rfl, p3K⟩, t0⟩ := t0
  obtain ⟨_, _, rfl, ⟨p4, rfl, p4K⟩, t0⟩ := t0
  obtain ⟨_, _, rfl, ⟨p5, rfl, p5K⟩, t0⟩ := t0
  obtain ⟨_, _, rfl, ⟨p6, rfl, p6K⟩, t0⟩ := t0
  obtain ⟨_, _, rfl, ⟨p7, rfl, p7K⟩, t0⟩ := t0
  obtain ⟨_, _, rfl, ⟨p8, rfl, p8K⟩, t0⟩ := t0
  obtain ⟨_, _, rfl, ⟨p9, rfl, p9K⟩, t0⟩ := t0
  obtain ⟨_, _, rfl, ⟨p10, rfl, p10K⟩, t0⟩ := t0
  obtain ⟨_, _, rfl, ⟨p11, rfl, p11K⟩, t0⟩ := t0
  obtain ⟨_, _, rfl, ⟨p12, rfl, p12K⟩, t0⟩ := t0
  obtain ⟨_, _, rfl, ⟨p13, rfl, p13K⟩, t0⟩ := t0
  obtain ⟨_, _, rfl, ⟨p14, rfl, p14K⟩, t0⟩ := t0
  obtain ⟨_, _, rfl, ⟨p15, rfl, p15K⟩, t0⟩ := t0
  obtain ⟨_, _, rfl, ⟨a0, rfl, a0K⟩, t0⟩ := t0
  obtain ⟨_, _, rfl, ⟨a1, rfl, a1K⟩, t0⟩ := t0
  obtain ⟨_, _, rfl, ⟨a2, rfl, a2K⟩, t0⟩ := t0
  obtain ⟨_, _, rfl, ⟨a3, rfl, a3K⟩, t0⟩ := t0
  obtain ⟨_, _, rfl, ⟨a4, rfl, a4K⟩, t0⟩ := t0
  obtain ⟨_, _, rfl, ⟨a5, rfl, a5K⟩, t0⟩ := t0
  obtain ⟨_, _, rfl, ⟨a6, rfl, a6K⟩, t0⟩ := t0
  obtain ⟨_, _, rfl, ⟨a7, rfl, a7K⟩, t0⟩ := t0
  obtain ⟨_, _, rfl, ⟨a8, rfl, a8K⟩, t0⟩ := t0
  obtain ⟨_, _, rfl, ⟨a9, rfl, a9K⟩, t0⟩ := t0
  obtain ⟨_, _, rfl, ⟨a10, rfl, a10K⟩, t0⟩ := t0
  obtain ⟨_, _, rfl, ⟨a11, rfl, a11K⟩, t0⟩ := t0
  obtain ⟨_, _, rfl, ⟨a12, rfl, a12K⟩, t0⟩ := t0
  obtain ⟨_, _, rfl, ⟨a13, rfl, a13K⟩, t0⟩ := t0
  obtain ⟨_, _, rfl, ⟨a14, rfl, a14K⟩, t0⟩ := t0
  obtain ⟨_, _, rfl, ⟨a15, rfl, a15K⟩, t0⟩ := t0
  obtain ⟨_, _, rfl, ⟨b0, rfl, b0K⟩, t0⟩ := t0
  obtain ⟨_, _, rfl, ⟨b1, rfl, b1K⟩, t0⟩ := t0
  obtain ⟨_, _, rfl, ⟨b2, rfl, b2K⟩, t0⟩ := t0
  obtain ⟨_, _, rfl, ⟨b3, rfl, b3K⟩, t0⟩ := t0
  obtain ⟨_, _, rfl, ⟨b4, rfl, b4K⟩, t0⟩ := t0
  obtain ⟨_, _, rfl, ⟨b5, rfl, b5K⟩, t0⟩ := t0
  obtain ⟨_, _, rfl, ⟨b6, rfl, b6K⟩, t0⟩ := t0
  obtain ⟨_, _, rfl, ⟨b7, rfl, b7K⟩, t0⟩ := t0
  obtain ⟨_, _, rfl, ⟨b8, rfl, b8K⟩, t0⟩ := t0
  obtain ⟨_, _, rfl, ⟨b9, rfl, b9K⟩, t0⟩ := t0
  obtain ⟨_, _, rfl, ⟨b10, rfl, b10K⟩, t0⟩ := t0
  obtain ⟨_, _, rfl, ⟨b11, rfl, b11K⟩, t0⟩ := t0
  obtain ⟨_, _, rfl, ⟨b12, rfl, b12K⟩, t0⟩ := t0
  obtain ⟨_, _, rfl, ⟨b13, rfl, b13K⟩, t0⟩ := t0
  obtain ⟨_, _, rfl, ⟨b14, rfl, b14K⟩, t0⟩ := t0
  obtain ⟨_, _, rfl, ⟨b15, rfl, b15K⟩, t0⟩ := t0
  obtain ⟨_, _, rfl, ⟨c0, rfl, c0K⟩, t0⟩ := t0
  obtain ⟨_, _, rfl, ⟨c1, rfl, c1K⟩, t0⟩ := t0
  obtain ⟨_, _, rfl, ⟨c2, rfl, c2K⟩, t0⟩ := t0
  obtain ⟨_, _, rfl, ⟨c3, rfl, c3K⟩, t0⟩ := t0
  obtain ⟨_, _, rfl, ⟨c4, rfl, c4K⟩, t0⟩ := t0
  obtain ⟨_, _, rfl, ⟨c5, rfl, c5K⟩, t0⟩ := t0
  obtain ⟨_, _, rfl, ⟨c6, rfl, c6K⟩, t0⟩ := t0
  obtain ⟨_, _, rfl, ⟨c7, rfl, c7K⟩, t0⟩ := t0
  obtain ⟨_, _, rfl, ⟨c8, rfl, c8K⟩, t0⟩ := t0
  obtain ⟨_, _, rfl, ⟨c9, rfl, c9K⟩, t0⟩ := t0
  obtain ⟨_, _, rfl, ⟨c10, rfl, c10K⟩, t0⟩ := t0
  obtain ⟨_, _, rfl, ⟨c11, rfl, c11K⟩, t0⟩ := t0
  obtain ⟨_, _, rfl, ⟨c12, rfl, c12K⟩, t0⟩ := t0
  obtain ⟨_, _, rfl, ⟨c13, rfl, c13K⟩, t0⟩ := t0
  obtain ⟨_, _, rfl, ⟨c14, rfl, c14K⟩, t0⟩ := t0
  obtain ⟨_, _, rfl, ⟨c15, rfl, c15K⟩, t0⟩ := t0
  obtain ⟨_, _, rfl, ⟨d0, rfl, d0K⟩, t0⟩ := t0
  obtain ⟨_, _, rfl, ⟨d1, rfl, d1K⟩, t0⟩ := t0
  obtain ⟨_, _, rfl, ⟨d2, rfl, d2K⟩, t0⟩ := t0
  obtain ⟨_, _, rfl, ⟨d3, rfl, d3K⟩, t0⟩ := t0
  obtain ⟨_, _, rfl, ⟨d4, rfl, d4K⟩, t0⟩ := t0
  obtain ⟨_, _, rfl, ⟨d5, rfl, d5K⟩, t0⟩ := t0
  obtain ⟨_, _, rfl, ⟨d6, rfl, d6K⟩, t0⟩ := t0
  obtain ⟨_, _, rfl, ⟨d7, rfl, d7K⟩, t0⟩ := t0
  obtain ⟨_, _, rfl, ⟨d8, rfl, d8K⟩, t0⟩ := t0
  obtain ⟨_, _, rfl, ⟨d9, rfl, d9K⟩, t0⟩ := t0
  obtain ⟨_, _, rfl, ⟨d10, rfl, d10K⟩, t0⟩ := t0
  obtain ⟨_, _, rfl, ⟨d11, rfl, d11K⟩, t0⟩ := t0
  obtain ⟨_, _, rfl, ⟨d12, rfl, d12K⟩, t0⟩ := t0
  obtain ⟨_, _, rfl, ⟨d13, rfl, d13K⟩, t0⟩ := t0
  obtain ⟨_, _, rfl, ⟨d14, rfl, d14K⟩, t0⟩ := t0
  obtain ⟨_, _, rfl, ⟨d15, rfl, d15K⟩, t0⟩ := t0
  obtain ⟨_, _, rfl, ⟨g, rfl, gK⟩, t0⟩ := t0
  have t0 := (t0 : _ = [])
  subst t0
  obtain ⟨_, _, rfl, ⟨x0, rfl, x0K⟩, t1⟩ := t1
  obtain ⟨_, _, rfl, ⟨x1, rfl, x1K⟩, t1⟩ := t1
  obtain ⟨_, _, rfl, ⟨x2, rfl, x2K⟩, t1⟩ := t1
  obtain ⟨_, _, rfl, ⟨x3, rfl, x3K⟩, t1⟩ := t1
  have t1 := (t1 : _ = [])
  subst t1
  have hS : evF Try.prog extK noL lawN lawD 38 [.agg (press [p0, p1, p2, p3, p4, p5, p6, p7, p8, p9, p10, p11, p12, p13, p14, p15] [a0, a1, a2, a3, a4, a5, a6, a7, a8, a9, a10, a11, a12, a13, a14, a15] [b0, b1, b2, b3, b4, b5, b6, b7, b8, b9, b10, b11, b12, b13, b14, b15] [c0, c1, c2, c3, c4, c5, c6, c7, c8, c9, c10, c11, c12, c13, c14, c15] [d0, d1, d2, d3, d4, d5, d6, d7, d8, d9, d10, d11, d12, d13, d14, d15] g), .agg (List.map (AV.flt .f32) [x0, x1, x2, x3])] [] = some (TS (pS [p0, p1, p2, p3, p4, p5, p6, p7, p8, p9, p10, p11, p12, p13, p14, p15] [a0, a1, a2, a3, a4, a5, a6, a7, a8, a9, a10, a11, a12, a13, a14, a15] [b0, b1, b2, b3, b4, b5, b6, b7, b8, b9, b10, b11, b12, b13, b14, b15] [c0, c1, c2, c3, c4, c5, c6, c7, c8, c9, c10, c11, c12, c13, c14, c15] [d0, d1, d2, d3, d4, d5, d6, d7, d8, d9, d10, d11, d12, d13, d14, d15] g) (cov x0 x1 x2 x3) (grL g [x0, x1, x2, x3]), true) := by kernel_rfl
  have hI : evF Try.prog extK noL lawN lawD 39 [.agg (press [p0, p1, p2, p3, p4, p5, p6, p7, p8, p9, p10, p11, p12, p13, p14, p15] [a0, a1, a2, a3, a4, a5, a6, a7, a8, a9, a10, a11, a12, a13, a14, a15] [b0, b1, b2, b3, b4, b5, b6, b7, b8, b9, b10, b11, b12, b13, b14, b15] [c0, c1, c2, c3, c4, c5, c6, c7, c8, c9, c10, c11, c12, c13, c14, c15] [d0, d1, d2, d3, d4, d5, d6, d7, d8, d9, d10, d11, d12, d13, d14, d15] g), .agg (List.map (AV.flt .f32) [x0, x1, x2, x3])] [] = some (TI (pI [p0, p1, p2, p3, p4, p5, p6, p7, p8, p9, p10, p11, p12, p13, p14, p15] [a0, a1, a2, a3, a4, a5, a6, a7, a8, a9, a10, a11, a12, a13, a14, a15] [b0, b1, b2, b3, b4, b5, b6, b7, b8, b9, b10, b11, b12, b13, b14, b15] [c0, c1, c2, c3, c4, c5, c6, c7, c8, c9, c10, c11, c12, c13, c14, c15] [d0, d1, d2, d3, d4, d5, d6, d7, d8, d9, d10, d11, d12, d13, d14, d15] g) (covI x0 x1 x2 x3) (grL g [x0, x1, x2, x3]), true) := by kernel_rfl
  rw [pI_pS _ _ _ _ _ _ (by simp) (by simp) (by simp) (by simp) (by simp), covI_cov] at hI
  generalize pS [p0, p1, p2, p3, p4, p5, p6, p7, p8, p9, p10, p11, p12, p13, p14, p15] [a0, a1, a2, a3, a4, a5, a6, a7, a8, a9, a10, a11, a12, a13, a14, a15] [b0, b1, b2, b3, b4, b5, b6, b7, b8, b9, b10, b11, b12, b13, b14, b15] [c0, c1, c2, c3, c4, c5, c6, c7, c8, c9, c10, c11, c12, c13, c14, c15] [d0, d1, d2, d3, d4, d5, d6, d7, d8, d9, d10, d11, d12, d13, d14, d15] g = q at hS hI
  obtain ⟨w0, w1, w2, w3, e, hw⟩ : ∃ (w0 w1 w2 w3 : Option Nat) (e : Int), delitD (TS q (cov x0 x1 x2 x3) (grL g [x0, x1, x2, x3])).get.1 = .tup [.agg (List.map (AV.flt .f32) [w0, w1, w2, w3]), .int .i64 e] := by
    unfold TS Tr.get
    cases co q (cov x0 x1 x2 x3) != 0
    · exact ⟨_, _, _, _, _, rfl⟩
    · exact ⟨_, _, _, _, _, rfl⟩
  have kS := sum_at0 (L := noL) sxApart sxMixed extK_ok (fun _ _ _ _ => noL_ok) hS (by kernel_rfl) (T := .leaf (.tup [.agg (List.map (AV.flt .f32) [w0, w1, w2, w3]), .int .i64 e], none)) (fun _ => hw) (fun _ => ⟨rfl, rfl⟩)
  have kI := sum_at0 (L := noL) sxApart sxMixed extK_ok (fun _ _ _ _ => noL_ok) hI (by kernel_rfl) (T := .leaf (.tup [.agg (List.map (AV.flt .f32) [w0, w1, w2, w3]), .int .i64 e], none)) (fun _ => (TI_TS _ _ _).trans hw) (fun _ => ⟨rfl, rfl⟩)
  refine ⟨addK 38 _ (addK 39 _ extK), addK_ok kS (addK_ok kI extK_ok), .leaf (.bool (cond (cond (!sfL [w0, w1, w2, w3]) true (e != e)) false true), none), ?_, ?_⟩
  · have h : evF Try.prog (addK 38 (runAt [.agg (press [p0, p1, p2, p3, p4, p5, p6, p7, p8, p9, p10, p11, p12, p13, p14, p15] [a0, a1, a2, a3, a4, a5, a6, a7, a8, a9, a10, a11, a12, a13, a14, a15] [b0, b1, b2, b3, b4, b5, b6, b7, b8, b9, b10, b11, b12, b13, b14, b15] [c0, c1, c2, c3, c4, c5, c6, c7, c8, c9, c10, c11, c12, c13, c14, c15] [d0, d1, d2, d3, d4, d5, d6, d7, d8, d9, d10, d11, d12, d13, d14, d15] g), .agg (List.map (AV.flt .f32) [x0, x1, x2, x3])] (.leaf (.tup [.agg (List.map (AV.flt .f32) [w0, w1, w2, w3]), .int .i64 e], none)) true) (addK 39 (runAt [.agg (press [p0, p1, p2, p3, p4, p5, p6, p7, p8, p9, p10, p11, p12, p13, p14, p15] [a0, a1, a2, a3, a4, a5, a6, a7, a8, a9, a10, a11, a12, a13, a14, a15] [b0, b1, b2, b3, b4, b5, b6, b7, b8, b9, b10, b11, b12, b13, b14, b15] [c0, c1, c2, c3, c4, c5, c6, c7, c8, c9, c10, c11, c12, c13, c14, c15] [d0, d1, d2, d3, d4, d5, d6, d7, d8, d9, d10, d11, d12, d13, d14, d15] g), .agg (List.map (AV.flt .f32) [x0, x1, x2, x3])] (.leaf (.tup [.agg (List.map (AV.flt .f32) [w0, w1, w2, w3]), .int .i64 e], none)) true) extK)) noL lawN lawD 10 [.agg (press [p0, p1, p2, p3, p4, p5, p6, p7, p8, p9, p10, p11, p12, p13, p14, p15] [a0, a1, a2, a3, a4, a5, a6, a7, a8, a9, a10, a11, a12, a13, a14, a15] [b0, b1, b2, b3, b4, b5, b6, b7, b8, b9, b10, b11, b12, b13, b14, b15] [c0, c1, c2, c3, c4, c5, c6, c7, c8, c9, c10, c11, c12, c13, c14, c15] [d0, d1, d2, d3, d4, d5, d6, d7, d8, d9, d10, d11, d12, d13, d14, d15] g), .agg (List.map (AV.flt .f32) [x0, x1, x2, x3])] [] = some (.leaf (.bool (cond (cond (!sfL [w0, w1, w2, w3]) true (e != e)) false true), none), andB (andB (andB (deq [.agg (press [p0, p1, p2, p3, p4, p5, p6, p7, p8, p9, p10, p11, p12, p13, p14, p15] [a0, a1, a2, a3, a4, a5, a6, a7, a8, a9, a10, a11, a12, a13, a14, a15] [b0, b1, b2, b3, b4, b5, b6, b7, b8, b9, b10, b11, b12, b13, b14, b15] [c0, c1, c2, c3, c4, c5, c6, c7, c8, c9, c10, c11, c12, c13, c14, c15] [d0, d1, d2, d3, d4, d5, d6, d7, d8, d9, d10, d11, d12, d13, d14, d15] g), .agg (List.map (AV.flt .f32) [x0, x1, x2, x3])] [.agg (press [p0, p1, p2, p3, p4, p5, p6, p7, p8, p9, p10, p11, p12, p13, p14, p15] [a0, a1, a2, a3, a4, a5, a6, a7, a8, a9, a10, a11, a12, a13, a14, a15] [b0, b1, b2, b3, b4, b5, b6, b7, b8, b9, b10, b11, b12, b13, b14, b15] [c0, c1, c2, c3, c4, c5, c6, c7, c8, c9, c10, c11, c12, c13, c14, c15] [d0, d1, d2, d3, d4, d5, d6, d7, d8, d9, d10, d11, d12, d13, d14, d15] g), .agg (List.map (AV.flt .f32) [x0, x1, x2, x3])]) true) true) (andB (andB (andB (deq [.agg (press [p0, p1, p2, p3, p4, p5, p6, p7, p8, p9, p10, p11, p12, p13, p14, p15] [a0, a1, a2, a3, a4, a5, a6, a7, a8, a9, a10, a11, a12, a13, a14, a15] [b0, b1, b2, b3, b4, b5, b6, b7, b8, b9, b10, b11, b12, b13, b14, b15] [c0, c1, c2, c3, c4, c5, c6, c7, c8, c9, c10, c11, c12, c13, c14, c15] [d0, d1, d2, d3, d4, d5, d6, d7, d8, d9, d10, d11, d12, d13, d14, d15] g), .agg (List.map (AV.flt .f32) [x0, x1, x2, x3])] [.agg (press [p0, p1, p2, p3, p4, p5, p6, p7, p8, p9, p10, p11, p12, p13, p14, p15] [a0, a1, a2, a3, a4, a5, a6, a7, a8, a9, a10, a11, a12, a13, a14, a15] [b0, b1, b2, b3, b4, b5, b6, b7, b8, b9, b10, b11, b12, b13, b14, b15] [c0, c1, c2, c3, c4, c5, c6, c7, c8, c9, c10, c11, c12, c13, c14, c15] [d0, d1, d2, d3, d4, d5, d6, d7, d8, d9, d10, d11, d12, d13, d14, d15] g), .agg (List.map (AV.flt .f32) [x0, x1, x2, x3])]) true) true) true)) := by kernel_rfl
    rw [deq_self] at h
    exact h
  · simp [Tr.get, delit, sfL_true]

set_option maxRecDepth 100000 in
theorem lifted (os : Os) (started : os.Started) (H : Type) (enc : TypeId × Value → H) :
    ReturnsInHanded {} Try.checked os 10 .any (Rows.fnExactCoverWithGainSpec.pre6 enc Try.prog Try.f10 Rows.fnExactCoverWithGainRow.domain false) (Rows.fnExactCoverWithGainSpec.post enc Try.prog Try.f10 false true false false) := by
  refine returnsInHanded_of_change (C := Try.checked) sxOwn started (by kernel_rfl) Try.func10
    (ChangeSpec.witness6 (enc := enc) (C := Try.checked) false ⟨#[], #[.agg #[.float .f32 0, .float .f32 0, .float .f32 0, .float .f32 0, .float .f32 0, .float .f32 0, .float .f32 0, .float .f32 0, .float .f32 0, .float .f32 0, .float .f32 0, .float .f32 0, .float .f32 0, .float .f32 0, .float .f32 0, .float .f32 0, .float .f32 0, .float .f32 0, .float .f32 0, .float .f32 0, .float .f32 0, .float .f32 0, .float .f32 0, .float .f32 0, .float .f32 0, .float .f32 0, .float .f32 0, .float .f32 0, .float .f32 0, .float .f32 0, .float .f32 0, .float .f32 0, .float .f32 0, .float .f32 0, .float .f32 0, .float .f32 0, .float .f32 0, .float .f32 0, .float .f32 0, .float .f32 0, .float .f32 0, .float .f32 0, .float .f32 0, .float .f32 0, .float .f32 0, .float .f32 0, .float .f32 0, .float .f32 0, .float .f32 0, .float .f32 0, .float .f32 0, .float .f32 0, .float .f32 0, .float .f32 0, .float .f32 0, .float .f32 0, .float .f32 0, .float .f32 0, .float .f32 0, .float .f32 0, .float .f32 0, .float .f32 0, .float .f32 0, .float .f32 0, .float .f32 0, .float .f32 0, .float .f32 0, .float .f32 0, .float .f32 0, .float .f32 0, .float .f32 0, .float .f32 0, .float .f32 0, .float .f32 0, .float .f32 0, .float .f32 0, .float .f32 0, .float .f32 0, .float .f32 0, .float .f32 0, .float .f32 0], .agg #[.float .f32 0, .float .f32 0, .float .f32 0, .float .f32 0]], []⟩ 8 (by kernel_rfl) (by kernel_rfl) (by kernel_rfl) (by kernel_rfl)) ?_
  intro W base args ds gs before hval0 hW hcnd _
  have hval : ∀ (j : Nat) t v, Try.f10.params[j]? = some t → args[j]? = some v → Value.okWide Try.prog W .any base t v := hval0
  have hW' := hW
  obtain ⟨p, q, hA0, hV, rfl, hfz, hnd⟩ := hW
  have hA : DataW.TrodAll enc Try.prog W 0 (fun _ => true) true Try.f10.params.toList args.toList ds p := hA0
  rw [Try.params10] at hA hval
  obtain ⟨v0, vs0, d0, ds0, p0, q0, hargs, rfl, rfl, h0, r0⟩ := trodAll_cons hA
  obtain ⟨v1, vs1, d1, ds1, p1, q1, rfl, rfl, rfl, h1, r1⟩ := trodAll_cons r0
  obtain ⟨rfl, rfl, rfl⟩ := trodAll_nil r1
  obtain rfl : args = #[v0, v1] := by cases args; simp_all
  obtain ⟨rfl, rfl⟩ := trodVars_none hV
  obtain ⟨l0, t0, e0⟩ := arg_agg (ρ := []) (ts := [22, 22, 22, 22, 22, 22, 22, 22, 22, 22, 22, 22, 22, 22, 22, 22, 22, 22, 22, 22, 22, 22, 22, 22, 22, 22, 22, 22, 22, 22, 22, 22, 22, 22, 22, 22, 22, 22, 22, 22, 22, 22, 22, 22, 22, 22, 22, 22, 22, 22, 22, 22, 22, 22, 22, 22, 22, 22, 22, 22, 22, 22, 22, 22, 22, 22, 22, 22, 22, 22, 22, 22, 22, 22, 22, 22, 22, 22, 22, 22, 22]) (ks := [.flt .f32, .flt .f32, .flt .f32, .flt .f32, .flt .f32, .flt .f32, .flt .f32, .flt .f32, .flt .f32, .flt .f32, .flt .f32, .flt .f32, .flt .f32, .flt .f32, .flt .f32, .flt .f32, .flt .f32, .flt .f32, .flt .f32, .flt .f32, .flt .f32, .flt .f32, .flt .f32, .flt .f32, .flt .f32, .flt .f32, .flt .f32, .flt .f32, .flt .f32, .flt .f32, .flt .f32, .flt .f32, .flt .f32, .flt .f32, .flt .f32, .flt .f32, .flt .f32, .flt .f32, .flt .f32, .flt .f32, .flt .f32, .flt .f32, .flt .f32, .flt .f32, .flt .f32, .flt .f32, .flt .f32, .flt .f32, .flt .f32, .flt .f32, .flt .f32, .flt .f32, .flt .f32, .flt .f32, .flt .f32, .flt .f32, .flt .f32, .flt .f32, .flt .f32, .flt .f32, .flt .f32, .flt .f32, .flt .f32, .flt .f32, .flt .f32, .flt .f32, .flt .f32, .flt .f32, .flt .f32, .flt .f32, .flt .f32, .flt .f32, .flt .f32, .flt .f32, .flt .f32, .flt .f32, .flt .f32, .flt .f32, .flt .f32, .flt .f32, .flt .f32]) (hval 0 26 v0 rfl rfl) (by kernel_rfl) (by kernel_rfl) (by kernel_rfl) (by kernel_rfl)
  obtain ⟨l1, t1, e1⟩ := arg_agg (ρ := []) (ts := [22, 22, 22, 22]) (ks := [.flt .f32, .flt .f32, .flt .f32, .flt .f32]) (hval 1 43 v1 rfl rfl) (by kernel_rfl) (by kernel_rfl) (by kernel_rfl) (by kernel_rfl)
  have k0 := h0
  have lt0 : ∀ x ∈ p0, x.block < W.heap.size := by obtain ⟨m, hm⟩ := k0; exact DataW.trod_lt m _ _ _ hm
  have k1 := h1
  have lt1 : ∀ x ∈ p1, x.block < W.heap.size := by obtain ⟨m, hm⟩ := k1; exact DataW.trod_lt m _ _ _ hm
  have hrel : HRel [] [] W := ⟨rfl, fun b x p h => by simp at h, fun b c x y p q _ h => by simp at h⟩
  have hargs : VRels [] [.agg l0, .agg l1] [v0, v1] := by
    simp only [VRels]
    exact ⟨v0, _, rfl, e0, ⟨v1, _, rfl, e1, rfl⟩⟩
  obtain ⟨lawK, lawK_ok, hlaw⟩ := law l0 t0 l1 t1
  refine (evF_true (K := lawK) (L := noL) (N := lawN) (d := lawD) sxApart sxMixed lawK_ok (fun _ _ _ _ => noL_ok) hlaw hrel (fun b x h => by simp at h) hargs).mono fun e W' ⟨he, bel⟩ => ?_
  subst he
  exact ⟨_, rfl, _, _, _, [], _, [], hW', trodAll_mk1 (shut_bool Try.underlying4 _), (trodAll_cons_mk (Below.trod sxLaid (by kernel_rfl) (of_decide_eq_true (by kernel_rfl)) k0 bel lt0) (trodAll_cons_mk (Below.trod sxLaid (by kernel_rfl) (of_decide_eq_true (by kernel_rfl)) k1 bel lt1) trodAll_mk0)), rfl, bel.frame _, fun h => by cases h⟩

theorem over : Rows.fnExactCoverWithGainRow.holds Try.pinned (OpenSpec.ofChange Rows.fnExactCoverWithGainSpec) :=
  OpenClaim.holds_of_wide 10 Try.f10 rfl rfl rfl rfl rfl rfl rfl ⟨rfl, rfl, rfl, rfl, rfl⟩ rfl rfl rfl rfl rfl (by kernel_rfl) Try.func10 (by kernel_rfl)
    (of_decide_eq_true (by kernel_rfl)) (by unfold Func.isWrapper; first | (rw [if_pos (by decide +kernel)]; kernel_rfl) | (rw [if_neg (by decide +kernel)]; exact ⟨rfl, rfl⟩))
    (fun os started H enc _ => lifted os started H enc)

/-- The statement. -/
theorem proved : Rows.FnExactCoverWithGainSaid := over
#print axioms proved
end Go.Proofs.Ytpechflfloolkaa.lawCoverWithGain
