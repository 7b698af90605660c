/- The law 'FnExactSamePress': the program's SamePress returns what the reference's returns, for all arguments; no condition. -/
import Derived.Test.YtpechflfloolkaaRows
import Derived.WalkKit
import Derived.ProofKit
import Derived.OpenShut
import Derived.ChangeOld
import Derived.Below
import Derived.Test.YtpechflfloolkaaSxK1
import Derived.Test.YtpechflfloolkaaSxC6
namespace Go.Proofs.Ytpechflfloolkaa.lawSamePress
open Go.ChangeShapes Go.WideShapes Go.ChangeAt Go.RowKit Go.Sx
set_option linter.unusedVariables false
set_option linter.unusedSimpArgs false
set_option maxRecDepth 100000
def lawN : Nat := 20
def lawD : Nat := 8

open Go.Sx.C1

noncomputable def sameP (p a b c d : List (Option Nat)) (g : Option Nat) (p' a' b' c' d' : List (Option Nat)) (g' : Option Nat) : Bool :=
  cond (!samesL a a') false (cond (!samesL b b') false (cond (!samesL c c') false (cond (!samesL d d') false (cond (samesL p p') (sameF g g') false))))

theorem law (l0 : List AV) (t0 : Typed (List.replicate 16 (.flt .f32) ++ (List.replicate 64 (.flt .f32) ++ [.flt .f32])) l0)
    (l1 : List AV) (t1 : Typed (List.replicate 16 (.flt .f32) ++ (List.replicate 64 (.flt .f32) ++ [.flt .f32])) l1) :
    ∃ K, CallerTOk Try.prog K ∧ ∃ t, evF Try.prog K noL lawN lawD 4 [.agg l0, .agg l1] [] = some (t, true) ∧ delit t.get.1 = .bool true := by
  obtain ⟨_, _, rfl, ⟨p0, rfl, p0K⟩, t0⟩ := t0
  obtain ⟨_, _, rfl, ⟨p1, rfl, p1K⟩, t0⟩ := t0
  obtain ⟨_, _, rfl, ⟨p2, rfl, p2K⟩, t0⟩ := t0
  obtain ⟨_, _, rfl, ⟨p3, rfl, p3K⟩, t0⟩ := t0
  obtain ⟨_, _, rfl, ⟨p4, rfl, p4K⟩, t0⟩ := t0
  obtain ⟨_, _, rfl, ⟨p5, rfl, p5K⟩, t0⟩ := t0
  obtain ⟨_, _, rfl, ⟨p6, rfl, p6K⟩, t0⟩ := t0
  obtain ⟨_, _, rfl, ⟨p7, rfl, p7K⟩, t0⟩ := t0
  obtain ⟨_, _, rfl, ⟨p8, rfl, p8K⟩, t0⟩ := t0
  obtain ⟨_, _, rfl, ⟨p9, rfl, p9K⟩, t0⟩ := t0
  obtain ⟨_, _, rfl, ⟨p10, rfl, p10K⟩, t0⟩ := t0
  obtain ⟨_, _, rfl, ⟨p11, rfl, p11K⟩, t0⟩ := t0
  obtain ⟨_, _, rfl, ⟨p12, rfl, p12K⟩, t0⟩ := t0
  obtain ⟨_, _, rfl, ⟨p13, rfl, p13K⟩, t0⟩ := t0
  obtain ⟨_, _, rfl, ⟨p14, rfl, p14K⟩, t0⟩ := t0
  obtain ⟨_, _, rfl, ⟨p15, rfl, p15K⟩, t0⟩ := t0
  obtain ⟨_, _, rfl, ⟨a0, rfl, a0K⟩, t0⟩ := t0
  obtain ⟨_, _, rfl, ⟨a1, rfl, a1K⟩, t0⟩ := t0
  obtain ⟨_, _, rfl, ⟨a2, rfl, a2K⟩, t0⟩ := t0
  obtain ⟨_, _, rfl, ⟨a3, rfl, a3K⟩, t0⟩ := t0
  obtain ⟨_, _, rfl, ⟨a4, rfl, a4K⟩, t0⟩ := t0
  obtain ⟨_, _, rfl, ⟨a5, rfl, a5K⟩, t0⟩ := t0
  obtain ⟨_, _, rfl, ⟨a6, rfl, a6K⟩, t0⟩ := t0
  obtain ⟨_, _, rfl, ⟨a7, rfl, a7K⟩, t0⟩ := t0
  obtain ⟨_, _, rfl, ⟨a8, rfl, a8K⟩, t0⟩ := t0
  obtain ⟨_, _, rfl, ⟨a9, rfl, a9K⟩, t0⟩ := t0
  obtain ⟨_, _, rfl, ⟨a10, rfl, a10K⟩, t0⟩ := t0
  obtain ⟨_, _, rfl, ⟨a11, rfl, a11K⟩, t0⟩ := t0
  obtain ⟨_, _, rfl, ⟨a12, rfl, a12K⟩, t0⟩ := t0
  obtain ⟨_, _, rfl, ⟨a13, rfl, a13K⟩, t0⟩ := t0
  obtain ⟨_, _, rfl, ⟨a14, rfl, a14K⟩, t0⟩ := t0
  obtain ⟨_, _, rfl, ⟨a15, rfl, a15K⟩, t0⟩ := t0
  obtain ⟨_, _, rfl, ⟨b0, rfl, b0K⟩, t0⟩ := t0
  obtain ⟨_, _, rfl, ⟨b1, rfl, b1K⟩, t0⟩ := t0
  obtain ⟨_, _, rfl, ⟨b2, rfl, b2K⟩, t0⟩ := t0
  obtain ⟨_, _, rfl, ⟨b3, rfl, b3K⟩, t0⟩ := t0
  obtain ⟨_, _, rfl, ⟨b4, rfl, b4K⟩, t0⟩ := t0
  obtain ⟨_, _, rfl, ⟨b5, rfl, b5K⟩, t0⟩ := t0
  obtain ⟨_, _, rfl, ⟨b6, rfl, b6K⟩, t0⟩ := t0
  obtain ⟨_, _, rfl, ⟨b7, rfl, b7K⟩, t0⟩ := t0
  obtain ⟨_, _, rfl, ⟨b8, rfl, b8K⟩, t0⟩ := t0
  obtain ⟨_, _, rfl, ⟨b9, rfl, b9K⟩, t0⟩ := t0
  obtain ⟨_, _, rfl, ⟨b10, rfl, b10K⟩, t0⟩ := t0
  obtain ⟨_, _, rfl, ⟨b11, rfl, b11K⟩, t0⟩ := t0
  obtain ⟨_, _, rfl, ⟨b12, rfl, b12K⟩, t0⟩ := t0
  obtain ⟨_, _, rfl, ⟨b13, rfl, b13K⟩, t0⟩ := t0
  obtain ⟨_, _, rfl, ⟨b14, rfl, b14K⟩, t0⟩ := t0
  obtain ⟨_, _, rfl, ⟨b15, rfl, b15K⟩, t0⟩ := t0
  obtain ⟨_, _, rfl, ⟨c0, rfl, c0K⟩, t0⟩ := t0
  obtain ⟨_, _, rfl, ⟨c1, rfl, c1K⟩, t0⟩ := t0
  obtain ⟨_, _, rfl, ⟨c2, rfl, c2K⟩, t0⟩ := t0
  obtain ⟨_, _, rfl, ⟨c3, rfl, c3K⟩, t0⟩ := t0
  obtain ⟨_, _, rfl, ⟨c4, rfl, c4K⟩, t0⟩ := t0
  obtain ⟨_, _, rfl, ⟨c5, rfl, c5K⟩, t0⟩ := t0
  obtain ⟨_, _, rfl, ⟨c6, rfl, c6K⟩, t0⟩ := t0
  obtain ⟨_, _, rfl, ⟨c7, rfl, c7K⟩, t0⟩ := t0
  obtain ⟨_, _, rfl, ⟨c8, rfl, c8K⟩, t0⟩ := t0
  obtain ⟨_, _, rfl, ⟨c9, rfl, c9K⟩, t0⟩ := t0
  obtain ⟨_, _, rfl, ⟨c10, rfl, c10K⟩, t0⟩ := t0
  obtain ⟨_, _, rfl, ⟨c11, rfl, c11K⟩, t0⟩ := t0
  obtain ⟨_, _, rfl, ⟨c12, rfl, c12K⟩, t0⟩ := t0
  obtain ⟨_, _, rfl, ⟨c13, rfl, c13K⟩, t0⟩ := t0
  obtain ⟨_, _, rfl, ⟨c14, rfl, c14K⟩, t0⟩ := t0
  obtain ⟨_, _, rfl, ⟨c15, rfl, c15K⟩, t0⟩ := t0
  obtain ⟨_, _, rfl, ⟨d0, rfl, d0K⟩, t0⟩ := t0
  obtain ⟨_, _, rfl, ⟨d1, rfl, d1K⟩, t0⟩ := t0
  obtain ⟨_, _, rfl, ⟨d2, rfl, d2K⟩, t0⟩ := t0
  obtain ⟨_, _, rfl, ⟨d3, rfl, d3K⟩, t0⟩ := t0
  obtain ⟨_, _, rfl, ⟨d4, rfl, d4K⟩, t0⟩ := t0
  obtain ⟨_, _, rfl, ⟨d5, rfl, d5K⟩, t0⟩ := t0
  obtain ⟨_, _, rfl, ⟨d6, rfl, d6K⟩, t0⟩ := t0
  obtain ⟨_, _, rfl, ⟨d7, rfl, d7K⟩, t0⟩ := t0
  obtain ⟨_, _, rfl, ⟨d8, rfl, d8K⟩, t0⟩ := t0
  obtain ⟨_, _, rfl, ⟨d9, rfl, d9K⟩, t0⟩ := t0
  obtain ⟨_, _, rfl, ⟨d10, rfl, d10K⟩, t0⟩ := t0
  obtain ⟨_, _, rfl, ⟨d11, rfl, d11K⟩, t0⟩ := t0
  obtain ⟨_, _, rfl, ⟨d12, rfl, d12K⟩, t0⟩ := t0
  obtain ⟨_, _, rfl, ⟨d13, rfl, d13K⟩, t0⟩ := t0
  obtain ⟨_, _, rfl, ⟨d14, rfl, d14K⟩, t0⟩ := t0
  obtain ⟨_, _, rfl, ⟨d15, rfl, d15K⟩, t0⟩ := t0
  obtain ⟨_, _, rfl, ⟨g, rfl, gK⟩, t0⟩ := t0
  have t0 := (t0 : _ = [])
  subst t0
  obtain ⟨_, _, rfl, ⟨pp0, rfl, pp0K⟩, t1⟩ := t1
  obtain ⟨_, _, rfl, ⟨pp1, rfl, pp1K⟩, t1⟩ := t1
  obtain ⟨_, _, rfl, ⟨pp2, rfl, pp2K⟩, t1⟩ := t1
  obtain ⟨_, _, rfl, ⟨pp3, rfl, pp3K⟩, t1⟩ := t1
  obtain ⟨_, _, rfl, ⟨pp4, rfl, pp4K⟩, t1⟩ := t1
  obtain ⟨_, _, rfl, ⟨pp5, rfl, pp5K⟩, t1⟩ := t1
  obtain ⟨_, _, rfl, ⟨pp6, rfl, pp6K⟩, t1⟩ := t1
  obtain ⟨_, _, rfl, ⟨pp7, rfl, pp7K⟩, t1⟩ := t1
  obtain ⟨_, _, rfl, ⟨pp8, rfl, pp8K⟩, t1⟩ := t1
  obtain ⟨_, _, rfl, ⟨pp9, rfl, pp9K⟩, t1⟩ := t1
  obtain ⟨_, _, rfl, ⟨pp10, rfl, pp10K⟩, t1⟩ := t1
  obtain ⟨_, _, rfl, ⟨pp11, rfl, pp11K⟩, t1⟩ := t1
  obtain ⟨_, _, rfl, ⟨pp12, rfl, pp12K⟩, t1⟩ := t1
  obtain ⟨_, _, rfl, ⟨pp13, rfl, pp13K⟩, t1⟩ := t1
  obtain ⟨_, _, rfl, ⟨pp14, rfl, pp14K⟩, t1⟩ := t1
  obtain ⟨_, _, rfl, ⟨pp15, rfl, pp15K⟩, t1⟩ := t1
  obtain ⟨_, _, rfl, ⟨aa0, rfl, aa0K⟩, t1⟩ := t1
  obtain ⟨_, _, rfl, ⟨aa1, rfl, aa1K⟩, t1⟩ := t1
  obtain ⟨_, _, rfl, ⟨aa2, rfl, aa2K⟩, t1⟩ := t1
  obtain ⟨_, _, rfl, ⟨aa3, rfl, aa3K⟩, t1⟩ := t1
  obtain ⟨_, _, rfl, ⟨aa4, rfl, aa4K⟩, t1⟩ := t1
  obtain ⟨_, _, rfl, ⟨aa5, rfl, aa5K⟩, t1⟩ := t1
  obtain ⟨_, _, rfl, ⟨aa6, rfl, aa6K⟩, t1⟩ := t1
  obtain ⟨_, _, rfl, ⟨aa7, rfl, aa7K⟩, t1⟩ := t1
  obtain ⟨_, _, rfl, ⟨aa8, rfl, aa8K⟩, t1⟩ := t1
  obtain ⟨_, _, rfl, ⟨aa9, rfl, aa9K⟩, t1⟩ := t1
  obtain ⟨_, _, rfl, ⟨aa10, rfl, aa10K⟩, t1⟩ := t1
  obtain ⟨_, _, rfl, ⟨aa11, rfl, aa11K⟩, t1⟩ := t1
  obtain ⟨_, _, rfl, ⟨aa12, rfl, aa12K⟩, t1⟩ := t1
  obtain ⟨_, _, rfl, ⟨aa13, rfl, aa13K⟩, t1⟩ := t1
  obtain ⟨_, _, rfl, ⟨aa14, rfl, aa14K⟩, t1⟩ := t1
  obtain ⟨_, _, rfl, ⟨aa15, rfl, aa15K⟩, t1⟩ := t1
  obtain ⟨_, _, rfl, ⟨bb0, rfl, bb0K⟩, t1⟩ := t1
  obtain ⟨_, _, rfl, ⟨bb1, rfl, bb1K⟩, t1⟩ := t1
  obtain ⟨_, _, rfl, ⟨bb2, rfl, bb2K⟩, t1⟩ := t1
  obtain ⟨_, _, rfl, ⟨bb3, rfl, bb3K⟩, t1⟩ := t1
  obtain ⟨_, _, rfl, ⟨bb4, rfl, bb4K⟩, t1⟩ := t1
  obtain ⟨_, _, rfl, ⟨bb5, rfl, bb5K⟩, t1⟩ := t1
  obtain ⟨_, _, rfl, ⟨bb6, rfl, bb6K⟩, t1⟩ := t1
  obtain ⟨_, _, rfl, ⟨bb7, rfl, bb7K⟩, t1⟩ := t1
  obtain ⟨_, _, rfl, ⟨bb8, rfl, bb8K⟩, t1⟩ := t1
  obtain ⟨_, _, rfl, ⟨bb9, rfl, bb9K⟩, t1⟩ := t1
  obtain ⟨_, _, rfl, ⟨bb10, rfl, bb10K⟩, t1⟩ := t1
  obtain ⟨_, _, rfl, ⟨bb11, rfl, bb11K⟩, t1⟩ := t1
  obtain ⟨_, _, rfl, ⟨bb12, rfl, bb12K⟩, t1⟩ := t1
  obtain ⟨_, _, rfl, ⟨bb13, rfl, bb13K⟩, t1⟩ := t1
  obtain ⟨_, _, rfl, ⟨bb14, rfl, bb14K⟩, t1⟩ := t1
  obtain ⟨_, _, rfl, ⟨bb15, rfl, bb15K⟩, t1⟩ := t1
  obtain ⟨_, _, rfl, ⟨cc0, rfl, cc0K⟩, t1⟩ := t1
  obtain ⟨_, _, rfl, ⟨cc1, rfl, cc1K⟩, t1⟩ := t1
  obtain ⟨_, _, rfl, ⟨cc2, rfl, cc2K⟩, t1⟩ := t1
  obtain ⟨_, _, rfl, ⟨cc3, rfl, cc3K⟩, t1⟩ := t1
  obtain ⟨_, _, rfl, ⟨cc4, rfl, cc4K⟩, t1⟩ := t1
  obtain ⟨_, _, rfl, ⟨cc5, rfl, cc5K⟩, t1⟩ := t1
  obtain ⟨_, _, rfl, ⟨cc6, rfl, cc6K⟩, t1⟩ := t1
  obtain ⟨_, _, rfl, ⟨cc7, rfl, cc7K⟩, t1⟩ := t1
  obtain ⟨_, _, rfl, ⟨cc8, rfl, cc8K⟩, t1⟩ := t1
  obtain ⟨_, _, rfl, ⟨cc9, rfl, cc9K⟩, t1⟩ := t1
  obtain ⟨_, _, rfl, ⟨cc10, rfl, cc10K⟩, t1⟩ := t1
  obtain ⟨_, _, rfl, ⟨cc11, rfl, cc11K⟩, t1⟩ := t1
  obtain ⟨_, _, rfl, ⟨cc12, rfl, cc12K⟩, t1⟩ := t1
  obtain ⟨_, _, rfl, ⟨cc13, rfl, cc13K⟩, t1⟩ := t1
  obtain ⟨_, _, rfl, ⟨cc14, rfl, cc14K⟩, t1⟩ := t1
  obtain ⟨_, _, rfl, ⟨cc15, rfl, cc15K⟩, t1⟩ := t1
  obtain ⟨_, _, rfl, ⟨dd0, rfl, dd0K⟩, t1⟩ := t1
  obtain ⟨_, _, rfl, ⟨dd1, rfl, dd1K⟩, t1⟩ := t1
  obtain ⟨_, _, rfl, ⟨dd2, rfl, dd2K⟩, t1⟩ := t1
  obtain ⟨_, _, rfl, ⟨dd3, rfl, dd3K⟩, t1⟩ := t1
  obtain ⟨_, _, rfl, ⟨dd4, rfl, dd4K⟩, t1⟩ := t1
  obtain ⟨_, _, rfl, ⟨dd5, rfl, dd5K⟩, t1⟩ := t1
  obtain ⟨_, _, rfl, ⟨dd6, rfl, dd6K⟩, t1⟩ := t1
  obtain ⟨_, _, rfl, ⟨dd7, rfl, dd7K⟩, t1⟩ := t1
  obtain ⟨_, _, rfl, ⟨dd8, rfl, dd8K⟩, t1⟩ := t1
  obtain ⟨_, _, rfl, ⟨dd9, rfl, dd9K⟩, t1⟩ := t1
  obtain ⟨_, _, rfl, ⟨dd10, rfl, dd10K⟩, t1⟩ := t1
  obtain ⟨_, _, rfl, ⟨dd11, rfl, dd11K⟩, t1⟩ := t1
  obtain ⟨_, _, rfl, ⟨dd12, rfl, dd12K⟩, t1⟩ := t1
  obtain ⟨_, _, rfl, ⟨dd13, rfl, dd13K⟩, t1⟩ := t1
  obtain ⟨_, _, rfl, ⟨dd14, rfl, dd14K⟩, t1⟩ := t1
  obtain ⟨_, _, rfl, ⟨dd15, rfl, dd15K⟩, t1⟩ := t1
  obtain ⟨_, _, rfl, ⟨gg, rfl, ggK⟩, t1⟩ := t1
  have t1 := (t1 : _ = [])
  subst t1
  refine ⟨addK 110 sameRun (addK 64 sameRun extK), addK_ok sumSameS (addK_ok sumSameI extK_ok), 
    .leaf (.bool (cond (!(sameP [p0, p1, p2, p3, p4, p5, p6, p7, p8, p9, p10, p11, p12, p13, p14, p15] [a0, a1, a2, a3, a4, a5, a6, a7, a8, a9, a10, a11, a12, a13, a14, a15] [b0, b1, b2, b3, b4, b5, b6, b7, b8, b9, b10, b11, b12, b13, b14, b15] [c0, c1, c2, c3, c4, c5, c6, c7, c8, c9, c10, c11, c12, c13, c14, c15] [d0, d1, d2, d3, d4, d5, d6, d7, d8, d9, d10, d11, d12, d13, d14, d15] g [pp0, pp1, pp2, pp3, pp4, pp5, pp6, pp7, pp8, pp9, pp10, pp11, pp12, pp13, pp14, pp15] [aa0, aa1, aa2, aa3, aa4, aa5, aa6, aa7, aa8, aa9, aa10, aa11, aa12, aa13, aa14, aa15] [bb0, bb1, bb2, bb3, bb4, bb5, bb6, bb7, bb8, bb9, bb10, bb11, bb12, bb13, bb14, bb15] [cc0, cc1, cc2, cc3, cc4, cc5, cc6, cc7, cc8, cc9, cc10, cc11, cc12, cc13, cc14, cc15] [dd0, dd1, dd2, dd3, dd4, dd5, dd6, dd7, dd8, dd9, dd10, dd11, dd12, dd13, dd14, dd15] gg ==
      sameP [p0, p1, p2, p3, p4, p5, p6, p7, p8, p9, p10, p11, p12, p13, p14, p15] [a0, a1, a2, a3, a4, a5, a6, a7, a8, a9, a10, a11, a12, a13, a14, a15] [b0, b1, b2, b3, b4, b5, b6, b7, b8, b9, b10, b11, b12, b13, b14, b15] [c0, c1, c2, c3, c4, c5, c6, c7, c8, c9, c10, c11, c12, c13, c14, c15] [d0, d1, d2, d3, d4, d5, d6, d7, d8, d9, d10, d11, d12, d13, d14, d15] g [pp0, pp1, pp2, pp3, pp4, pp5, pp6, pp7, pp8, pp9, pp10, pp11, pp12, pp13, pp14, pp15] [aa0, aa1, aa2, aa3, aa4, aa5, aa6, aa7, aa8, aa9, aa10, aa11, aa12, aa13, aa14, aa15] [bb0, bb1, bb2, bb3, bb4, bb5, bb6, bb7, bb8, bb9, bb10, bb11, bb12, bb13, bb14, bb15] [cc0, cc1, cc2, cc3, cc4, cc5, cc6, cc7, cc8, cc9, cc10, cc11, cc12, cc13, cc14, cc15] [dd0, dd1, dd2, dd3, dd4, dd5, dd6, dd7, dd8, dd9, dd10, dd11, dd12, dd13, dd14, dd15] gg)) false true), none), by kernel_rfl, ?_⟩
  simp [Tr.get, delit]

set_option maxRecDepth 100000 in
theorem lifted (os : Os) (started : os.Started) (H : Type) (enc : TypeId × Value → H) :
    ReturnsInHanded {} Try.checked os 4 .any (Rows.fnExactSamePressSpec.pre6 enc Try.prog Try.f4 Rows.fnExactSamePressRow.domain false) (Rows.fnExactSamePressSpec.post enc Try.prog Try.f4 false true false false) := by
  refine returnsInHanded_of_change (C := Try.checked) sxOwn started (by kernel_rfl) Try.func4
    (ChangeSpec.witness6 (enc := enc) (C := Try.checked) false ⟨#[], #[.agg #[.float .f32 0, .float .f32 0, .float .f32 0, .float .f32 0, .float .f32 0, .float .f32 0, .float .f32 0, .float .f32 0, .float .f32 0, .float .f32 0, .float .f32 0, .float .f32 0, .float .f32 0, .float .f32 0, .float .f32 0, .float .f32 0, .float .f32 0, .float .f32 0, .float .f32 0, .float .f32 0, .float .f32 0, .float .f32 0, .float .f32 0, .float .f32 0, .float .f32 0, .float .f32 0, .float .f32 0, .float .f32 0, .float .f32 0, .float .f32 0, .float .f32 0, .float .f32 0, .float .f32 0, .float .f32 0, .float .f32 0, .float .f32 0, .float .f32 0, .float .f32 0, .float .f32 0, .float .f32 0, .float .f32 0, .float .f32 0, .float .f32 0, .float .f32 0, .float .f32 0, .float .f32 0, .float .f32 0, .float .f32 0, .float .f32 0, .float .f32 0, .float .f32 0, .float .f32 0, .float .f32 0, .float .f32 0, .float .f32 0, .float .f32 0, .float .f32 0, .float .f32 0, .float .f32 0, .float .f32 0, .float .f32 0, .float .f32 0, .float .f32 0, .float .f32 0, .float .f32 0, .float .f32 0, .float .f32 0, .float .f32 0, .float .f32 0, .float .f32 0, .float .f32 0, .float .f32 0, .float .f32 0, .float .f32 0, .float .f32 0, .float .f32 0, .float .f32 0, .float .f32 0, .float .f32 0, .float .f32 0, .float .f32 0], .agg #[.float .f32 0, .float .f32 0, .float .f32 0, .float .f32 0, .float .f32 0, .float .f32 0, .float .f32 0, .float .f32 0, .float .f32 0, .float .f32 0, .float .f32 0, .float .f32 0, .float .f32 0, .float .f32 0, .float .f32 0, .float .f32 0, .float .f32 0, .float .f32 0, .float .f32 0, .float .f32 0, .float .f32 0, .float .f32 0, .float .f32 0, .float .f32 0, .float .f32 0, .float .f32 0, .float .f32 0, .float .f32 0, .float .f32 0, .float .f32 0, .float .f32 0, .float .f32 0, .float .f32 0, .float .f32 0, .float .f32 0, .float .f32 0, .float .f32 0, .float .f32 0, .float .f32 0, .float .f32 0, .float .f32 0, .float .f32 0, .float .f32 0, .float .f32 0, .float .f32 0, .float .f32 0, .float .f32 0, .float .f32 0, .float .f32 0, .float .f32 0, .float .f32 0, .float .f32 0, .float .f32 0, .float .f32 0, .float .f32 0, .float .f32 0, .float .f32 0, .float .f32 0, .float .f32 0, .float .f32 0, .float .f32 0, .float .f32 0, .float .f32 0, .float .f32 0, .float .f32 0, .float .f32 0, .float .f32 0, .float .f32 0, .float .f32 0, .float .f32 0, .float .f32 0, .float .f32 0, .float .f32 0, .float .f32 0, .float .f32 0, .float .f32 0, .float .f32 0, .float .f32 0, .float .f32 0, .float .f32 0, .float .f32 0]], []⟩ 8 (by kernel_rfl) (by kernel_rfl) (by kernel_rfl) (by kernel_rfl)) ?_
  intro W base args ds gs before hval0 hW hcnd _
  have hval : ∀ (j : Nat) t v, Try.f4.params[j]? = some t → args[j]? = some v → Value.okWide Try.prog W .any base t v := hval0
  have hW' := hW
  obtain ⟨p, q, hA0, hV, rfl, hfz, hnd⟩ := hW
  have hA : DataW.TrodAll enc Try.prog W 0 (fun _ => true) true Try.f4.params.toList args.toList ds p := hA0
  rw [Try.params4] at hA hval
  obtain ⟨v0, vs0, d0, ds0, p0, q0, hargs, rfl, rfl, h0, r0⟩ := trodAll_cons hA
  obtain ⟨v1, vs1, d1, ds1, p1, q1, rfl, rfl, rfl, h1, r1⟩ := trodAll_cons r0
  obtain ⟨rfl, rfl, rfl⟩ := trodAll_nil r1
  obtain rfl : args = #[v0, v1] := by cases args; simp_all
  obtain ⟨rfl, rfl⟩ := trodVars_none hV
  obtain ⟨l0, t0, e0⟩ := arg_agg (ρ := []) (ts := [22, 22, 22, 22, 22, 22, 22, 22, 22, 22, 22, 22, 22, 22, 22, 22, 22, 22, 22, 22, 22, 22, 22, 22, 22, 22, 22, 22, 22, 22, 22, 22, 22, 22, 22, 22, 22, 22, 22, 22, 22, 22, 22, 22, 22, 22, 22, 22, 22, 22, 22, 22, 22, 22, 22, 22, 22, 22, 22, 22, 22, 22, 22, 22, 22, 22, 22, 22, 22, 22, 22, 22, 22, 22, 22, 22, 22, 22, 22, 22, 22]) (ks := [.flt .f32, .flt .f32, .flt .f32, .flt .f32, .flt .f32, .flt .f32, .flt .f32, .flt .f32, .flt .f32, .flt .f32, .flt .f32, .flt .f32, .flt .f32, .flt .f32, .flt .f32, .flt .f32, .flt .f32, .flt .f32, .flt .f32, .flt .f32, .flt .f32, .flt .f32, .flt .f32, .flt .f32, .flt .f32, .flt .f32, .flt .f32, .flt .f32, .flt .f32, .flt .f32, .flt .f32, .flt .f32, .flt .f32, .flt .f32, .flt .f32, .flt .f32, .flt .f32, .flt .f32, .flt .f32, .flt .f32, .flt .f32, .flt .f32, .flt .f32, .flt .f32, .flt .f32, .flt .f32, .flt .f32, .flt .f32, .flt .f32, .flt .f32, .flt .f32, .flt .f32, .flt .f32, .flt .f32, .flt .f32, .flt .f32, .flt .f32, .flt .f32, .flt .f32, .flt .f32, .flt .f32, .flt .f32, .flt .f32, .flt .f32, .flt .f32, .flt .f32, .flt .f32, .flt .f32, .flt .f32, .flt .f32, .flt .f32, .flt .f32, .flt .f32, .flt .f32, .flt .f32, .flt .f32, .flt .f32, .flt .f32, .flt .f32, .flt .f32, .flt .f32]) (hval 0 26 v0 rfl rfl) (by kernel_rfl) (by kernel_rfl) (by kernel_rfl) (by kernel_rfl)
  obtain ⟨l1, t1, e1⟩ := arg_agg (ρ := []) (ts := [22, 22, 22, 22, 22, 22, 22, 22, 22, 22, 22, 22, 22, 22, 22, 22, 22, 22, 22, 22, 22, 22, 22, 22, 22, 22, 22, 22, 22, 22, 22, 22, 22, 22, 22, 22, 22, 22, 22, 22, 22, 22, 22, 22, 22, 22, 22, 22, 22, 22, 22, 22, 22, 22, 22, 22, 22, 22, 22, 22, 22, 22, 22, 22, 22, 22, 22, 22, 22, 22, 22, 22, 22, 22, 22, 22, 22, 22, 22, 22, 22]) (ks := [.flt .f32, .flt .f32, .flt .f32, .flt .f32, .flt .f32, .flt .f32, .flt .f32, .flt .f32, .flt .f32, .flt .f32, .flt .f32, .flt .f32, .flt .f32, .flt .f32, .flt .f32, .flt .f32, .flt .f32, .flt .f32, .flt .f32, .flt .f32, .flt .f32, .flt .f32, .flt .f32, .flt .f32, .flt .f32, .flt .f32, .flt .f32, .flt .f32, .flt .f32, .flt .f32, .flt .f32, .flt .f32, .flt .f32, .flt .f32, .flt .f32, .flt .f32, .flt .f32, .flt .f32, .flt .f32, .flt .f32, .flt .f32, .flt .f32, .flt .f32, .flt .f32, .flt .f32, .flt .f32, .flt .f32, .flt .f32, .flt .f32, .flt .f32, .flt .f32, .flt .f32, .flt .f32, .flt .f32, .flt .f32, .flt .f32, .flt .f32, .flt .f32, .flt .f32, .flt .f32, .flt .f32, .flt .f32, .flt .f32, .flt .f32, .flt .f32, .flt .f32, .flt .f32, .flt .f32, .flt .f32, .flt .f32, .flt .f32, .flt .f32, .flt .f32, .flt .f32, .flt .f32, .flt .f32, .flt .f32, .flt .f32, .flt .f32, .flt .f32, .flt .f32]) (hval 1 26 v1 rfl rfl) (by kernel_rfl) (by kernel_rfl) (by kernel_rfl) (by kernel_rfl)
  have k0 := h0
  have lt0 : ∀ x ∈ p0, x.block < W.heap.size := by obtain ⟨m, hm⟩ := k0; exact DataW.trod_lt m _ _ _ hm
  have k1 := h1
  have lt1 : ∀ x ∈ p1, x.block < W.heap.size := by obtain ⟨m, hm⟩ := k1; exact DataW.trod_lt m _ _ _ hm
  have hrel : HRel [] [] W := ⟨rfl, fun b x p h => by simp at h, fun b c x y p q _ h => by simp at h⟩
  have hargs : VRels [] [.agg l0, .agg l1] [v0, v1] := by
    simp only [VRels]
    exact ⟨v0, _, rfl, e0, ⟨v1, _, rfl, e1, rfl⟩⟩
  obtain ⟨lawK, lawK_ok, hlaw⟩ := law l0 t0 l1 t1
  refine (evF_true (K := lawK) (L := noL) (N := lawN) (d := lawD) sxApart sxMixed lawK_ok (fun _ _ _ _ => noL_ok) hlaw hrel (fun b x h => by simp at h) hargs).mono fun e W' ⟨he, bel⟩ => ?_
  subst he
  exact ⟨_, rfl, _, _, _, [], _, [], hW', trodAll_mk1 (shut_bool Try.underlying4 _), (trodAll_cons_mk (Below.trod sxLaid (by kernel_rfl) (of_decide_eq_true (by kernel_rfl)) k0 bel lt0) (trodAll_cons_mk (Below.trod sxLaid (by kernel_rfl) (of_decide_eq_true (by kernel_rfl)) k1 bel lt1) trodAll_mk0)), rfl, bel.frame _, fun h => by cases h⟩

theorem over : Rows.fnExactSamePressRow.holds Try.pinned (OpenSpec.ofChange Rows.fnExactSamePressSpec) :=
  OpenClaim.holds_of_wide 4 Try.f4 rfl rfl rfl rfl rfl rfl rfl ⟨rfl, rfl, rfl, rfl, rfl⟩ rfl rfl rfl rfl rfl (by kernel_rfl) Try.func4 (by kernel_rfl)
    (of_decide_eq_true (by kernel_rfl)) (by unfold Func.isWrapper; first | (rw [if_pos (by decide +kernel)]; kernel_rfl) | (rw [if_neg (by decide +kernel)]; exact ⟨rfl, rfl⟩))
    (fun os started H enc _ => lifted os started H enc)

/-- The statement. -/
theorem proved : Rows.FnExactSamePressSaid := over
#print axioms proved
end Go.Proofs.Ytpechflfloolkaa.lawSamePress
