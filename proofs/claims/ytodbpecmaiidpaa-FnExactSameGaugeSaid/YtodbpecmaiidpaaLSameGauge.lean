/- The law 'FnExactSameGauge': the program's SameGauge returns what the reference's returns, for all arguments; no condition. -/
import Derived.Test.YtodbpecmaiidpaaRows
import Derived.WalkKit
import Derived.ProofKit
import Derived.OpenShut
import Derived.ChangeOld
import Derived.Below
import Derived.Test.YtodbpecmaiidpaaSxK1
import Derived.Test.YtodbpecmaiidpaaSxC6
namespace Go.Proofs.Ytodbpecmaiidpaa.lawSameGauge
open Go.ChangeShapes Go.WideShapes Go.ChangeAt Go.RowKit Go.Sx
set_option linter.unusedVariables false
set_option linter.unusedSimpArgs false
set_option maxRecDepth 100000
def lawN : Nat := 20
def lawD : Nat := 8

open Go.Sx.C1

def eqsL : List Int → List Int → Bool
  | a :: as', b :: bs => a == b && eqsL as' bs
  | _, _ => true
noncomputable def samesL : List (Option Nat) → List (Option Nat) → Bool
  | a :: as', b :: bs => cond (!sameF a b) false (samesL as' bs)
  | _, _ => true
noncomputable def sameG (b w : List Int) (k : List (Option Nat)) (d : Option Nat) (b' w' : List Int) (k' : List (Option Nat)) (d' : Option Nat) : Bool :=
  cond (cond (cond (eqsL b b') (eqsL w w') false) (samesL k k') false) (sameF d d') false

theorem law (l0 : List AV) (t0 : Typed (List.replicate 16 (.int .i16) ++ (List.replicate 16 (.int .i16) ++ (List.replicate 16 (.flt .f32) ++ [.flt .f32]))) l0)
    (l1 : List AV) (t1 : Typed (List.replicate 16 (.int .i16) ++ (List.replicate 16 (.int .i16) ++ (List.replicate 16 (.flt .f32) ++ [.flt .f32]))) l1) :
    ∃ K, CallerTOk Try.prog K ∧ ∃ t, evF Try.prog K noL lawN lawD 5 [.agg l0, .agg l1] [] = some (t, true) ∧ delit t.get.1 = .bool true := by
  obtain ⟨_, _, rfl, ⟨b0, rfl, b0L, b0U⟩, t0⟩ := t0
  obtain ⟨_, _, rfl, ⟨b1, rfl, b1L, b1U⟩, t0⟩ := t0
  obtain ⟨_, _, rfl, ⟨b2, rfl, b2L, b2U⟩, t0⟩ := t0
  obtain ⟨_, _, rfl, ⟨b3, rfl, b3L, b3U⟩, t0⟩ := t0
  obtain ⟨_, _, rfl, ⟨b4, rfl, b4L, b4U⟩, t0⟩ := t0
  obtain ⟨_, _, rfl, ⟨b5, rfl, b5L, b5U⟩, t0⟩ := t0
  obtain ⟨_, _, rfl, ⟨b6, rfl, b6L, b6U⟩, t0⟩ := t0
  obtain ⟨_, _, rfl, ⟨b7, rfl, b7L, b7U⟩, t0⟩ := t0
  obtain ⟨_, _, rfl, ⟨b8, rfl, b8L, b8U⟩, t0⟩ := t0
  obtain ⟨_, _, rfl, ⟨b9, rfl, b9L, b9U⟩, t0⟩ := t0
  obtain ⟨_, _, rfl, ⟨b10, rfl, b10L, b10U⟩, t0⟩ := t0
  obtain ⟨_, _, rfl, ⟨b11, rfl, b11L, b11U⟩, t0⟩ := t0
  obtain ⟨_, _, rfl, ⟨b12, rfl, b12L, b12U⟩, t0⟩ := t0
  obtain ⟨_, _, rfl, ⟨b13, rfl, b13L, b13U⟩, t0⟩ := t0
  obtain ⟨_, _, rfl, ⟨b14, rfl, b14L, b14U⟩, t0⟩ := t0
  obtain ⟨_, _, rfl, ⟨b15, rfl, b15L, b15U⟩, t0⟩ := t0
  obtain ⟨_, _, rfl, ⟨w0, rfl, w0L, w0U⟩, t0⟩ := t0
  obtain ⟨_, _, rfl, ⟨w1, rfl, w1L, w1U⟩, t0⟩ := t0
  obtain ⟨_, _, rfl, ⟨w2, rfl, w2L, w2U⟩, t0⟩ := t0
  obtain ⟨_, _, rfl, ⟨w3, rfl, w3L, w3U⟩, t0⟩ := t0
  obtain ⟨_, _, rfl, ⟨w4, rfl, w4L, w4U⟩, t0⟩ := t0
  obtain ⟨_, _, rfl, ⟨w5, rfl, w5L, w5U⟩, t0⟩ := t0
  obtain ⟨_, _, rfl, ⟨w6, rfl, w6L, w6U⟩, t0⟩ := t0
  obtain ⟨_, _, rfl, ⟨w7, rfl, w7L, w7U⟩, t0⟩ := t0
  obtain ⟨_, _, rfl, ⟨w8, rfl, w8L, w8U⟩, t0⟩ := t0
  obtain ⟨_, _, rfl, ⟨w9, rfl, w9L, w9U⟩, t0⟩ := t0
  obtain ⟨_, _, rfl, ⟨w10, rfl, w10L, w10U⟩, t0⟩ := t0
  obtain ⟨_, _, rfl, ⟨w11, rfl, w11L, w11U⟩, t0⟩ := t0
  obtain ⟨_, _, rfl, ⟨w12, rfl, w12L, w12U⟩, t0⟩ := t0
  obtain ⟨_, _, rfl, ⟨w13, rfl, w13L, w13U⟩, t0⟩ := t0
  obtain ⟨_, _, rfl, ⟨w14, rfl, w14L, w14U⟩, t0⟩ := t0
  obtain ⟨_, _, rfl, ⟨w15, rfl, w15L, w15U⟩, t0⟩ := t0
  obtain ⟨_, _, rfl, ⟨k0, rfl, k0K⟩, t0⟩ := t0
  obtain ⟨_, _, rfl, ⟨k1, rfl, k1K⟩, t0⟩ := t0
  obtain ⟨_, _, rfl, ⟨k2, rfl, k2K⟩, t0⟩ := t0
  obtain ⟨_, _, rfl, ⟨k3, rfl, k3K⟩, t0⟩ := t0
  obtain ⟨_, _, rfl, ⟨k4, rfl, k4K⟩, t0⟩ := t0
  obtain ⟨_, _, rfl, ⟨k5, rfl, k5K⟩, t0⟩ := t0
  obtain ⟨_, _, rfl, ⟨k6, rfl, k6K⟩, t0⟩ := t0
  obtain ⟨_, _, rfl, ⟨k7, rfl, k7K⟩, t0⟩ := t0
  obtain ⟨_, _, rfl, ⟨k8, rfl, k8K⟩, t0⟩ := t0
  obtain ⟨_, _, rfl, ⟨k9, rfl, k9K⟩, t0⟩ := t0
  obtain ⟨_, _, rfl, ⟨k10, rfl, k10K⟩, t0⟩ := t0
  obtain ⟨_, _, rfl, ⟨k11, rfl, k11K⟩, t0⟩ := t0
  obtain ⟨_, _, rfl, ⟨k12, rfl, k12K⟩, t0⟩ := t0
  obtain ⟨_, _, rfl, ⟨k13, rfl, k13K⟩, t0⟩ := t0
  obtain ⟨_, _, rfl, ⟨k14, rfl, k14K⟩, t0⟩ := t0
  obtain ⟨_, _, rfl, ⟨k15, rfl, k15K⟩, t0⟩ := t0
  obtain ⟨_, _, rfl, ⟨d, rfl, dK⟩, t0⟩ := t0
  have t0 := (t0 : _ = [])
  subst t0
  obtain ⟨_, _, rfl, ⟨bb0, rfl, bb0L, bb0U⟩, t1⟩ := t1
  obtain ⟨_, _, rfl, ⟨bb1, rfl, bb1L, bb1U⟩, t1⟩ := t1
  obtain ⟨_, _, rfl, ⟨bb2, rfl, bb2L, bb2U⟩, t1⟩ := t1
  obtain ⟨_, _, rfl, ⟨bb3, rfl, bb3L, bb3U⟩, t1⟩ := t1
  obtain ⟨_, _, rfl, ⟨bb4, rfl, bb4L, bb4U⟩, t1⟩ := t1
  obtain ⟨_, _, rfl, ⟨bb5, rfl, bb5L, bb5U⟩, t1⟩ := t1
  obtain ⟨_, _, rfl, ⟨bb6, rfl, bb6L, bb6U⟩, t1⟩ := t1
  obtain ⟨_, _, rfl, ⟨bb7, rfl, bb7L, bb7U⟩, t1⟩ := t1
  obtain ⟨_, _, rfl, ⟨bb8, rfl, bb8L, bb8U⟩, t1⟩ := t1
  obtain ⟨_, _, rfl, ⟨bb9, rfl, bb9L, bb9U⟩, t1⟩ := t1
  obtain ⟨_, _, rfl, ⟨bb10, rfl, bb10L, bb10U⟩, t1⟩ := t1
  obtain ⟨_, _, rfl, ⟨bb11, rfl, bb11L, bb11U⟩, t1⟩ := t1
  obtain ⟨_, _, rfl, ⟨bb12, rfl, bb12L, bb12U⟩, t1⟩ := t1
  obtain ⟨_, _, rfl, ⟨bb13, rfl, bb13L, bb13U⟩, t1⟩ := t1
  obtain ⟨_, _, rfl, ⟨bb14, rfl, bb14L, bb14U⟩, t1⟩ := t1
  obtain ⟨_, _, rfl, ⟨bb15, rfl, bb15L, bb15U⟩, t1⟩ := t1
  obtain ⟨_, _, rfl, ⟨ww0, rfl, ww0L, ww0U⟩, t1⟩ := t1
  obtain ⟨_, _, rfl, ⟨ww1, rfl, ww1L, ww1U⟩, t1⟩ := t1
  obtain ⟨_, _, rfl, ⟨ww2, rfl, ww2L, ww2U⟩, t1⟩ := t1
  obtain ⟨_, _, rfl, ⟨ww3, rfl, ww3L, ww3U⟩, t1⟩ := t1
  obtain ⟨_, _, rfl, ⟨ww4, rfl, ww4L, ww4U⟩, t1⟩ := t1
  obtain ⟨_, _, rfl, ⟨ww5, rfl, ww5L, ww5U⟩, t1⟩ := t1
  obtain ⟨_, _, rfl, ⟨ww6, rfl, ww6L, ww6U⟩, t1⟩ := t1
  obtain ⟨_, _, rfl, ⟨ww7, rfl, ww7L, ww7U⟩, t1⟩ := t1
  obtain ⟨_, _, rfl, ⟨ww8, rfl, ww8L, ww8U⟩, t1⟩ := t1
  obtain ⟨_, _, rfl, ⟨ww9, rfl, ww9L, ww9U⟩, t1⟩ := t1
  obtain ⟨_, _, rfl, ⟨ww10, rfl, ww10L, ww10U⟩, t1⟩ := t1
  obtain ⟨_, _, rfl, ⟨ww11, rfl, ww11L, ww11U⟩, t1⟩ := t1
  obtain ⟨_, _, rfl, ⟨ww12, rfl, ww12L, ww12U⟩, t1⟩ := t1
  obtain ⟨_, _, rfl, ⟨ww13, rfl, ww13L, ww13U⟩, t1⟩ := t1
  obtain ⟨_, _, rfl, ⟨ww14, rfl, ww14L, ww14U⟩, t1⟩ := t1
  obtain ⟨_, _, rfl, ⟨ww15, rfl, ww15L, ww15U⟩, t1⟩ := t1
  obtain ⟨_, _, rfl, ⟨kk0, rfl, kk0K⟩, t1⟩ := t1
  obtain ⟨_, _, rfl, ⟨kk1, rfl, kk1K⟩, t1⟩ := t1
  obtain ⟨_, _, rfl, ⟨kk2, rfl, kk2K⟩, t1⟩ := t1
  obtain ⟨_, _, rfl, ⟨kk3, rfl, kk3K⟩, t1⟩ := t1
  obtain ⟨_, _, rfl, ⟨kk4, rfl, kk4K⟩, t1⟩ := t1
  obtain ⟨_, _, rfl, ⟨kk5, rfl, kk5K⟩, t1⟩ := t1
  obtain ⟨_, _, rfl, ⟨kk6, rfl, kk6K⟩, t1⟩ := t1
  obtain ⟨_, _, rfl, ⟨kk7, rfl, kk7K⟩, t1⟩ := t1
  obtain ⟨_, _, rfl, ⟨kk8, rfl, kk8K⟩, t1⟩ := t1
  obtain ⟨_, _, rfl, ⟨kk9, rfl, kk9K⟩, t1⟩ := t1
  obtain ⟨_, _, rfl, ⟨kk10, rfl, kk10K⟩, t1⟩ := t1
  obtain ⟨_, _, rfl, ⟨kk11, rfl, kk11K⟩, t1⟩ := t1
  obtain ⟨_, _, rfl, ⟨kk12, rfl, kk12K⟩, t1⟩ := t1
  obtain ⟨_, _, rfl, ⟨kk13, rfl, kk13K⟩, t1⟩ := t1
  obtain ⟨_, _, rfl, ⟨kk14, rfl, kk14K⟩, t1⟩ := t1
  obtain ⟨_, _, rfl, ⟨kk15, rfl, kk15K⟩, t1⟩ := t1
  obtain ⟨_, _, rfl, ⟨dd, rfl, ddK⟩, t1⟩ := t1
  have t1 := (t1 : _ = [])
  subst t1
  refine ⟨addK 56 sameRun (addK 58 sameRun extK), addK_ok sumSameS (addK_ok sumSameI extK_ok), 
    .leaf (.bool (cond (!(sameG [b0, b1, b2, b3, b4, b5, b6, b7, b8, b9, b10, b11, b12, b13, b14, b15] [w0, w1, w2, w3, w4, w5, w6, w7, w8, w9, w10, w11, w12, w13, w14, w15] [k0, k1, k2, k3, k4, k5, k6, k7, k8, k9, k10, k11, k12, k13, k14, k15] d [bb0, bb1, bb2, bb3, bb4, bb5, bb6, bb7, bb8, bb9, bb10, bb11, bb12, bb13, bb14, bb15] [ww0, ww1, ww2, ww3, ww4, ww5, ww6, ww7, ww8, ww9, ww10, ww11, ww12, ww13, ww14, ww15] [kk0, kk1, kk2, kk3, kk4, kk5, kk6, kk7, kk8, kk9, kk10, kk11, kk12, kk13, kk14, kk15] dd == sameG [b0, b1, b2, b3, b4, b5, b6, b7, b8, b9, b10, b11, b12, b13, b14, b15] [w0, w1, w2, w3, w4, w5, w6, w7, w8, w9, w10, w11, w12, w13, w14, w15] [k0, k1, k2, k3, k4, k5, k6, k7, k8, k9, k10, k11, k12, k13, k14, k15] d [bb0, bb1, bb2, bb3, bb4, bb5, bb6, bb7, bb8, bb9, bb10, bb11, bb12, bb13, bb14, bb15] [ww0, ww1, ww2, ww3, ww4, ww5, ww6, ww7, ww8, ww9, ww10, ww11, ww12, ww13, ww14, ww15] [kk0, kk1, kk2, kk3, kk4, kk5, kk6, kk7, kk8, kk9, kk10, kk11, kk12, kk13, kk14, kk15] dd)) false true), none), by kernel_rfl, ?_⟩
  simp [Tr.get, delit]

set_option maxRecDepth 100000 in
theorem lifted (os : Os) (started : os.Started) (H : Type) (enc : TypeId × Value → H) :
    ReturnsInHanded {} Try.checked os 5 .any (Rows.fnExactSameGaugeSpec.pre6 enc Try.prog Try.f5 Rows.fnExactSameGaugeRow.domain false) (Rows.fnExactSameGaugeSpec.post enc Try.prog Try.f5 false true false false) := by
  refine returnsInHanded_of_change (C := Try.checked) sxOwn started (by kernel_rfl) Try.func5
    (ChangeSpec.witness6 (enc := enc) (C := Try.checked) false ⟨#[], #[.agg #[.int .i16 0, .int .i16 0, .int .i16 0, .int .i16 0, .int .i16 0, .int .i16 0, .int .i16 0, .int .i16 0, .int .i16 0, .int .i16 0, .int .i16 0, .int .i16 0, .int .i16 0, .int .i16 0, .int .i16 0, .int .i16 0, .int .i16 0, .int .i16 0, .int .i16 0, .int .i16 0, .int .i16 0, .int .i16 0, .int .i16 0, .int .i16 0, .int .i16 0, .int .i16 0, .int .i16 0, .int .i16 0, .int .i16 0, .int .i16 0, .int .i16 0, .int .i16 0, .float .f32 0, .float .f32 0, .float .f32 0, .float .f32 0, .float .f32 0, .float .f32 0, .float .f32 0, .float .f32 0, .float .f32 0, .float .f32 0, .float .f32 0, .float .f32 0, .float .f32 0, .float .f32 0, .float .f32 0, .float .f32 0, .float .f32 0], .agg #[.int .i16 0, .int .i16 0, .int .i16 0, .int .i16 0, .int .i16 0, .int .i16 0, .int .i16 0, .int .i16 0, .int .i16 0, .int .i16 0, .int .i16 0, .int .i16 0, .int .i16 0, .int .i16 0, .int .i16 0, .int .i16 0, .int .i16 0, .int .i16 0, .int .i16 0, .int .i16 0, .int .i16 0, .int .i16 0, .int .i16 0, .int .i16 0, .int .i16 0, .int .i16 0, .int .i16 0, .int .i16 0, .int .i16 0, .int .i16 0, .int .i16 0, .int .i16 0, .float .f32 0, .float .f32 0, .float .f32 0, .float .f32 0, .float .f32 0, .float .f32 0, .float .f32 0, .float .f32 0, .float .f32 0, .float .f32 0, .float .f32 0, .float .f32 0, .float .f32 0, .float .f32 0, .float .f32 0, .float .f32 0, .float .f32 0]], []⟩ 8 (by kernel_rfl) (by kernel_rfl) (by kernel_rfl) (by kernel_rfl)) ?_
  intro W base args ds gs before hval0 hW hcnd _
  have hval : ∀ (j : Nat) t v, Try.f5.params[j]? = some t → args[j]? = some v → Value.okWide Try.prog W .any base t v := hval0
  have hW' := hW
  obtain ⟨p, q, hA0, hV, rfl, hfz, hnd⟩ := hW
  have hA : DataW.TrodAll enc Try.prog W 0 (fun _ => true) true Try.f5.params.toList args.toList ds p := hA0
  rw [Try.params5] at hA hval
  obtain ⟨v0, vs0, d0, ds0, p0, q0, hargs, rfl, rfl, h0, r0⟩ := trodAll_cons hA
  obtain ⟨v1, vs1, d1, ds1, p1, q1, rfl, rfl, rfl, h1, r1⟩ := trodAll_cons r0
  obtain ⟨rfl, rfl, rfl⟩ := trodAll_nil r1
  obtain rfl : args = #[v0, v1] := by cases args; simp_all
  obtain ⟨rfl, rfl⟩ := trodVars_none hV
  obtain ⟨l0, t0, e0⟩ := arg_agg (ρ := []) (ts := [23, 23, 23, 23, 23, 23, 23, 23, 23, 23, 23, 23, 23, 23, 23, 23, 23, 23, 23, 23, 23, 23, 23, 23, 23, 23, 23, 23, 23, 23, 23, 23, 22, 22, 22, 22, 22, 22, 22, 22, 22, 22, 22, 22, 22, 22, 22, 22, 22]) (ks := [.int .i16, .int .i16, .int .i16, .int .i16, .int .i16, .int .i16, .int .i16, .int .i16, .int .i16, .int .i16, .int .i16, .int .i16, .int .i16, .int .i16, .int .i16, .int .i16, .int .i16, .int .i16, .int .i16, .int .i16, .int .i16, .int .i16, .int .i16, .int .i16, .int .i16, .int .i16, .int .i16, .int .i16, .int .i16, .int .i16, .int .i16, .int .i16, .flt .f32, .flt .f32, .flt .f32, .flt .f32, .flt .f32, .flt .f32, .flt .f32, .flt .f32, .flt .f32, .flt .f32, .flt .f32, .flt .f32, .flt .f32, .flt .f32, .flt .f32, .flt .f32, .flt .f32]) (hval 0 29 v0 rfl rfl) (by kernel_rfl) (by kernel_rfl) (by kernel_rfl) (by kernel_rfl)
  obtain ⟨l1, t1, e1⟩ := arg_agg (ρ := []) (ts := [23, 23, 23, 23, 23, 23, 23, 23, 23, 23, 23, 23, 23, 23, 23, 23, 23, 23, 23, 23, 23, 23, 23, 23, 23, 23, 23, 23, 23, 23, 23, 23, 22, 22, 22, 22, 22, 22, 22, 22, 22, 22, 22, 22, 22, 22, 22, 22, 22]) (ks := [.int .i16, .int .i16, .int .i16, .int .i16, .int .i16, .int .i16, .int .i16, .int .i16, .int .i16, .int .i16, .int .i16, .int .i16, .int .i16, .int .i16, .int .i16, .int .i16, .int .i16, .int .i16, .int .i16, .int .i16, .int .i16, .int .i16, .int .i16, .int .i16, .int .i16, .int .i16, .int .i16, .int .i16, .int .i16, .int .i16, .int .i16, .int .i16, .flt .f32, .flt .f32, .flt .f32, .flt .f32, .flt .f32, .flt .f32, .flt .f32, .flt .f32, .flt .f32, .flt .f32, .flt .f32, .flt .f32, .flt .f32, .flt .f32, .flt .f32, .flt .f32, .flt .f32]) (hval 1 29 v1 rfl rfl) (by kernel_rfl) (by kernel_rfl) (by kernel_rfl) (by kernel_rfl)
  have k0 := h0
  have lt0 : ∀ x ∈ p0, x.block < W.heap.size := by obtain ⟨m, hm⟩ := k0; exact DataW.trod_lt m _ _ _ hm
  have k1 := h1
  have lt1 : ∀ x ∈ p1, x.block < W.heap.size := by obtain ⟨m, hm⟩ := k1; exact DataW.trod_lt m _ _ _ hm
  have hrel : HRel [] [] W := ⟨rfl, fun b x p h => by simp at h, fun b c x y p q _ h => by simp at h⟩
  have hargs : VRels [] [.agg l0, .agg l1] [v0, v1] := by
    simp only [VRels]
    exact ⟨v0, _, rfl, e0, ⟨v1, _, rfl, e1, rfl⟩⟩
  obtain ⟨lawK, lawK_ok, hlaw⟩ := law l0 t0 l1 t1
  refine (evF_true (K := lawK) (L := noL) (N := lawN) (d := lawD) sxApart sxMixed lawK_ok (fun _ _ _ _ => noL_ok) hlaw hrel (fun b x h => by simp at h) hargs).mono fun e W' ⟨he, bel⟩ => ?_
  subst he
  exact ⟨_, rfl, _, _, _, [], _, [], hW', trodAll_mk1 (shut_bool Try.underlying4 _), (trodAll_cons_mk (Below.trod sxLaid (by kernel_rfl) (of_decide_eq_true (by kernel_rfl)) k0 bel lt0) (trodAll_cons_mk (Below.trod sxLaid (by kernel_rfl) (of_decide_eq_true (by kernel_rfl)) k1 bel lt1) trodAll_mk0)), rfl, bel.frame _, fun h => by cases h⟩

theorem over : Rows.fnExactSameGaugeRow.holds Try.pinned (OpenSpec.ofChange Rows.fnExactSameGaugeSpec) :=
  OpenClaim.holds_of_wide 5 Try.f5 rfl rfl rfl rfl rfl rfl rfl ⟨rfl, rfl, rfl, rfl, rfl⟩ rfl rfl rfl rfl rfl (by kernel_rfl) Try.func5 (by kernel_rfl)
    (of_decide_eq_true (by kernel_rfl)) (by unfold Func.isWrapper; first | (rw [if_pos (by decide +kernel)]; kernel_rfl) | (rw [if_neg (by decide +kernel)]; exact ⟨rfl, rfl⟩))
    (fun os started H enc _ => lifted os started H enc)

/-- The statement. -/
theorem proved : Rows.FnExactSameGaugeSaid := over
#print axioms proved
end Go.Proofs.Ytodbpecmaiidpaa.lawSameGauge
