/- The law 'FnExactValidGauge': the program's ValidGauge returns what the reference's returns, for all arguments; no condition. -/
import Derived.Test.YtodbpecmaiidpaaRows
import Derived.WalkKit
import Derived.ProofKit
import Derived.OpenShut
import Derived.ChangeOld
import Derived.Below
import Derived.Test.YtodbpecmaiidpaaSxBase
import Derived.Test.YtodbpecmaiidpaaSxC6
namespace Go.Proofs.Ytodbpecmaiidpaa.lawValidGauge
open Go.ChangeShapes Go.WideShapes Go.ChangeAt Go.RowKit Go.Sx
set_option linter.unusedVariables false
set_option linter.unusedSimpArgs false
set_option maxRecDepth 100000
def lawN : Nat := 20
def lawD : Nat := 8

open Go.Sx.C6

theorem law (l0 : List AV) (t0 : Typed (List.replicate 16 (.int .i16) ++ (List.replicate 16 (.int .i16) ++ (List.replicate 16 (.flt .f32) ++ [.flt .f32]))) l0) :
    ∃ K, CallerTOk Try.prog K ∧ ∃ t, evF Try.prog K noL lawN lawD 4 [.agg l0] [] = some (t, true) ∧ delit t.get.1 = .bool true := by
  obtain ⟨_, _, rfl, ⟨b0, rfl, b0L, b0U⟩, t0⟩ := t0
  obtain ⟨_, _, rfl, ⟨b1, rfl, b1L, b1U⟩, t0⟩ := t0
  obtain ⟨_, _, rfl, ⟨b2, rfl, b2L, b2U⟩, t0⟩ := t0
  obtain ⟨_, _, rfl, ⟨b3, rfl, b3L, b3U⟩, t0⟩ := t0
  obtain ⟨_, _, rfl, ⟨b4, rfl, b4L, b4U⟩, t0⟩ := t0
  obtain ⟨_, _, rfl, ⟨b5, rfl, b5L, b5U⟩, t0⟩ := t0
  obtain ⟨_, _, rfl, ⟨b6, rfl, b6L, b6U⟩, t0⟩ := t0
  obtain ⟨_, _, rfl, ⟨b7, rfl, b7L, b7U⟩, t0⟩ := t0
  obtain ⟨_, _, rfl, ⟨b8, rfl, b8L, b8U⟩, t0⟩ := t0
  obtain ⟨_, _, rfl, ⟨b9, rfl, b9L, b9U⟩, t0⟩ := t0
  obtain ⟨_, _, rfl, ⟨b10, rfl, b10L, b10U⟩, t0⟩ := t0
  obtain ⟨_, _, rfl, ⟨b11, rfl, b11L, b11U⟩, t0⟩ := t0
  obtain ⟨_, _, rfl, ⟨b12, rfl, b12L, b12U⟩, t0⟩ := t0
  obtain ⟨_, _, rfl, ⟨b13, rfl, b13L, b13U⟩, t0⟩ := t0
  obtain ⟨_, _, rfl, ⟨b14, rfl, b14L, b14U⟩, t0⟩ := t0
  obtain ⟨_, _, rfl, ⟨b15, rfl, b15L, b15U⟩, t0⟩ := t0
  obtain ⟨_, _, rfl, ⟨w0, rfl, w0L, w0U⟩, t0⟩ := t0
  obtain ⟨_, _, rfl, ⟨w1, rfl, w1L, w1U⟩, t0⟩ := t0
  obtain ⟨_, _, rfl, ⟨w2, rfl, w2L, w2U⟩, t0⟩ := t0
  obtain ⟨_, _, rfl, ⟨w3, rfl, w3L, w3U⟩, t0⟩ := t0
  obtain ⟨_, _, rfl, ⟨w4, rfl, w4L, w4U⟩, t0⟩ := t0
  obtain ⟨_, _, rfl, ⟨w5, rfl, w5L, w5U⟩, t0⟩ := t0
  obtain ⟨_, _, rfl, ⟨w6, rfl, w6L, w6U⟩, t0⟩ := t0
  obtain ⟨_, _, rfl, ⟨w7, rfl, w7L, w7U⟩, t0⟩ := t0
  obtain ⟨_, _, rfl, ⟨w8, rfl, w8L, w8U⟩, t0⟩ := t0
  obtain ⟨_, _, rfl, ⟨w9, rfl, w9L, w9U⟩, t0⟩ := t0
  obtain ⟨_, _, rfl, ⟨w10, rfl, w10L, w10U⟩, t0⟩ := t0
  obtain ⟨_, _, rfl, ⟨w11, rfl, w11L, w11U⟩, t0⟩ := t0
  obtain ⟨_, _, rfl, ⟨w12, rfl, w12L, w12U⟩, t0⟩ := t0
  obtain ⟨_, _, rfl, ⟨w13, rfl, w13L, w13U⟩, t0⟩ := t0
  obtain ⟨_, _, rfl, ⟨w14, rfl, w14L, w14U⟩, t0⟩ := t0
  obtain ⟨_, _, rfl, ⟨w15, rfl, w15L, w15U⟩, t0⟩ := t0
  obtain ⟨_, _, rfl, ⟨k0, rfl, k0K⟩, t0⟩ := t0
  obtain ⟨_, _, rfl, ⟨k1, rfl, k1K⟩, t0⟩ := t0
  obtain ⟨_, _, rfl, ⟨k2, rfl, k2K⟩, t0⟩ := t0
  obtain ⟨_, _, rfl, ⟨k3, rfl, k3K⟩, t0⟩ := t0
  obtain ⟨_, _, rfl, ⟨k4, rfl, k4K⟩, t0⟩ := t0
  obtain ⟨_, _, rfl, ⟨k5, rfl, k5K⟩, t0⟩ := t0
  obtain ⟨_, _, rfl, ⟨k6, rfl, k6K⟩, t0⟩ := t0
  obtain ⟨_, _, rfl, ⟨k7, rfl, k7K⟩, t0⟩ := t0
  obtain ⟨_, _, rfl, ⟨k8, rfl, k8K⟩, t0⟩ := t0
  obtain ⟨_, _, rfl, ⟨k9, rfl, k9K⟩, t0⟩ := t0
  obtain ⟨_, _, rfl, ⟨k10, rfl, k10K⟩, t0⟩ := t0
  obtain ⟨_, _, rfl, ⟨k11, rfl, k11K⟩, t0⟩ := t0
  obtain ⟨_, _, rfl, ⟨k12, rfl, k12K⟩, t0⟩ := t0
  obtain ⟨_, _, rfl, ⟨k13, rfl, k13K⟩, t0⟩ := t0
  obtain ⟨_, _, rfl, ⟨k14, rfl, k14K⟩, t0⟩ := t0
  obtain ⟨_, _, rfl, ⟨k15, rfl, k15K⟩, t0⟩ := t0
  obtain ⟨_, _, rfl, ⟨d, rfl, dK⟩, t0⟩ := t0
  have t0 := (t0 : _ = [])
  subst t0
  refine ⟨noK, noK_ok, .leaf (.bool (cond (!(vI [b0, b1, b2, b3, b4, b5, b6, b7, b8, b9, b10, b11, b12, b13, b14, b15] [w0, w1, w2, w3, w4, w5, w6, w7, w8, w9, w10, w11, w12, w13, w14, w15] [k0, k1, k2, k3, k4, k5, k6, k7, k8, k9, k10, k11, k12, k13, k14, k15] (dr d) == vS [b0, b1, b2, b3, b4, b5, b6, b7, b8, b9, b10, b11, b12, b13, b14, b15] [w0, w1, w2, w3, w4, w5, w6, w7, w8, w9, w10, w11, w12, w13, w14, w15] [k0, k1, k2, k3, k4, k5, k6, k7, k8, k9, k10, k11, k12, k13, k14, k15] (dr d))) false true), none), by kernel_rfl, ?_⟩
  rw [vI_vS _ _ _ _ (by rfl) (by rfl) (by simp)]
  simp [Tr.get, delit]

set_option maxRecDepth 100000 in
theorem lifted (os : Os) (started : os.Started) (H : Type) (enc : TypeId × Value → H) :
    ReturnsInHanded {} Try.checked os 4 .any (Rows.fnExactValidGaugeSpec.pre6 enc Try.prog Try.f4 Rows.fnExactValidGaugeRow.domain false) (Rows.fnExactValidGaugeSpec.post enc Try.prog Try.f4 false true false false) := by
  refine returnsInHanded_of_change (C := Try.checked) sxOwn started (by kernel_rfl) Try.func4
    (ChangeSpec.witness6 (enc := enc) (C := Try.checked) false ⟨#[], #[.agg #[.int .i16 0, .int .i16 0, .int .i16 0, .int .i16 0, .int .i16 0, .int .i16 0, .int .i16 0, .int .i16 0, .int .i16 0, .int .i16 0, .int .i16 0, .int .i16 0, .int .i16 0, .int .i16 0, .int .i16 0, .int .i16 0, .int .i16 0, .int .i16 0, .int .i16 0, .int .i16 0, .int .i16 0, .int .i16 0, .int .i16 0, .int .i16 0, .int .i16 0, .int .i16 0, .int .i16 0, .int .i16 0, .int .i16 0, .int .i16 0, .int .i16 0, .int .i16 0, .float .f32 0, .float .f32 0, .float .f32 0, .float .f32 0, .float .f32 0, .float .f32 0, .float .f32 0, .float .f32 0, .float .f32 0, .float .f32 0, .float .f32 0, .float .f32 0, .float .f32 0, .float .f32 0, .float .f32 0, .float .f32 0, .float .f32 0]], []⟩ 8 (by kernel_rfl) (by kernel_rfl) (by kernel_rfl) (by kernel_rfl)) ?_
  intro W base args ds gs before hval0 hW hcnd _
  have hval : ∀ (j : Nat) t v, Try.f4.params[j]? = some t → args[j]? = some v → Value.okWide Try.prog W .any base t v := hval0
  have hW' := hW
  obtain ⟨p, q, hA0, hV, rfl, hfz, hnd⟩ := hW
  have hA : DataW.TrodAll enc Try.prog W 0 (fun _ => true) true Try.f4.params.toList args.toList ds p := hA0
  rw [Try.params4] at hA hval
  obtain ⟨v0, vs0, d0, ds0, p0, q0, hargs, rfl, rfl, h0, r0⟩ := trodAll_cons hA
  obtain ⟨rfl, rfl, rfl⟩ := trodAll_nil r0
  obtain rfl : args = #[v0] := by cases args; simp_all
  obtain ⟨rfl, rfl⟩ := trodVars_none hV
  obtain ⟨l0, t0, e0⟩ := arg_agg (ρ := []) (ts := [23, 23, 23, 23, 23, 23, 23, 23, 23, 23, 23, 23, 23, 23, 23, 23, 23, 23, 23, 23, 23, 23, 23, 23, 23, 23, 23, 23, 23, 23, 23, 23, 22, 22, 22, 22, 22, 22, 22, 22, 22, 22, 22, 22, 22, 22, 22, 22, 22]) (ks := [.int .i16, .int .i16, .int .i16, .int .i16, .int .i16, .int .i16, .int .i16, .int .i16, .int .i16, .int .i16, .int .i16, .int .i16, .int .i16, .int .i16, .int .i16, .int .i16, .int .i16, .int .i16, .int .i16, .int .i16, .int .i16, .int .i16, .int .i16, .int .i16, .int .i16, .int .i16, .int .i16, .int .i16, .int .i16, .int .i16, .int .i16, .int .i16, .flt .f32, .flt .f32, .flt .f32, .flt .f32, .flt .f32, .flt .f32, .flt .f32, .flt .f32, .flt .f32, .flt .f32, .flt .f32, .flt .f32, .flt .f32, .flt .f32, .flt .f32, .flt .f32, .flt .f32]) (hval 0 29 v0 rfl rfl) (by kernel_rfl) (by kernel_rfl) (by kernel_rfl) (by kernel_rfl)
  have k0 := h0
  have lt0 : ∀ x ∈ p0, x.block < W.heap.size := by obtain ⟨m, hm⟩ := k0; exact DataW.trod_lt m _ _ _ hm
  have hrel : HRel [] [] W := ⟨rfl, fun b x p h => by simp at h, fun b c x y p q _ h => by simp at h⟩
  have hargs : VRels [] [.agg l0] [v0] := by
    simp only [VRels]
    exact ⟨v0, _, rfl, e0, rfl⟩
  obtain ⟨lawK, lawK_ok, hlaw⟩ := law l0 t0
  refine (evF_true (K := lawK) (L := noL) (N := lawN) (d := lawD) sxApart sxMixed lawK_ok (fun _ _ _ _ => noL_ok) hlaw hrel (fun b x h => by simp at h) hargs).mono fun e W' ⟨he, bel⟩ => ?_
  subst he
  exact ⟨_, rfl, _, _, _, [], _, [], hW', trodAll_mk1 (shut_bool Try.underlying4 _), (trodAll_cons_mk (Below.trod sxLaid (by kernel_rfl) (of_decide_eq_true (by kernel_rfl)) k0 bel lt0) trodAll_mk0), rfl, bel.frame _, fun h => by cases h⟩

theorem over : Rows.fnExactValidGaugeRow.holds Try.pinned (OpenSpec.ofChange Rows.fnExactValidGaugeSpec) :=
  OpenClaim.holds_of_wide 4 Try.f4 rfl rfl rfl rfl rfl rfl rfl ⟨rfl, rfl, rfl, rfl, rfl⟩ rfl rfl rfl rfl rfl (by kernel_rfl) Try.func4 (by kernel_rfl)
    (of_decide_eq_true (by kernel_rfl)) (by unfold Func.isWrapper; first | (rw [if_pos (by decide +kernel)]; kernel_rfl) | (rw [if_neg (by decide +kernel)]; exact ⟨rfl, rfl⟩))
    (fun os started H enc _ => lifted os started H enc)

/-- The statement. -/
theorem proved : Rows.FnExactValidGaugeSaid := over
#print axioms proved
end Go.Proofs.Ytodbpecmaiidpaa.lawValidGauge
