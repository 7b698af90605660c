/- The law 'FnExactDriftOf': the program's DriftOf returns what the reference's returns, for all arguments; no condition. -/
import Derived.Test.YtodbpecmaiidpaaRows
import Derived.WalkKit
import Derived.ProofKit
import Derived.OpenShut
import Derived.ChangeOld
import Derived.Below
import Derived.Test.YtodbpecmaiidpaaSxK2
import Derived.Test.YtodbpecmaiidpaaSxFr
import Derived.Test.YtodbpecmaiidpaaSxD6
namespace Go.Proofs.Ytodbpecmaiidpaa.lawDriftOf
open Go.ChangeShapes Go.WideShapes Go.ChangeAt Go.RowKit Go.Sx
set_option linter.unusedVariables false
set_option linter.unusedSimpArgs false
set_option maxRecDepth 100000
def lawN : Nat := 20
def lawD : Nat := 8

open Go.Proofs.Ytodbpecmaiidpaa.S6 Go.Proofs.Ytodbpecmaiidpaa.V6 Go.Proofs.Ytodbpecmaiidpaa.M6 Go.Proofs.Ytodbpecmaiidpaa.G6 Go.Proofs.Ytodbpecmaiidpaa.D6 Go.Sx.C6 Go.Sx.C1

noncomputable def lawK (n : Nat) (T : Nat → Int) (C : Nat → Nat → Int) (g : Gg) : CallerT := addK 30 (selRun (runTo n T C)) (addK 32 (selRun (runEqS n T C)) (addK 46 (runD n T C g) (addK 47 (runD n T C g) extK)))
theorem lawK_ok (n : Nat) (T : Nat → Int) (C : Nat → Nat → Int) (g : Gg) : CallerTOk Try.prog (lawK n T C g) := addK_ok (to_ok n T C) (addK_ok (eq_ok n T C) (addK_ok (sumDs n T C g) (addK_ok (sumDi n T C g) extK_ok)))
noncomputable def ne (n : Nat) (T : Nat → Int) (C : Nat → Nat → Int) (g : Gg) : Bool := impB (dc n T C g == dc n T C g) (!sf (dv n T C g))
theorem ne_false (n : Nat) (T : Nat → Int) (C : Nat → Nat → Int) (g : Gg) : ne n T C g = false := by unfold ne; rw [sf_true]; simp [impB]
noncomputable def oD (n : Nat) (T : Nat → Int) (C : Nat → Nat → Int) (g : Gg) : Bool := andB (deq (AD n g) (AD n g)) (andB (deqH (roH n T C) (roH n T C)) (Nat.ble n few))
theorem oD_true {n : Nat} (hn : Nat.ble n few = true) (T : Nat → Int) (C : Nat → Nat → Int) (g : Gg) : oD n T C g = true := by unfold oD; rw [deq_self, deqH_self, hn]; rfl

theorem law (l0 : List AV) (t0 : Typed (List.replicate 16 (.int .i16) ++ (List.replicate 16 (.int .i16) ++ (List.replicate 16 (.flt .f32) ++ [.flt .f32]))) l0) (n0 : Nat) (ln0 : n0 ≤ 9223372036854775807) (f0 : Nat → List AV) (tf0 : ∀ i, i < n0 → Typed sks (f0 i)) :
    ∃ K, CallerTOk Try.prog K ∧ ∃ t, evF Try.prog K noL lawN lawD 14 [.agg l0, .slc 0 0 n0] [.rows false n0 17 (fun i => canonR sks 0 (f0 i))] = some (t, true) ∧ delit t.get.1 = .bool true := by
  obtain ⟨_, _, rfl, ⟨b0, rfl, b0L, b0U⟩, t0⟩ := t0
  obtain ⟨_, _, rfl, ⟨b1, rfl, b1L, b1U⟩, t0⟩ := t0
  obtain ⟨_, _, rfl, ⟨b2, rfl, b2L, b2U⟩, t0⟩ := t0
  obtain ⟨_, _, rfl, ⟨b3, rfl, b3L, b3U⟩, t0⟩ := t0
  obtain ⟨_, _, rfl, ⟨b4, rfl, b4L, b4U⟩, t0⟩ := t0
  obtain ⟨_, _, rfl, ⟨b5, rfl, b5L, b5U⟩, t0⟩ := t0
  obtain ⟨_, _, rfl, ⟨b6, rfl, b6L, b6U⟩, t0⟩ := t0
  obtain ⟨_, _, rfl, ⟨b7, rfl, b7L, b7U⟩, t0⟩ := t0
  obtain ⟨_, _, rfl, ⟨b8, rfl, b8L, b8U⟩, t0⟩ := t0
  obtain ⟨_, _, rfl, ⟨b9, rfl, b9L, b9U⟩, t0⟩ := t0
  obtain ⟨_, _, rfl, ⟨b10, rfl, b10L, b10U⟩, t0⟩ := t0
  obtain ⟨_, _, rfl, ⟨b11, rfl, b11L, b11U⟩, t0⟩ := t0
  obtain ⟨_, _, rfl, ⟨b12, rfl, b12L, b12U⟩, t0⟩ := t0
  obtain ⟨_, _, rfl, ⟨b13, rfl, b13L, b13U⟩, t0⟩ := t0
  obtain ⟨_, _, rfl, ⟨b14, rfl, b14L, b14U⟩, t0⟩ := t0
  obtain ⟨_, _, rfl, ⟨b15, rfl, b15L, b15U⟩, t0⟩ := t0
  obtain ⟨_, _, rfl, ⟨w0, rfl, w0L, w0U⟩, t0⟩ := t0
  obtain ⟨_, _, rfl, ⟨w1, rfl, w1L, w1U⟩, t0⟩ := t0
  obtain ⟨_, _, rfl, ⟨w2, rfl, w2L, w2U⟩, t0⟩ := t0
  obtain ⟨_, _, rfl, ⟨w3, rfl, w3L, w3U⟩, t0⟩ := t0
  obtain ⟨_, _, rfl, ⟨w4, rfl, w4L, w4U⟩, t0⟩ := t0
  obtain ⟨_, _, rfl, ⟨w5, rfl, w5L, w5U⟩, t0⟩ := t0
  obtain ⟨_, _, rfl, ⟨w6, rfl, w6L, w6U⟩, t0⟩ := t0
  obtain ⟨_, _, rfl, ⟨w7, rfl, w7L, w7U⟩, t0⟩ := t0
  obtain ⟨_, _, rfl, ⟨w8, rfl, w8L, w8U⟩, t0⟩ := t0
  obtain ⟨_, _, rfl, ⟨w9, rfl, w9L, w9U⟩, t0⟩ := t0
  obtain ⟨_, _, rfl, ⟨w10, rfl, w10L, w10U⟩, t0⟩ := t0
  obtain ⟨_, _, rfl, ⟨w11, rfl, w11L, w11U⟩, t0⟩ := t0
  obtain ⟨_, _, rfl, ⟨w12, rfl, w12L, w12U⟩, t0⟩ := t0
  obtain ⟨_, _, rfl, ⟨w13, rfl, w13L, w13U⟩, t0⟩ := t0
  obtain ⟨_, _, rfl, ⟨w14, rfl, w14L, w14U⟩, t0⟩ := t0
  obtain ⟨_, _, rfl, ⟨w15, rfl, w15L, w15U⟩, t0⟩ := t0
  obtain ⟨_, _, rfl, ⟨k0, rfl, k0K⟩, t0⟩ := t0
  obtain ⟨_, _, rfl, ⟨k1, rfl, k1K⟩, t0⟩ := t0
  obtain ⟨_, _, rfl, ⟨k2, rfl, k2K⟩, t0⟩ := t0
  obtain ⟨_, _, rfl, ⟨k3, rfl, k3K⟩, t0⟩ := t0
  obtain ⟨_, _, rfl, ⟨k4, rfl, k4K⟩, t0⟩ := t0
  obtain ⟨_, _, rfl, ⟨k5, rfl, k5K⟩, t0⟩ := t0
  obtain ⟨_, _, rfl, ⟨k6, rfl, k6K⟩, t0⟩ := t0
  obtain ⟨_, _, rfl, ⟨k7, rfl, k7K⟩, t0⟩ := t0
  obtain ⟨_, _, rfl, ⟨k8, rfl, k8K⟩, t0⟩ := t0
  obtain ⟨_, _, rfl, ⟨k9, rfl, k9K⟩, t0⟩ := t0
  obtain ⟨_, _, rfl, ⟨k10, rfl, k10K⟩, t0⟩ := t0
  obtain ⟨_, _, rfl, ⟨k11, rfl, k11K⟩, t0⟩ := t0
  obtain ⟨_, _, rfl, ⟨k12, rfl, k12K⟩, t0⟩ := t0
  obtain ⟨_, _, rfl, ⟨k13, rfl, k13K⟩, t0⟩ := t0
  obtain ⟨_, _, rfl, ⟨k14, rfl, k14K⟩, t0⟩ := t0
  obtain ⟨_, _, rfl, ⟨k15, rfl, k15K⟩, t0⟩ := t0
  obtain ⟨_, _, rfl, ⟨d, rfl, dK⟩, t0⟩ := t0
  have t0 := (t0 : _ = [])
  subst t0
  obtain ⟨g, hg⟩ := @gauge_fn b0 b1 b2 b3 b4 b5 b6 b7 b8 b9 b10 b11 b12 b13 b14 b15 w0 w1 w2 w3 w4 w5 w6 w7 w8 w9 w10 w11 w12 w13 w14 w15 k0 k1 k2 k3 k4 k5 k6 k7 k8 k9 k10 k11 k12 k13 k14 k15 d
  have key : ∃ K, CallerTOk Try.prog K ∧ ∃ t, evF Try.prog K noL lawN lawD 14 [.agg (gF g), .slc 0 0 n0] [.rows false n0 17 (fun i => canonR sks 0 (f0 i))] = some (t, true) ∧ delit t.get.1 = .bool true := by
    rw [canon_row]
    generalize Tf f0 = T
    generalize Cf f0 = C
    refine ⟨lawK n0 T C g, lawK_ok n0 T C g, .leaf (.bool (impB (ne n0 T C g) (lv n0)), none), ?_, ?_⟩
    · have h : evF Try.prog (lawK n0 T C g) noL lawN lawD 14 [.agg (gF g), .slc 0 0 n0] (roH n0 T C) = some (.leaf (.bool (impB (ne n0 T C g) (lv n0)), none),
        impB (!lv n0) (andB (okH n0 T C) (andB (oD n0 T C g) (andB (okH n0 T C) (andB (oD n0 T C g) (impB (!ne n0 T C g) (andB (okH n0 T C) (andB (okE n0 T C) true)))))))) := by kernel_rfl
      rw [law_ob1 ((lv_or ln0).imp id fun hn => ⟨okH_true hn T C, okE_true hn T C, oD_true hn T C g, oD_true hn T C g⟩)] at h
      exact h
    · rw [ne_false]
      cases lv n0 <;> rfl
  rw [← hg] at key
  exact key

set_option maxRecDepth 100000 in
theorem lifted (os : Os) (started : os.Started) (H : Type) (enc : TypeId × Value → H) :
    ReturnsInHanded {} Try.checked os 14 .any (Rows.fnExactDriftOfSpec.pre6 enc Try.prog Try.f14 Rows.fnExactDriftOfRow.domain false) (Rows.fnExactDriftOfSpec.post enc Try.prog Try.f14 false true false false) := by
  refine returnsInHanded_of_change (C := Try.checked) sxOwn started (by kernel_rfl) Try.func14
    (ChangeSpec.witness6 (enc := enc) (C := Try.checked) false ⟨#[], #[.agg #[.int .i16 0, .int .i16 0, .int .i16 0, .int .i16 0, .int .i16 0, .int .i16 0, .int .i16 0, .int .i16 0, .int .i16 0, .int .i16 0, .int .i16 0, .int .i16 0, .int .i16 0, .int .i16 0, .int .i16 0, .int .i16 0, .int .i16 0, .int .i16 0, .int .i16 0, .int .i16 0, .int .i16 0, .int .i16 0, .int .i16 0, .int .i16 0, .int .i16 0, .int .i16 0, .int .i16 0, .int .i16 0, .int .i16 0, .int .i16 0, .int .i16 0, .int .i16 0, .float .f32 0, .float .f32 0, .float .f32 0, .float .f32 0, .float .f32 0, .float .f32 0, .float .f32 0, .float .f32 0, .float .f32 0, .float .f32 0, .float .f32 0, .float .f32 0, .float .f32 0, .float .f32 0, .float .f32 0, .float .f32 0, .float .f32 0], .slice none 0 0], []⟩ 8 (by kernel_rfl) (by kernel_rfl) (by kernel_rfl) (by kernel_rfl)) ?_
  intro W base args ds gs before hval0 hW hcnd _
  have hval : ∀ (j : Nat) t v, Try.f14.params[j]? = some t → args[j]? = some v → Value.okWide Try.prog W .any base t v := hval0
  have hW' := hW
  obtain ⟨p, q, hA0, hV, rfl, hfz, hnd⟩ := hW
  have hA : DataW.TrodAll enc Try.prog W 0 (fun _ => true) true Try.f14.params.toList args.toList ds p := hA0
  rw [Try.params14] at hA hval
  obtain ⟨v0, vs0, d0, ds0, p0, q0, hargs, rfl, rfl, h0, r0⟩ := trodAll_cons hA
  obtain ⟨v1, vs1, d1, ds1, p1, q1, rfl, rfl, rfl, h1, r1⟩ := trodAll_cons r0
  obtain ⟨rfl, rfl, rfl⟩ := trodAll_nil r1
  obtain rfl : args = #[v0, v1] := by cases args; simp_all
  obtain ⟨rfl, rfl⟩ := trodVars_none hV
  have hrel0 : HRel [] [] W := ⟨rfl, fun b x p h => by simp at h, fun b c x y p q _ h => by simp at h⟩
  have hro0 := ro_nil
  obtain ⟨n1, f1, pl1, ln1, tf1, hr1, ev1⟩ := arg_slice (e := 86) (D := 8) (ks := [.int .i64, .int .i16, .int .i16, .int .i16, .int .i16, .int .i16, .int .i16, .int .i16, .int .i16, .int .i16, .int .i16, .int .i16, .int .i16, .int .i16, .int .i16, .int .i16, .int .i16]) (hval 1 47 v1 rfl rfl) h1 (by kernel_rfl) (by kernel_rfl) (by kernel_rfl) (of_decide_eq_true (by kernel_rfl)) hrel0 hro0
  have hrel1 := HRel.canon hr1 (ro_app hro0) tf1
  have hro1 := ro_app (n := n1) (sz := 17) (f := fun i => canonR [.int .i64, .int .i16, .int .i16, .int .i16, .int .i16, .int .i16, .int .i16, .int .i16, .int .i16, .int .i16, .int .i16, .int .i16, .int .i16, .int .i16, .int .i16, .int .i16, .int .i16] 0 (f1 i)) hro0
  obtain ⟨l0, t0, e0⟩ := arg_agg (ρ := [pl1]) (ts := [23, 23, 23, 23, 23, 23, 23, 23, 23, 23, 23, 23, 23, 23, 23, 23, 23, 23, 23, 23, 23, 23, 23, 23, 23, 23, 23, 23, 23, 23, 23, 23, 22, 22, 22, 22, 22, 22, 22, 22, 22, 22, 22, 22, 22, 22, 22, 22, 22]) (ks := [.int .i16, .int .i16, .int .i16, .int .i16, .int .i16, .int .i16, .int .i16, .int .i16, .int .i16, .int .i16, .int .i16, .int .i16, .int .i16, .int .i16, .int .i16, .int .i16, .int .i16, .int .i16, .int .i16, .int .i16, .int .i16, .int .i16, .int .i16, .int .i16, .int .i16, .int .i16, .int .i16, .int .i16, .int .i16, .int .i16, .int .i16, .int .i16, .flt .f32, .flt .f32, .flt .f32, .flt .f32, .flt .f32, .flt .f32, .flt .f32, .flt .f32, .flt .f32, .flt .f32, .flt .f32, .flt .f32, .flt .f32, .flt .f32, .flt .f32, .flt .f32, .flt .f32]) (hval 0 29 v0 rfl rfl) (by kernel_rfl) (by kernel_rfl) (by kernel_rfl) (by kernel_rfl)
  have e1 : VRel [pl1] (.slc 0 0 n1) v1 := VRel.ext (fun b p hp => by revert hp; rcases b with _ | _ | _ | _ <;> simp) ev1
  have k0 := h0
  have lt0 : ∀ x ∈ p0, x.block < W.heap.size := by obtain ⟨m, hm⟩ := k0; exact DataW.trod_lt m _ _ _ hm
  have k1 := h1
  have lt1 : ∀ x ∈ p1, x.block < W.heap.size := by obtain ⟨m, hm⟩ := k1; exact DataW.trod_lt m _ _ _ hm
  have hargs : VRels [pl1] [.agg l0, .slc 0 0 n1] [v0, v1] := by
    simp only [VRels]
    exact ⟨v0, _, rfl, e0, ⟨v1, _, rfl, e1, rfl⟩⟩
  obtain ⟨lawK, lawK_ok, hlaw⟩ := law l0 t0 n1 ln1 f1 tf1
  refine (evF_true (K := lawK) (L := noL) (N := lawN) (d := lawD) sxApart sxMixed lawK_ok (fun _ _ _ _ => noL_ok) hlaw hrel1 hro1 hargs).mono fun e W' ⟨he, bel⟩ => ?_
  subst he
  exact ⟨_, rfl, _, _, _, [], _, [], hW', trodAll_mk1 (shut_bool Try.underlying4 _), (trodAll_cons_mk (Below.trod sxLaid (by kernel_rfl) (of_decide_eq_true (by kernel_rfl)) k0 bel lt0) (trodAll_cons_mk (Below.trod sxLaid (by kernel_rfl) (of_decide_eq_true (by kernel_rfl)) k1 bel lt1) trodAll_mk0)), rfl, bel.frame _, fun h => by cases h⟩

theorem over : Rows.fnExactDriftOfRow.holds Try.pinned (OpenSpec.ofChange Rows.fnExactDriftOfSpec) :=
  OpenClaim.holds_of_wide 14 Try.f14 rfl rfl rfl rfl rfl rfl rfl ⟨rfl, rfl, rfl, rfl, rfl⟩ rfl rfl rfl rfl rfl (by kernel_rfl) Try.func14 (by kernel_rfl)
    (of_decide_eq_true (by kernel_rfl)) (by unfold Func.isWrapper; first | (rw [if_pos (by decide +kernel)]; kernel_rfl) | (rw [if_neg (by decide +kernel)]; exact ⟨rfl, rfl⟩))
    (fun os started H enc _ => lifted os started H enc)

/-- The statement. -/
theorem proved : Rows.FnExactDriftOfSaid := over
#print axioms proved
end Go.Proofs.Ytodbpecmaiidpaa.lawDriftOf
