/- The law 'FnExactMeanCounts': the program's MeanCounts returns what the reference's returns, for all arguments; no condition. -/
import Derived.Test.YtodbpecmaiidpaaRows
import Derived.WalkKit
import Derived.ProofKit
import Derived.OpenShut
import Derived.ChangeOld
import Derived.Below
import Derived.Test.YtodbpecmaiidpaaSxK2
import Derived.Test.YtodbpecmaiidpaaSxFr
import Derived.Test.YtodbpecmaiidpaaSxM6
namespace Go.Proofs.Ytodbpecmaiidpaa.lawMeanCounts
open Go.ChangeShapes Go.WideShapes Go.ChangeAt Go.RowKit Go.Sx
set_option linter.unusedVariables false
set_option linter.unusedSimpArgs false
set_option maxRecDepth 100000
def lawN : Nat := 20
def lawD : Nat := 8

open Go.Proofs.Ytodbpecmaiidpaa.S6 Go.Proofs.Ytodbpecmaiidpaa.V6 Go.Proofs.Ytodbpecmaiidpaa.M6

noncomputable def lawK (n : Nat) (T : Nat → Int) (C : Nat → Nat → Int) : CallerT := addK 30 (selRun (runTo n T C)) (addK 32 (selRun (runEqS n T C)) (addK 41 (runMC n T C) (addK 42 (runMC n T C) extK)))
theorem lawK_ok (n : Nat) (T : Nat → Int) (C : Nat → Nat → Int) : CallerTOk Try.prog (lawK n T C) := addK_ok (to_ok n T C) (addK_ok (eq_ok n T C) (addK_ok (sumMCS n T C) (addK_ok (sumMCI n T C) extK_ok)))
noncomputable def ne (n : Nat) (T : Nat → Int) (C : Nat → Nat → Int) : Bool := impB (sc n T == sc n T) (!eqc [mcv n T C 0, mcv n T C 1, mcv n T C 2, mcv n T C 3, mcv n T C 4, mcv n T C 5, mcv n T C 6, mcv n T C 7, mcv n T C 8, mcv n T C 9, mcv n T C 10, mcv n T C 11, mcv n T C 12, mcv n T C 13, mcv n T C 14, mcv n T C 15])
theorem ne_false (n : Nat) (T : Nat → Int) (C : Nat → Nat → Int) : ne n T C = false := by unfold ne; rw [eqc_true]; simp [impB]

theorem law (n0 : Nat) (ln0 : n0 ≤ 9223372036854775807) (f0 : Nat → List AV) (tf0 : ∀ i, i < n0 → Typed sks (f0 i)) :
    ∃ K, CallerTOk Try.prog K ∧ ∃ t, evF Try.prog K noL lawN lawD 12 [.slc 0 0 n0] [.rows false n0 17 (fun i => canonR sks 0 (f0 i))] = some (t, true) ∧ delit t.get.1 = .bool true := by
  rw [canon_row]
  generalize Tf f0 = T
  generalize Cf f0 = C
  refine ⟨lawK n0 T C, lawK_ok n0 T C, .leaf (.bool (impB (ne n0 T C) (lv n0)), none), ?_, ?_⟩
  · have h : evF Try.prog (lawK n0 T C) noL lawN lawD 12 [.slc 0 0 n0] (roH n0 T C) = some (.leaf (.bool (impB (ne n0 T C) (lv n0)), none),
      impB (!lv n0) (andB (okH n0 T C) (andB (okH n0 T C) (andB (okH n0 T C) (andB (okH n0 T C) (impB (!ne n0 T C) (andB (okH n0 T C) (andB (okE n0 T C) true)))))))) := by kernel_rfl
    rw [law_ob1 ((lv_or ln0).imp id fun hn => ⟨okH_true hn T C, okE_true hn T C, okH_true hn T C, okH_true hn T C⟩)] at h
    exact h
  · rw [ne_false]
    cases lv n0 <;> rfl

set_option maxRecDepth 100000 in
theorem lifted (os : Os) (started : os.Started) (H : Type) (enc : TypeId × Value → H) :
    ReturnsInHanded {} Try.checked os 12 .any (Rows.fnExactMeanCountsSpec.pre6 enc Try.prog Try.f12 Rows.fnExactMeanCountsRow.domain false) (Rows.fnExactMeanCountsSpec.post enc Try.prog Try.f12 false true false false) := by
  refine returnsInHanded_of_change (C := Try.checked) sxOwn started (by kernel_rfl) Try.func12
    (ChangeSpec.witness6 (enc := enc) (C := Try.checked) false ⟨#[], #[.slice none 0 0], []⟩ 8 (by kernel_rfl) (by kernel_rfl) (by kernel_rfl) (by kernel_rfl)) ?_
  intro W base args ds gs before hval0 hW hcnd _
  have hval : ∀ (j : Nat) t v, Try.f12.params[j]? = some t → args[j]? = some v → Value.okWide Try.prog W .any base t v := hval0
  have hW' := hW
  obtain ⟨p, q, hA0, hV, rfl, hfz, hnd⟩ := hW
  have hA : DataW.TrodAll enc Try.prog W 0 (fun _ => true) true Try.f12.params.toList args.toList ds p := hA0
  rw [Try.params12] at hA hval
  obtain ⟨v0, vs0, d0, ds0, p0, q0, hargs, rfl, rfl, h0, r0⟩ := trodAll_cons hA
  obtain ⟨rfl, rfl, rfl⟩ := trodAll_nil r0
  obtain rfl : args = #[v0] := by cases args; simp_all
  obtain ⟨rfl, rfl⟩ := trodVars_none hV
  have hrel0 : HRel [] [] W := ⟨rfl, fun b x p h => by simp at h, fun b c x y p q _ h => by simp at h⟩
  have hro0 := ro_nil
  obtain ⟨n0, f0, pl0, ln0, tf0, hr0, ev0⟩ := arg_slice (e := 86) (D := 8) (ks := [.int .i64, .int .i16, .int .i16, .int .i16, .int .i16, .int .i16, .int .i16, .int .i16, .int .i16, .int .i16, .int .i16, .int .i16, .int .i16, .int .i16, .int .i16, .int .i16, .int .i16]) (hval 0 47 v0 rfl rfl) h0 (by kernel_rfl) (by kernel_rfl) (by kernel_rfl) (of_decide_eq_true (by kernel_rfl)) hrel0 hro0
  have hrel1 := HRel.canon hr0 (ro_app hro0) tf0
  have hro1 := ro_app (n := n0) (sz := 17) (f := fun i => canonR [.int .i64, .int .i16, .int .i16, .int .i16, .int .i16, .int .i16, .int .i16, .int .i16, .int .i16, .int .i16, .int .i16, .int .i16, .int .i16, .int .i16, .int .i16, .int .i16, .int .i16] 0 (f0 i)) hro0
  have e0 : VRel [pl0] (.slc 0 0 n0) v0 := VRel.ext (fun b p hp => by revert hp; rcases b with _ | _ | _ | _ <;> simp) ev0
  have k0 := h0
  have lt0 : ∀ x ∈ p0, x.block < W.heap.size := by obtain ⟨m, hm⟩ := k0; exact DataW.trod_lt m _ _ _ hm
  have hargs : VRels [pl0] [.slc 0 0 n0] [v0] := by
    simp only [VRels]
    exact ⟨v0, _, rfl, e0, rfl⟩
  obtain ⟨lawK, lawK_ok, hlaw⟩ := law n0 ln0 f0 tf0
  refine (evF_true (K := lawK) (L := noL) (N := lawN) (d := lawD) sxApart sxMixed lawK_ok (fun _ _ _ _ => noL_ok) hlaw hrel1 hro1 hargs).mono fun e W' ⟨he, bel⟩ => ?_
  subst he
  exact ⟨_, rfl, _, _, _, [], _, [], hW', trodAll_mk1 (shut_bool Try.underlying4 _), (trodAll_cons_mk (Below.trod sxLaid (by kernel_rfl) (of_decide_eq_true (by kernel_rfl)) k0 bel lt0) trodAll_mk0), rfl, bel.frame _, fun h => by cases h⟩

theorem over : Rows.fnExactMeanCountsRow.holds Try.pinned (OpenSpec.ofChange Rows.fnExactMeanCountsSpec) :=
  OpenClaim.holds_of_wide 12 Try.f12 rfl rfl rfl rfl rfl rfl rfl ⟨rfl, rfl, rfl, rfl, rfl⟩ rfl rfl rfl rfl rfl (by kernel_rfl) Try.func12 (by kernel_rfl)
    (of_decide_eq_true (by kernel_rfl)) (by unfold Func.isWrapper; first | (rw [if_pos (by decide +kernel)]; kernel_rfl) | (rw [if_neg (by decide +kernel)]; exact ⟨rfl, rfl⟩))
    (fun os started H enc _ => lifted os started H enc)

/-- The statement. -/
theorem proved : Rows.FnExactMeanCountsSaid := over
#print axioms proved
end Go.Proofs.Ytodbpecmaiidpaa.lawMeanCounts
