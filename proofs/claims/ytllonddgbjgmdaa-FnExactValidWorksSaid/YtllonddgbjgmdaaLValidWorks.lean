/- The law 'FnExactValidWorks': the program's ValidWorks returns what the reference's returns, for all arguments; no condition. -/
import Derived.Test.YtllonddgbjgmdaaRows
import Derived.WalkKit
import Derived.ProofKit
import Derived.OpenShut
import Derived.ChangeOld
import Derived.Below
import Derived.Test.YtllonddgbjgmdaaSxK2
import Derived.Test.YtllonddgbjgmdaaSxFr
import Derived.Test.YtllonddgbjgmdaaSxW4
namespace Go.Proofs.Ytllonddgbjgmdaa.lawValidWorks
open Go.ChangeShapes Go.WideShapes Go.ChangeAt Go.RowKit Go.Sx
set_option linter.unusedVariables false
set_option linter.unusedSimpArgs false
set_option maxRecDepth 100000
def lawN : Nat := 20
def lawD : Nat := 8

open Go.Proofs.Ytllonddgbjgmdaa.W1 Go.Proofs.Ytllonddgbjgmdaa.W3 Go.Proofs.Ytllonddgbjgmdaa.W4 Go.Sx.R0

noncomputable def lawK (r : Int) (n : Nat) (c : Bt) : CallerT := K1 n c (addK 21 (runV r n c) (addK 22 (runV r n c) extK))
theorem lawK_ok (r : Int) (n : Nat) (c : Bt) : CallerTOk Try.prog (lawK r n c) := K1_ok n c (addK_ok (vS r n c) (addK_ok (vI r n c) extK_ok))
theorem law (x0 : AV) (xk0 : LK.has (.int .i64) x0) (n0 : Nat) (ln0 : n0 ≤ 9223372036854775807) (f0 : Nat → List AV) (tf0 : ∀ i, i < n0 → Typed bks (f0 i)) :
    ∃ K, CallerTOk Try.prog K ∧ ∃ t, evF Try.prog K noL lawN lawD 5 [.agg [x0, .slc 0 0 n0]] [.rows false n0 9 (fun i => canonR bks 0 (f0 i))] = some (t, true) ∧ delit t.get.1 = .bool true := by
  obtain ⟨r, rfl, _, _⟩ := xk0
  have k0 := nmOk tf0
  rw [canon]
  revert k0
  generalize cOf f0 = c
  intro k0
  have h : evF Try.prog (lawK r n0 c) noL lawN lawD 5 [.agg [.int .i64 r, .slc 0 0 n0]] [.rows false n0 9 c.row] =
      some (.leaf (.bool (val1 (neg1 n0 c) (bif vW r n0 c == vW r n0 c then false else true) (r == r)), none), owed1 (neg1 n0 c) (bif vW r n0 c == vW r n0 c then false else true) (r == r) (okSz n0 c 1048576) (Bt.okT n0 c) (okV r n0 c) (Bt.okE n0 c)) := by kernel_rfl
  rw [end1 ln0 k0 _ _ _ fun hf => okV_true r hf k0] at h
  refine ⟨_, lawK_ok r n0 c, _, h, ?_⟩
  simp only [Tr.get, delit, beq_self_eq_true, cond_true, val1_t]

set_option maxRecDepth 100000 in
theorem lifted (os : Os) (started : os.Started) (H : Type) (enc : TypeId × Value → H) :
    ReturnsInHanded {} Try.checked os 5 .any (Rows.fnExactValidWorksSpec.pre6 enc Try.prog Try.f5 Rows.fnExactValidWorksRow.domain false) (Rows.fnExactValidWorksSpec.post enc Try.prog Try.f5 false true false false) := by
  refine returnsInHanded_of_change (C := Try.checked) sxOwn started (by kernel_rfl) Try.func5
    (ChangeSpec.witness6 (enc := enc) (C := Try.checked) false ⟨#[], #[.agg #[.int .i64 0, .slice none 0 0]], []⟩ 8 (by kernel_rfl) (by kernel_rfl) (by kernel_rfl) (by kernel_rfl)) ?_
  intro W base args ds gs before hval0 hW hcnd _
  have hval : ∀ (j : Nat) t v, Try.f5.params[j]? = some t → args[j]? = some v → Value.okWide Try.prog W .any base t v := hval0
  have hW' := hW
  obtain ⟨p, q, hA0, hV, rfl, hfz, hnd⟩ := hW
  have hA : DataW.TrodAll enc Try.prog W 0 (fun _ => true) true Try.f5.params.toList args.toList ds p := hA0
  rw [Try.params5] at hA hval
  obtain ⟨v0, vs0, d0, ds0, p0, q0, hargs, rfl, rfl, h0, r0⟩ := trodAll_cons hA
  obtain ⟨rfl, rfl, rfl⟩ := trodAll_nil r0
  obtain rfl : args = #[v0] := by cases args; simp_all
  obtain ⟨rfl, rfl⟩ := trodVars_none hV
  have hrel0 : HRel [] [] W := ⟨rfl, fun b x p h => by simp at h, fun b c x y p q _ h => by simp at h⟩
  have hro0 := ro_nil
  obtain ⟨x0, n0, f0, pl0, xk0, ln0, tf0, hr0, ev0⟩ := arg_pairB (t0 := 2) (t1 := 28) (e := 128) (D := 8) (k0 := .int .i64) (ks := [.str, .int .i64, .int .i64, .int .i64, .int .i64, .int .i64, .int .i64, .int .i64, .int .i64]) (hval 0 30 v0 rfl rfl) h0 (by kernel_rfl) (by kernel_rfl) (by kernel_rfl) (by kernel_rfl) (by kernel_rfl) (by kernel_rfl) (by kernel_rfl) (by kernel_rfl) (of_decide_eq_true (by kernel_rfl)) hrel0 hro0
  have hrel1 := HRel.canon hr0 (ro_app hro0) tf0
  have hro1 := ro_app (n := n0) (sz := 9) (f := fun i => canonR [.str, .int .i64, .int .i64, .int .i64, .int .i64, .int .i64, .int .i64, .int .i64, .int .i64] 0 (f0 i)) hro0
  have e0 : VRel [pl0] (.agg [x0, .slc 0 0 n0]) v0 := VRel.ext (fun b p hp => by revert hp; rcases b with _ | _ | _ | _ <;> simp) ev0
  have k0 := h0
  have lt0 : ∀ x ∈ p0, x.block < W.heap.size := by obtain ⟨m, hm⟩ := k0; exact DataW.trod_lt m _ _ _ hm
  have hargs : VRels [pl0] [.agg [x0, .slc 0 0 n0]] [v0] := by
    simp only [VRels]
    exact ⟨v0, _, rfl, e0, rfl⟩
  obtain ⟨lawK, lawK_ok, hlaw⟩ := law x0 xk0 n0 ln0 f0 tf0
  refine (evF_true (K := lawK) (L := noL) (N := lawN) (d := lawD) sxApart sxMixed lawK_ok (fun _ _ _ _ => noL_ok) hlaw hrel1 hro1 hargs).mono fun e W' ⟨he, bel⟩ => ?_
  subst he
  exact ⟨_, rfl, _, _, _, [], _, [], hW', trodAll_mk1 (shut_bool Try.underlying4 _), (trodAll_cons_mk (Below.trod sxLaid (by kernel_rfl) (of_decide_eq_true (by kernel_rfl)) k0 bel lt0) trodAll_mk0), rfl, bel.frame _, fun h => by cases h⟩

theorem over : Rows.fnExactValidWorksRow.holds Try.pinned (OpenSpec.ofChange Rows.fnExactValidWorksSpec) :=
  OpenClaim.holds_of_wide 5 Try.f5 rfl rfl rfl rfl rfl rfl rfl ⟨rfl, rfl, rfl, rfl, rfl⟩ rfl rfl rfl rfl rfl (by kernel_rfl) Try.func5 (by kernel_rfl)
    (of_decide_eq_true (by kernel_rfl)) (by unfold Func.isWrapper; first | (rw [if_pos (by decide +kernel)]; kernel_rfl) | (rw [if_neg (by decide +kernel)]; exact ⟨rfl, rfl⟩))
    (fun os started H enc _ => lifted os started H enc)

/-- The statement. -/
theorem proved : Rows.FnExactValidWorksSaid := over
#print axioms proved
end Go.Proofs.Ytllonddgbjgmdaa.lawValidWorks
