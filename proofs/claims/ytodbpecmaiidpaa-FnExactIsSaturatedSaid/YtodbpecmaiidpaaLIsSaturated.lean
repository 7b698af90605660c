/- The law 'FnExactIsSaturated': the program's IsSaturated returns what the reference's returns, for all arguments; no condition. -/
import Derived.Test.YtodbpecmaiidpaaRows
import Derived.WalkKit
import Derived.IntWalk
import Derived.ProofKit
import Derived.OpenShut
import Derived.ChangeOld
import Derived.Below
import Derived.Test.YtodbpecmaiidpaaSxBase
namespace Go.Proofs.Ytodbpecmaiidpaa.lawIsSaturated
open Go.ChangeShapes Go.WideShapes Go.ChangeAt Go.RowKit Go.Sx Go.IntWalk
set_option linter.unusedVariables false
set_option linter.unusedSimpArgs false

noncomputable def lawK : CallerT := noK
theorem lawK_ok : CallerTOk Try.prog lawK := noK_ok
def lawN : Nat := 20
def lawD : Nat := 8

def sat (a : Int) : Bool := cond (a == 32767) true (a == -32768)
def anyS : List Int → Bool
  | [] => false
  | a :: t => cond (sat a) true (anyS t)
def idxS : List Int → Int → Int
  | [], _ => -1
  | a :: t, i => cond (sat a) i (idxS t (IntKind.i64.wrap (i + 1)))

theorem idx_any : ∀ (l : List Int) (i : Int), 0 ≤ i → i + l.length < 1000000 → (decide (idxS l i ≥ 0)) = anyS l
  | [], i, _, _ => by simp [idxS, anyS]
  | a :: t, i, h, hl => by
    simp only [List.length_cons] at hl
    simp only [idxS, anyS]
    simp only [i64_in (i + 1) (by omega)]
    cases sat a with
    | true => simpa using h
    | false => simpa using idx_any t (i + 1) (by omega) (by omega)

theorem law (l0 : List AV) (t0 : Typed (List.replicate 16 (.int .i16)) l0) : ∃ t, evF Try.prog lawK noL lawN lawD 6 [.agg l0] [] = some (t, true) ∧ delit t.get.1 = .bool true := by
  obtain ⟨_, _, rfl, ⟨a0, rfl, a0L, a0U⟩, t0⟩ := t0
  obtain ⟨_, _, rfl, ⟨a1, rfl, a1L, a1U⟩, t0⟩ := t0
  obtain ⟨_, _, rfl, ⟨a2, rfl, a2L, a2U⟩, t0⟩ := t0
  obtain ⟨_, _, rfl, ⟨a3, rfl, a3L, a3U⟩, t0⟩ := t0
  obtain ⟨_, _, rfl, ⟨a4, rfl, a4L, a4U⟩, t0⟩ := t0
  obtain ⟨_, _, rfl, ⟨a5, rfl, a5L, a5U⟩, t0⟩ := t0
  obtain ⟨_, _, rfl, ⟨a6, rfl, a6L, a6U⟩, t0⟩ := t0
  obtain ⟨_, _, rfl, ⟨a7, rfl, a7L, a7U⟩, t0⟩ := t0
  obtain ⟨_, _, rfl, ⟨a8, rfl, a8L, a8U⟩, t0⟩ := t0
  obtain ⟨_, _, rfl, ⟨a9, rfl, a9L, a9U⟩, t0⟩ := t0
  obtain ⟨_, _, rfl, ⟨a10, rfl, a10L, a10U⟩, t0⟩ := t0
  obtain ⟨_, _, rfl, ⟨a11, rfl, a11L, a11U⟩, t0⟩ := t0
  obtain ⟨_, _, rfl, ⟨a12, rfl, a12L, a12U⟩, t0⟩ := t0
  obtain ⟨_, _, rfl, ⟨a13, rfl, a13L, a13U⟩, t0⟩ := t0
  obtain ⟨_, _, rfl, ⟨a14, rfl, a14L, a14U⟩, t0⟩ := t0
  obtain ⟨_, _, rfl, ⟨a15, rfl, a15L, a15U⟩, t0⟩ := t0
  have t0 := (t0 : _ = [])
  subst t0
  refine ⟨.leaf (.bool (cond (!(decide (idxS [a0, a1, a2, a3, a4, a5, a6, a7, a8, a9, a10, a11, a12, a13, a14, a15] 0 ≥ 0) == anyS [a0, a1, a2, a3, a4, a5, a6, a7, a8, a9, a10, a11, a12, a13, a14, a15])) false true), none), by kernel_rfl, ?_⟩
  rw [idx_any _ _ (Int.le_refl 0) (by simp)]
  simp [Tr.get, delit]

set_option maxRecDepth 100000 in
theorem lifted (os : Os) (started : os.Started) (H : Type) (enc : TypeId × Value → H) :
    ReturnsInHanded {} Try.checked os 6 .any (Rows.fnExactIsSaturatedSpec.pre6 enc Try.prog Try.f6 Rows.fnExactIsSaturatedRow.domain false) (Rows.fnExactIsSaturatedSpec.post enc Try.prog Try.f6 false true false false) := by
  refine returnsInHanded_of_change (C := Try.checked) sxOwn started (by kernel_rfl) Try.func6
    (ChangeSpec.witness6 (enc := enc) (C := Try.checked) false ⟨#[], #[.agg #[.int .i16 0, .int .i16 0, .int .i16 0, .int .i16 0, .int .i16 0, .int .i16 0, .int .i16 0, .int .i16 0, .int .i16 0, .int .i16 0, .int .i16 0, .int .i16 0, .int .i16 0, .int .i16 0, .int .i16 0, .int .i16 0]], []⟩ 8 (by kernel_rfl) (by kernel_rfl) (by kernel_rfl) (by kernel_rfl)) ?_
  intro W base args ds gs before hval0 hW hcnd _
  have hval : ∀ (j : Nat) t v, Try.f6.params[j]? = some t → args[j]? = some v → Value.okWide Try.prog W .any base t v := hval0
  have hW' := hW
  obtain ⟨p, q, hA0, hV, rfl, hfz, hnd⟩ := hW
  have hA : DataW.TrodAll enc Try.prog W 0 (fun _ => true) true Try.f6.params.toList args.toList ds p := hA0
  rw [Try.params6] at hA hval
  obtain ⟨v0, vs0, d0, ds0, p0, q0, hargs, rfl, rfl, h0, r0⟩ := trodAll_cons hA
  obtain ⟨rfl, rfl, rfl⟩ := trodAll_nil r0
  obtain rfl : args = #[v0] := by cases args; simp_all
  obtain ⟨rfl, rfl⟩ := trodVars_none hV
  obtain ⟨l0, t0, e0⟩ := arg_agg (ρ := []) (ts := [23, 23, 23, 23, 23, 23, 23, 23, 23, 23, 23, 23, 23, 23, 23, 23]) (ks := [.int .i16, .int .i16, .int .i16, .int .i16, .int .i16, .int .i16, .int .i16, .int .i16, .int .i16, .int .i16, .int .i16, .int .i16, .int .i16, .int .i16, .int .i16, .int .i16]) (hval 0 26 v0 rfl rfl) (by kernel_rfl) (by kernel_rfl) (by kernel_rfl) (by kernel_rfl)
  have k0 := h0
  have lt0 : ∀ x ∈ p0, x.block < W.heap.size := by obtain ⟨m, hm⟩ := k0; exact DataW.trod_lt m _ _ _ hm
  have hrel : HRel [] [] W := ⟨rfl, fun b x p h => by simp at h, fun b c x y p q _ h => by simp at h⟩
  have hargs : VRels [] [.agg l0] [v0] := by
    simp only [VRels]
    exact ⟨v0, _, rfl, e0, rfl⟩
  refine (evF_true (K := lawK) (L := noL) (N := lawN) (d := lawD) sxApart sxMixed lawK_ok (fun _ _ _ _ => noL_ok) (law l0 t0) hrel (fun b x h => by simp at h) hargs).mono fun e W' ⟨he, bel⟩ => ?_
  subst he
  exact ⟨_, rfl, _, _, _, [], _, [], hW', trodAll_mk1 (shut_bool Try.underlying4 _), (trodAll_cons_mk (Below.trod sxLaid (by kernel_rfl) (of_decide_eq_true (by kernel_rfl)) k0 bel lt0) trodAll_mk0), rfl, bel.frame _, fun h => by cases h⟩

theorem over : Rows.fnExactIsSaturatedRow.holds Try.pinned (OpenSpec.ofChange Rows.fnExactIsSaturatedSpec) :=
  OpenClaim.holds_of_wide 6 Try.f6 rfl rfl rfl rfl rfl rfl rfl ⟨rfl, rfl, rfl, rfl, rfl⟩ rfl rfl rfl rfl rfl (by kernel_rfl) Try.func6 (by kernel_rfl)
    (of_decide_eq_true (by kernel_rfl)) (by unfold Func.isWrapper; first | (rw [if_pos (by decide +kernel)]; kernel_rfl) | (rw [if_neg (by decide +kernel)]; exact ⟨rfl, rfl⟩))
    (fun os started H enc _ => lifted os started H enc)

/-- The statement. -/
theorem proved : Rows.FnExactIsSaturatedSaid := over
#print axioms proved
end Go.Proofs.Ytodbpecmaiidpaa.lawIsSaturated
