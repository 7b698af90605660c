/- The law 'FnExactToCount': the program's ToCount returns what the reference's returns, for all arguments; no condition. -/
import Derived.Test.YtodbpecmaiidpaaRows
import Derived.WalkKit
import Derived.ProofKit
import Derived.OpenShut
import Derived.ChangeOld
import Derived.Below
import Derived.Test.YtodbpecmaiidpaaSxK1
import Derived.Test.YtodbpecmaiidpaaSxC6
namespace Go.Proofs.Ytodbpecmaiidpaa.lawToCount
open Go.ChangeShapes Go.WideShapes Go.ChangeAt Go.RowKit Go.Sx
set_option linter.unusedVariables false
set_option linter.unusedSimpArgs false
set_option maxRecDepth 100000
def lawN : Nat := 20
def lawD : Nat := 8

open Go.Sx.Fl

theorem law (l0 : AV) (t0 : LK.has (.flt .f32) l0) :
    ∃ K, CallerTOk Try.prog K ∧ ∃ t, evF Try.prog K noL lawN lawD 3 [l0] [] = some (t, true) ∧ delit t.get.1 = .bool true := by
  obtain ⟨o, rfl, b, _, hb⟩ := t0
  have ho : o = none ∨ ∃ x, o = some x ∧ (FloatKind.f32.decode x).isNaN = false := by
    unfold nrm at hb
    cases h : (FloatKind.f32.decode b).isNaN with
    | true => rw [h] at hb; exact .inl hb.symm
    | false => rw [h] at hb; exact .inr ⟨b, hb.symm, h⟩
  obtain ⟨h1, h2, h3, _, _⟩ := count_ok o ho
  have hS : evF Try.prog extK noL lawN lawD 15 [.flt .f32 o] [] = some (.leaf (.int .i16 (cS o), none), andB (impB (cond (fcmp .neq .f32 o o) false true) (impB (cond (fcmp .gtr .f64 (zo o) (nrm .f64 4674736138332667904)) false true) (impB (cond (fcmp .lss .f64 (zo o) (nrm .f64 13898108450065350656)) false true) (andB (ftoIOk .f64 .i16 (zo o)) true)))) true) := by kernel_rfl
  have hI : evF Try.prog extK noL lawN lawD 16 [.flt .f32 o] [] = some (.leaf (.int .i16 (cI o), none), (impB (cond (fcmp .neq .f32 o o) false true) (impB (cond (fcmp .geq .f32 o (nrm .f32 1191181824)) false true) (impB (cond (fcmp .leq .f32 o (nrm .f32 3338665984)) false true) (andB (ftoIOk .f64 .i16 (zo o)) true))))) := by kernel_rfl
  have e2 : andB (impB (cond (fcmp .neq .f32 o o) false true) (impB (cond (fcmp .gtr .f64 (zo o) (nrm .f64 4674736138332667904)) false true) (impB (cond (fcmp .lss .f64 (zo o) (nrm .f64 13898108450065350656)) false true) (andB (ftoIOk .f64 .i16 (zo o)) true)))) true = true := by
    unfold obS at h2
    revert h2
    cases fcmp .neq .f32 o o <;> cases fcmp .gtr .f64 (zo o) (nrm .f64 4674736138332667904) <;> cases fcmp .lss .f64 (zo o) (nrm .f64 13898108450065350656) <;> cases ftoIOk .f64 .i16 (zo o) <;> decide
  have e3 : (impB (cond (fcmp .neq .f32 o o) false true) (impB (cond (fcmp .geq .f32 o (nrm .f32 1191181824)) false true) (impB (cond (fcmp .leq .f32 o (nrm .f32 3338665984)) false true) (andB (ftoIOk .f64 .i16 (zo o)) true)))) = true := by
    unfold obI at h3
    revert h3
    cases fcmp .neq .f32 o o <;> cases fcmp .geq .f32 o (nrm .f32 1191181824) <;> cases fcmp .leq .f32 o (nrm .f32 3338665984) <;> cases ftoIOk .f64 .i16 (zo o) <;> decide
  rw [e2] at hS
  rw [e3, h1] at hI
  generalize cS o = n at hS hI
  have kS := sum_at0 (L := noL) sxApart sxMixed extK_ok (fun _ _ _ _ => noL_ok) hS (by kernel_rfl) (T := .leaf (.int .i16 n, none)) (fun _ => rfl) (fun _ => ⟨rfl, rfl⟩)
  have kI := sum_at0 (L := noL) sxApart sxMixed extK_ok (fun _ _ _ _ => noL_ok) hI (by kernel_rfl) (T := .leaf (.int .i16 n, none)) (fun _ => rfl) (fun _ => ⟨rfl, rfl⟩)
  refine ⟨addK 15 _ (addK 16 _ extK), addK_ok kS (addK_ok kI extK_ok), .leaf (.bool (cond (n != n) false true), none), ?_, ?_⟩
  · have h : evF Try.prog (addK 15 (runAt [.flt .f32 o] (.leaf (.int .i16 n, none)) true) (addK 16 (runAt [.flt .f32 o] (.leaf (.int .i16 n, none)) true) extK)) noL lawN lawD 3 [.flt .f32 o] [] = some (.leaf (.bool (cond (n != n) false true), none), andB (andB (deq [.flt .f32 o] [.flt .f32 o]) true) (andB (andB (deq [.flt .f32 o] [.flt .f32 o]) true) true)) := by kernel_rfl
    rw [deq_self] at h
    exact h
  · simp [Tr.get, delit]

set_option maxRecDepth 100000 in
theorem lifted (os : Os) (started : os.Started) (H : Type) (enc : TypeId × Value → H) :
    ReturnsInHanded {} Try.checked os 3 .any (Rows.fnExactToCountSpec.pre6 enc Try.prog Try.f3 Rows.fnExactToCountRow.domain false) (Rows.fnExactToCountSpec.post enc Try.prog Try.f3 false true false false) := by
  refine returnsInHanded_of_change (C := Try.checked) sxOwn started (by kernel_rfl) Try.func3
    (ChangeSpec.witness6 (enc := enc) (C := Try.checked) false ⟨#[], #[.float .f32 0], []⟩ 8 (by kernel_rfl) (by kernel_rfl) (by kernel_rfl) (by kernel_rfl)) ?_
  intro W base args ds gs before hval0 hW hcnd _
  have hval : ∀ (j : Nat) t v, Try.f3.params[j]? = some t → args[j]? = some v → Value.okWide Try.prog W .any base t v := hval0
  have hW' := hW
  obtain ⟨p, q, hA0, hV, rfl, hfz, hnd⟩ := hW
  have hA : DataW.TrodAll enc Try.prog W 0 (fun _ => true) true Try.f3.params.toList args.toList ds p := hA0
  rw [Try.params3] at hA hval
  obtain ⟨v0, vs0, d0, ds0, p0, q0, hargs, rfl, rfl, h0, r0⟩ := trodAll_cons hA
  obtain ⟨rfl, rfl, rfl⟩ := trodAll_nil r0
  obtain rfl : args = #[v0] := by cases args; simp_all
  obtain ⟨rfl, rfl⟩ := trodVars_none hV
  have hrel0 : HRel [] [] W := ⟨rfl, fun b x p h => by simp at h, fun b c x y p q _ h => by simp at h⟩
  have hro0 := ro_nil
  obtain ⟨l0, t0, e0⟩ := arg_cell (ρ := []) (k := .flt .f32) (hval 0 22 v0 rfl rfl) (by kernel_rfl)
  have k0 := h0
  have lt0 : ∀ x ∈ p0, x.block < W.heap.size := by obtain ⟨m, hm⟩ := k0; exact DataW.trod_lt m _ _ _ hm
  have hargs : VRels [] [l0] [v0] := by
    simp only [VRels]
    exact ⟨v0, _, rfl, e0, rfl⟩
  obtain ⟨lawK, lawK_ok, hlaw⟩ := law l0 t0
  refine (evF_true (K := lawK) (L := noL) (N := lawN) (d := lawD) sxApart sxMixed lawK_ok (fun _ _ _ _ => noL_ok) hlaw hrel0 hro0 hargs).mono fun e W' ⟨he, bel⟩ => ?_
  subst he
  exact ⟨_, rfl, _, _, _, [], _, [], hW', trodAll_mk1 (shut_bool Try.underlying4 _), (trodAll_cons_mk (Below.trod sxLaid (by kernel_rfl) (of_decide_eq_true (by kernel_rfl)) k0 bel lt0) trodAll_mk0), rfl, bel.frame _, fun h => by cases h⟩

theorem over : Rows.fnExactToCountRow.holds Try.pinned (OpenSpec.ofChange Rows.fnExactToCountSpec) :=
  OpenClaim.holds_of_wide 3 Try.f3 rfl rfl rfl rfl rfl rfl rfl ⟨rfl, rfl, rfl, rfl, rfl⟩ rfl rfl rfl rfl rfl (by kernel_rfl) Try.func3 (by kernel_rfl)
    (of_decide_eq_true (by kernel_rfl)) (by unfold Func.isWrapper; first | (rw [if_pos (by decide +kernel)]; kernel_rfl) | (rw [if_neg (by decide +kernel)]; exact ⟨rfl, rfl⟩))
    (fun os started H enc _ => lifted os started H enc)

/-- The statement. -/
theorem proved : Rows.FnExactToCountSaid := over
#print axioms proved
end Go.Proofs.Ytodbpecmaiidpaa.lawToCount
