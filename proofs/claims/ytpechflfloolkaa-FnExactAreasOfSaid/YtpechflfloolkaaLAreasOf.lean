/- The law 'FnExactAreasOf': the program's AreasOf returns what the reference's returns, for all arguments; no condition. -/
import Derived.Test.YtpechflfloolkaaRows
import Derived.WalkKit
import Derived.ProofKit
import Derived.OpenShut
import Derived.ChangeOld
import Derived.Below
import Derived.Test.YtpechflfloolkaaSxK1
import Derived.Test.YtpechflfloolkaaSxC5
namespace Go.Proofs.Ytpechflfloolkaa.lawAreasOf
open Go.ChangeShapes Go.WideShapes Go.ChangeAt Go.RowKit Go.Sx
set_option linter.unusedVariables false
set_option linter.unusedSimpArgs false
set_option maxRecDepth 100000
def lawN : Nat := 20
def lawD : Nat := 8

open Go.Sx.C5 Go.Sx.C1

noncomputable def mu (a b : Option Nat) : Option Nat := fop .mul .f32 a b
noncomputable def ar (x : Bool) (a : Option Nat) : Option Nat := cond x a (fop .sub .f32 (some 1065353216) a)
noncomputable def areas (a b c d : Option Nat) : List (Option Nat) := [mu (mu (mu (ar false a) (ar false b)) (ar false c)) (ar false d),
  mu (mu (mu (ar true a) (ar false b)) (ar false c)) (ar false d),
  mu (mu (mu (ar false a) (ar true b)) (ar false c)) (ar false d),
  mu (mu (mu (ar true a) (ar true b)) (ar false c)) (ar false d),
  mu (mu (mu (ar false a) (ar false b)) (ar true c)) (ar false d),
  mu (mu (mu (ar true a) (ar false b)) (ar true c)) (ar false d),
  mu (mu (mu (ar false a) (ar true b)) (ar true c)) (ar false d),
  mu (mu (mu (ar true a) (ar true b)) (ar true c)) (ar false d),
  mu (mu (mu (ar false a) (ar false b)) (ar false c)) (ar true d),
  mu (mu (mu (ar true a) (ar false b)) (ar false c)) (ar true d),
  mu (mu (mu (ar false a) (ar true b)) (ar false c)) (ar true d),
  mu (mu (mu (ar true a) (ar true b)) (ar false c)) (ar true d),
  mu (mu (mu (ar false a) (ar false b)) (ar true c)) (ar true d),
  mu (mu (mu (ar true a) (ar false b)) (ar true c)) (ar true d),
  mu (mu (mu (ar false a) (ar true b)) (ar true c)) (ar true d),
  mu (mu (mu (ar true a) (ar true b)) (ar true c)) (ar true d)]
noncomputable def cov (a b c d : Option Nat) : Bool := cond (cond (cond (sh a) (sh b) false) (sh c) false) (sh d) false
noncomputable def covI (a b c d : Option Nat) : Bool := cond (!sh a) false (cond (!sh b) false (cond (!sh c) false (cond (!sh d) false true)))
theorem covI_cov (a b c d : Option Nat) : covI a b c d = cov a b c d := by unfold covI cov; cases sh a <;> cases sh b <;> cases sh c <;> cases sh d <;> rfl
noncomputable def T (g : Bool) (a b c d : Option Nat) : Tr (AV × Option (List Blk)) :=
  .node (!g) (.leaf (.tup [.agg (List.replicate 16 (.flt .f32 (some 0))), .lit (.int .i64 1)], none)) (.leaf (.tup [.agg (List.map (AV.flt .f32) (areas a b c d)), .lit (.int .i64 0)], none))

theorem law (l0 : List AV) (t0 : Typed (List.replicate 4 (.flt .f32)) l0) :
    ∃ K, CallerTOk Try.prog K ∧ ∃ t, evF Try.prog K noL lawN lawD 7 [.agg l0] [] = some (t, true) ∧ delit t.get.1 = .bool true := by
  obtain ⟨_, _, rfl, ⟨a0, rfl, a0K⟩, t0⟩ := t0
  obtain ⟨_, _, rfl, ⟨a1, rfl, a1K⟩, t0⟩ := t0
  obtain ⟨_, _, rfl, ⟨a2, rfl, a2K⟩, t0⟩ := t0
  obtain ⟨_, _, rfl, ⟨a3, rfl, a3K⟩, t0⟩ := t0
  have t0 := (t0 : _ = [])
  subst t0
  have hS : evF Try.prog extK noL lawN lawD 29 [.agg (List.map (AV.flt .f32) [a0, a1, a2, a3])] [] = some (T (cov a0 a1 a2 a3) a0 a1 a2 a3, true) := by kernel_rfl
  have hI : evF Try.prog extK noL lawN lawD 30 [.agg (List.map (AV.flt .f32) [a0, a1, a2, a3])] [] = some (T (covI a0 a1 a2 a3) a0 a1 a2 a3, true) := by kernel_rfl
  rw [covI_cov] at hI
  obtain ⟨w0, w1, w2, w3, w4, w5, w6, w7, w8, w9, w10, w11, w12, w13, w14, w15, c, hw⟩ : ∃ (w0 w1 w2 w3 w4 w5 w6 w7 w8 w9 w10 w11 w12 w13 w14 w15 : Option Nat) (c : Int), delitD (T (cov a0 a1 a2 a3) a0 a1 a2 a3).get.1 = .tup [.agg (List.map (AV.flt .f32) [w0, w1, w2, w3, w4, w5, w6, w7, w8, w9, w10, w11, w12, w13, w14, w15]), .int .i64 c] := by
    unfold T Tr.get
    cases cov a0 a1 a2 a3
    · exact ⟨_, _, _, _, _, _, _, _, _, _, _, _, _, _, _, _, _, rfl⟩
    · exact ⟨_, _, _, _, _, _, _, _, _, _, _, _, _, _, _, _, _, rfl⟩
  have kS := sum_at0 (L := noL) sxApart sxMixed extK_ok (fun _ _ _ _ => noL_ok) hS (by kernel_rfl) (T := .leaf (.tup [.agg (List.map (AV.flt .f32) [w0, w1, w2, w3, w4, w5, w6, w7, w8, w9, w10, w11, w12, w13, w14, w15]), .int .i64 c], none)) (fun _ => hw) (fun _ => ⟨rfl, rfl⟩)
  have kI := sum_at0 (L := noL) sxApart sxMixed extK_ok (fun _ _ _ _ => noL_ok) hI (by kernel_rfl) (T := .leaf (.tup [.agg (List.map (AV.flt .f32) [w0, w1, w2, w3, w4, w5, w6, w7, w8, w9, w10, w11, w12, w13, w14, w15]), .int .i64 c], none)) (fun _ => hw) (fun _ => ⟨rfl, rfl⟩)
  refine ⟨addK 29 _ (addK 30 _ extK), addK_ok kS (addK_ok kI extK_ok), .leaf (.bool (cond (cond (!sfL [w0, w1, w2, w3, w4, w5, w6, w7, w8, w9, w10, w11, w12, w13, w14, w15]) true (c != c)) false true), none), ?_, ?_⟩
  · have h : evF Try.prog (addK 29 (runAt [.agg (List.map (AV.flt .f32) [a0, a1, a2, a3])] (.leaf (.tup [.agg (List.map (AV.flt .f32) [w0, w1, w2, w3, w4, w5, w6, w7, w8, w9, w10, w11, w12, w13, w14, w15]), .int .i64 c], none)) true) (addK 30 (runAt [.agg (List.map (AV.flt .f32) [a0, a1, a2, a3])] (.leaf (.tup [.agg (List.map (AV.flt .f32) [w0, w1, w2, w3, w4, w5, w6, w7, w8, w9, w10, w11, w12, w13, w14, w15]), .int .i64 c], none)) true) extK)) noL lawN lawD 7 [.agg (List.map (AV.flt .f32) [a0, a1, a2, a3])] [] = some (.leaf (.bool (cond (cond (!sfL [w0, w1, w2, w3, w4, w5, w6, w7, w8, w9, w10, w11, w12, w13, w14, w15]) true (c != c)) false true), none), andB (andB (deq [.agg (List.map (AV.flt .f32) [a0, a1, a2, a3])] [.agg (List.map (AV.flt .f32) [a0, a1, a2, a3])]) true) (andB (andB (deq [.agg (List.map (AV.flt .f32) [a0, a1, a2, a3])] [.agg (List.map (AV.flt .f32) [a0, a1, a2, a3])]) true) true)) := by kernel_rfl
    rw [deq_self] at h
    exact h
  · simp [Tr.get, delit, sfL_true]

set_option maxRecDepth 100000 in
theorem lifted (os : Os) (started : os.Started) (H : Type) (enc : TypeId × Value → H) :
    ReturnsInHanded {} Try.checked os 7 .any (Rows.fnExactAreasOfSpec.pre6 enc Try.prog Try.f7 Rows.fnExactAreasOfRow.domain false) (Rows.fnExactAreasOfSpec.post enc Try.prog Try.f7 false true false false) := by
  refine returnsInHanded_of_change (C := Try.checked) sxOwn started (by kernel_rfl) Try.func7
    (ChangeSpec.witness6 (enc := enc) (C := Try.checked) false ⟨#[], #[.agg #[.float .f32 0, .float .f32 0, .float .f32 0, .float .f32 0]], []⟩ 8 (by kernel_rfl) (by kernel_rfl) (by kernel_rfl) (by kernel_rfl)) ?_
  intro W base args ds gs before hval0 hW hcnd _
  have hval : ∀ (j : Nat) t v, Try.f7.params[j]? = some t → args[j]? = some v → Value.okWide Try.prog W .any base t v := hval0
  have hW' := hW
  obtain ⟨p, q, hA0, hV, rfl, hfz, hnd⟩ := hW
  have hA : DataW.TrodAll enc Try.prog W 0 (fun _ => true) true Try.f7.params.toList args.toList ds p := hA0
  rw [Try.params7] at hA hval
  obtain ⟨v0, vs0, d0, ds0, p0, q0, hargs, rfl, rfl, h0, r0⟩ := trodAll_cons hA
  obtain ⟨rfl, rfl, rfl⟩ := trodAll_nil r0
  obtain rfl : args = #[v0] := by cases args; simp_all
  obtain ⟨rfl, rfl⟩ := trodVars_none hV
  obtain ⟨l0, t0, e0⟩ := arg_agg (ρ := []) (ts := [22, 22, 22, 22]) (ks := [.flt .f32, .flt .f32, .flt .f32, .flt .f32]) (hval 0 43 v0 rfl rfl) (by kernel_rfl) (by kernel_rfl) (by kernel_rfl) (by kernel_rfl)
  have k0 := h0
  have lt0 : ∀ x ∈ p0, x.block < W.heap.size := by obtain ⟨m, hm⟩ := k0; exact DataW.trod_lt m _ _ _ hm
  have hrel : HRel [] [] W := ⟨rfl, fun b x p h => by simp at h, fun b c x y p q _ h => by simp at h⟩
  have hargs : VRels [] [.agg l0] [v0] := by
    simp only [VRels]
    exact ⟨v0, _, rfl, e0, rfl⟩
  obtain ⟨lawK, lawK_ok, hlaw⟩ := law l0 t0
  refine (evF_true (K := lawK) (L := noL) (N := lawN) (d := lawD) sxApart sxMixed lawK_ok (fun _ _ _ _ => noL_ok) hlaw hrel (fun b x h => by simp at h) hargs).mono fun e W' ⟨he, bel⟩ => ?_
  subst he
  exact ⟨_, rfl, _, _, _, [], _, [], hW', trodAll_mk1 (shut_bool Try.underlying4 _), (trodAll_cons_mk (Below.trod sxLaid (by kernel_rfl) (of_decide_eq_true (by kernel_rfl)) k0 bel lt0) trodAll_mk0), rfl, bel.frame _, fun h => by cases h⟩

theorem over : Rows.fnExactAreasOfRow.holds Try.pinned (OpenSpec.ofChange Rows.fnExactAreasOfSpec) :=
  OpenClaim.holds_of_wide 7 Try.f7 rfl rfl rfl rfl rfl rfl rfl ⟨rfl, rfl, rfl, rfl, rfl⟩ rfl rfl rfl rfl rfl (by kernel_rfl) Try.func7 (by kernel_rfl)
    (of_decide_eq_true (by kernel_rfl)) (by unfold Func.isWrapper; first | (rw [if_pos (by decide +kernel)]; kernel_rfl) | (rw [if_neg (by decide +kernel)]; exact ⟨rfl, rfl⟩))
    (fun os started H enc _ => lifted os started H enc)

/-- The statement. -/
theorem proved : Rows.FnExactAreasOfSaid := over
#print axioms proved
end Go.Proofs.Ytpechflfloolkaa.lawAreasOf
