/- The law 'FnExactTileOf': the program's TileOf returns what the reference's returns, for all arguments; no condition. -/
import Derived.Test.YtpechflfloolkaaRows
import Derived.WalkKit
import Derived.ProofKit
import Derived.OpenShut
import Derived.ChangeOld
import Derived.Below
import Derived.Test.YtpechflfloolkaaSxK1
import Derived.Test.YtpechflfloolkaaSxC6
namespace Go.Proofs.Ytpechflfloolkaa.lawTileOf
open Go.ChangeShapes Go.WideShapes Go.ChangeAt Go.RowKit Go.Sx
set_option linter.unusedVariables false
set_option linter.unusedSimpArgs false
set_option maxRecDepth 100000
def lawN : Nat := 20
def lawD : Nat := 8


def nums : List Int := [0, 8, 2, 10, 12, 4, 14, 6, 3, 11, 1, 9, 15, 7, 13, 5]
def cells (n : Int) : List Int → List AV
  | [] => []
  | c :: t => .bool (decide (c < n)) :: cells n t
def T (n : Int) : Tr (AV × Option (List Blk)) :=
  .node (!cond (decide (0 ≤ n)) (decide (n ≤ 16)) false) (.leaf (.tup [.agg (List.replicate 16 (.bool false)), .lit (.int .i64 2)], none)) (.leaf (.tup [.agg (cells n nums), .lit (.int .i64 0)], none))
def eqb : List Bool → Bool
  | [] => true
  | x :: t => cond (!(x == x)) false (eqb t)
theorem eqb_true : ∀ l, eqb l = true
  | [] => rfl
  | x :: t => by simp [eqb, eqb_true t]
def eqT (a b c d : List Bool) : Bool := cond (!eqb a) false (cond (!eqb b) false (cond (!eqb c) false (cond (!eqb d) false true)))

theorem law (l0 : AV) (t0 : LK.has (.int .i64) l0) :
    ∃ K, CallerTOk Try.prog K ∧ ∃ t, evF Try.prog K noL lawN lawD 5 [l0] [] = some (t, true) ∧ delit t.get.1 = .bool true := by
  obtain ⟨n, rfl, nL, nU⟩ := t0
  have hS : evF Try.prog extK noL lawN lawD 22 [.int .i64 n] [] = some (T n, true) := by kernel_rfl
  have hI : evF Try.prog extK noL lawN lawD 23 [.int .i64 n] [] = some (T n, true) := by kernel_rfl
  obtain ⟨w0, w1, w2, w3, w4, w5, w6, w7, w8, w9, w10, w11, w12, w13, w14, w15, c, hw⟩ : ∃ w0 w1 w2 w3 w4 w5 w6 w7 w8 w9 w10 w11 w12 w13 w14 w15 : Bool, ∃ c : Int, delitD (T n).get.1 = .tup [.agg (List.map AV.bool [w0, w1, w2, w3, w4, w5, w6, w7, w8, w9, w10, w11, w12, w13, w14, w15]), .int .i64 c] := by
    unfold T Tr.get
    cases (!cond (decide (0 ≤ n)) (decide (n ≤ 16)) false)
    · exact ⟨_, _, _, _, _, _, _, _, _, _, _, _, _, _, _, _, _, rfl⟩
    · exact ⟨_, _, _, _, _, _, _, _, _, _, _, _, _, _, _, _, _, rfl⟩
  have kS := sum_at0 (L := noL) sxApart sxMixed extK_ok (fun _ _ _ _ => noL_ok) hS (by kernel_rfl) (T := .leaf (.tup [.agg (List.map AV.bool [w0, w1, w2, w3, w4, w5, w6, w7, w8, w9, w10, w11, w12, w13, w14, w15]), .int .i64 c], none)) (fun _ => hw) (fun _ => ⟨rfl, rfl⟩)
  have kI := sum_at0 (L := noL) sxApart sxMixed extK_ok (fun _ _ _ _ => noL_ok) hI (by kernel_rfl) (T := .leaf (.tup [.agg (List.map AV.bool [w0, w1, w2, w3, w4, w5, w6, w7, w8, w9, w10, w11, w12, w13, w14, w15]), .int .i64 c], none)) (fun _ => hw) (fun _ => ⟨rfl, rfl⟩)
  refine ⟨addK 22 _ (addK 23 _ extK), addK_ok kS (addK_ok kI extK_ok), .leaf (.bool (cond (cond (!eqT [w0, w1, w2, w3] [w4, w5, w6, w7] [w8, w9, w10, w11] [w12, w13, w14, w15]) true (c != c)) false true), none), ?_, ?_⟩
  · have h : evF Try.prog (addK 22 (runAt [.int .i64 n] (.leaf (.tup [.agg (List.map AV.bool [w0, w1, w2, w3, w4, w5, w6, w7, w8, w9, w10, w11, w12, w13, w14, w15]), .int .i64 c], none)) true) (addK 23 (runAt [.int .i64 n] (.leaf (.tup [.agg (List.map AV.bool [w0, w1, w2, w3, w4, w5, w6, w7, w8, w9, w10, w11, w12, w13, w14, w15]), .int .i64 c], none)) true) extK)) noL lawN lawD 5 [.int .i64 n] [] = some (.leaf (.bool (cond (cond (!eqT [w0, w1, w2, w3] [w4, w5, w6, w7] [w8, w9, w10, w11] [w12, w13, w14, w15]) true (c != c)) false true), none), andB (andB (deq [.int .i64 n] [.int .i64 n]) true) (andB (andB (deq [.int .i64 n] [.int .i64 n]) true) true)) := by kernel_rfl
    rw [deq_self] at h
    exact h
  · simp [Tr.get, delit, eqT, eqb_true]

set_option maxRecDepth 100000 in
theorem lifted (os : Os) (started : os.Started) (H : Type) (enc : TypeId × Value → H) :
    ReturnsInHanded {} Try.checked os 5 .any (Rows.fnExactTileOfSpec.pre6 enc Try.prog Try.f5 Rows.fnExactTileOfRow.domain false) (Rows.fnExactTileOfSpec.post enc Try.prog Try.f5 false true false false) := by
  refine returnsInHanded_of_change (C := Try.checked) sxOwn started (by kernel_rfl) Try.func5
    (ChangeSpec.witness6 (enc := enc) (C := Try.checked) false ⟨#[], #[.int .i64 0], []⟩ 8 (by kernel_rfl) (by kernel_rfl) (by kernel_rfl) (by kernel_rfl)) ?_
  intro W base args ds gs before hval0 hW hcnd _
  have hval : ∀ (j : Nat) t v, Try.f5.params[j]? = some t → args[j]? = some v → Value.okWide Try.prog W .any base t v := hval0
  have hW' := hW
  obtain ⟨p, q, hA0, hV, rfl, hfz, hnd⟩ := hW
  have hA : DataW.TrodAll enc Try.prog W 0 (fun _ => true) true Try.f5.params.toList args.toList ds p := hA0
  rw [Try.params5] at hA hval
  obtain ⟨v0, vs0, d0, ds0, p0, q0, hargs, rfl, rfl, h0, r0⟩ := trodAll_cons hA
  obtain ⟨rfl, rfl, rfl⟩ := trodAll_nil r0
  obtain rfl : args = #[v0] := by cases args; simp_all
  obtain ⟨rfl, rfl⟩ := trodVars_none hV
  obtain ⟨l0, t0, e0⟩ := arg_cell (ρ := []) (k := .int .i64) (hval 0 2 v0 rfl rfl) (by kernel_rfl)
  have k0 := h0
  have lt0 : ∀ x ∈ p0, x.block < W.heap.size := by obtain ⟨m, hm⟩ := k0; exact DataW.trod_lt m _ _ _ hm
  have hrel : HRel [] [] W := ⟨rfl, fun b x p h => by simp at h, fun b c x y p q _ h => by simp at h⟩
  have hargs : VRels [] [l0] [v0] := by
    simp only [VRels]
    exact ⟨v0, _, rfl, e0, rfl⟩
  obtain ⟨lawK, lawK_ok, hlaw⟩ := law l0 t0
  refine (evF_true (K := lawK) (L := noL) (N := lawN) (d := lawD) sxApart sxMixed lawK_ok (fun _ _ _ _ => noL_ok) hlaw hrel (fun b x h => by simp at h) hargs).mono fun e W' ⟨he, bel⟩ => ?_
  subst he
  exact ⟨_, rfl, _, _, _, [], _, [], hW', trodAll_mk1 (shut_bool Try.underlying4 _), (trodAll_cons_mk (Below.trod sxLaid (by kernel_rfl) (of_decide_eq_true (by kernel_rfl)) k0 bel lt0) trodAll_mk0), rfl, bel.frame _, fun h => by cases h⟩

theorem over : Rows.fnExactTileOfRow.holds Try.pinned (OpenSpec.ofChange Rows.fnExactTileOfSpec) :=
  OpenClaim.holds_of_wide 5 Try.f5 rfl rfl rfl rfl rfl rfl rfl ⟨rfl, rfl, rfl, rfl, rfl⟩ rfl rfl rfl rfl rfl (by kernel_rfl) Try.func5 (by kernel_rfl)
    (of_decide_eq_true (by kernel_rfl)) (by unfold Func.isWrapper; first | (rw [if_pos (by decide +kernel)]; kernel_rfl) | (rw [if_neg (by decide +kernel)]; exact ⟨rfl, rfl⟩))
    (fun os started H enc _ => lifted os started H enc)

/-- The statement. -/
theorem proved : Rows.FnExactTileOfSaid := over
#print axioms proved
end Go.Proofs.Ytpechflfloolkaa.lawTileOf
