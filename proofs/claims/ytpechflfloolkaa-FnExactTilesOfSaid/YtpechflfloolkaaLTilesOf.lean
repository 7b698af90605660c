/- The law 'FnExactTilesOf': the program's TilesOf returns what the reference's returns, for all arguments; no condition. -/
import Derived.Test.YtpechflfloolkaaRows
import Derived.WalkKit
import Derived.ProofKit
import Derived.OpenShut
import Derived.ChangeOld
import Derived.Below
import Derived.Test.YtpechflfloolkaaSxK2
import Derived.Test.YtpechflfloolkaaSxFr
import Derived.Test.YtpechflfloolkaaSxK2
import Derived.Test.YtpechflfloolkaaSxFr
import Derived.Test.YtpechflfloolkaaSxC5
namespace Go.Proofs.Ytpechflfloolkaa.lawTilesOf
open Go.ChangeShapes Go.WideShapes Go.ChangeAt Go.RowKit Go.Sx
set_option linter.unusedVariables false
set_option linter.unusedSimpArgs false
set_option maxRecDepth 100000
def lawN : Nat := 20
def lawD : Nat := 8

open Go.Sx.C5 Go.Sx.C1 Go.Sx.Fl

/-- the numbers of the places of the tiles, each tile turned -/
def pl : List Int := [0, 8, 2, 10, 12, 4, 14, 6, 3, 11, 1, 9, 15, 7, 13, 5, 15, 3, 12, 0, 7, 11, 4, 8, 13, 1, 14, 2, 5, 9, 6, 10, 5, 13, 7, 15, 9, 1, 11, 3, 6, 14, 4, 12, 10, 2, 8, 0, 10, 6, 9, 5, 2, 14, 1, 13, 8, 4, 11, 7, 0, 12, 3, 15]
def bl (w : Nat → Bool) : List AV := [.bool (w 0), .bool (w 1), .bool (w 2), .bool (w 3), .bool (w 4), .bool (w 5), .bool (w 6), .bool (w 7), .bool (w 8), .bool (w 9), .bool (w 10), .bool (w 11), .bool (w 12), .bool (w 13), .bool (w 14), .bool (w 15), .bool (w 16), .bool (w 17), .bool (w 18), .bool (w 19), .bool (w 20), .bool (w 21), .bool (w 22), .bool (w 23), .bool (w 24), .bool (w 25), .bool (w 26), .bool (w 27), .bool (w 28), .bool (w 29), .bool (w 30), .bool (w 31), .bool (w 32), .bool (w 33), .bool (w 34), .bool (w 35), .bool (w 36), .bool (w 37), .bool (w 38), .bool (w 39), .bool (w 40), .bool (w 41), .bool (w 42), .bool (w 43), .bool (w 44), .bool (w 45), .bool (w 46), .bool (w 47), .bool (w 48), .bool (w 49), .bool (w 50), .bool (w 51), .bool (w 52), .bool (w 53), .bool (w 54), .bool (w 55), .bool (w 56), .bool (w 57), .bool (w 58), .bool (w 59), .bool (w 60), .bool (w 61), .bool (w 62), .bool (w 63)]
noncomputable def lev (a : Option Nat) : Int := ftoI .f64 .i64 (fint .even (fwide (mu (some 1098907648) a)))
noncomputable def levs (a b c d : Option Nat) (i : Nat) : Int := ([lev a, lev b, lev c, lev d] : List Int).getD i 0
noncomputable def val (a b c d : Option Nat) (j : Nat) : Bool := decide (pl.getD j 0 < levs a b c d (j / 16))
noncomputable def TS (g : Bool) (a b c d : Option Nat) : Tr (AV × Option (List Blk)) :=
  .node (!g) (.leaf (.tup [.agg (bl fun _ => false), .lit (.int .i64 1)], none)) (.leaf (.tup [.agg (bl (val a b c d)), .lit (.int .i64 0)], none))
noncomputable def okL (a : Option Nat) : Bool := ftoIOk .f64 .i64 (fint .even (fwide (mu (some 1098907648) a)))
theorem NV_16 : NV (some 1098907648) (16 * 2 ^ 1074) := NV.of ⟨2 ^ 23, -19, by decide +kernel, by decide, by decide +kernel⟩
theorem share {o : Option Nat} (ho : FOk .f32 o) (h : sh o = true) : LE 1 o := by
  obtain ⟨h1, h2⟩ := cond_t h
  obtain ⟨b, _, hb⟩ := ho
  have hor : o = none ∨ ∃ x, o = some x ∧ (FloatKind.f32.decode x).isNaN = false := by
    unfold nrm at hb
    cases h : (FloatKind.f32.decode b).isNaN with
    | true => rw [h] at hb; exact .inl hb.symm
    | false => rw [h] at hb; exact .inr ⟨b, hb.symm, h⟩
  exact LE_of_cmp hor NV_one h1 h2
theorem okL_true {o : Option Nat} (ho : FOk .f32 o) (h : sh o = true) : okL o = true := ftoI_ok (LE.mul (j := 16) (k := 1) ⟨_, NV_16, Nat.le_refl _⟩ (share ho h) (by decide)) (by decide)
noncomputable def ob (g : Bool) (a b c d : Option Nat) : Bool := impB (!!g) (andB (okL a) (andB (okL b) (andB (okL c) (andB (okL d) true))))
theorem ob_true {a b c d : Option Nat} (ha : FOk .f32 a) (hb : FOk .f32 b) (hc : FOk .f32 c) (hd : FOk .f32 d) : ob (cov a b c d) a b c d = true := by
  unfold ob
  cases hg : cov a b c d with
  | false => cases (andB (okL a) (andB (okL b) (andB (okL c) (andB (okL d) true)))) <;> rfl
  | true =>
    obtain ⟨hg, gd⟩ := cond_t hg
    obtain ⟨hg, gc⟩ := cond_t hg
    obtain ⟨ga, gb⟩ := cond_t hg
    rw [okL_true ha ga, okL_true hb gb, okL_true hc gc, okL_true hd gd]
    rfl
def eqR (w : Nat → Bool) (i : Nat) : Bool := cond (w i != w i) false (cond (w (i + 1) != w (i + 1)) false (cond (w (i + 2) != w (i + 2)) false (cond (w (i + 3) != w (i + 3)) false true)))
def eqT (w : Nat → Bool) (i : Nat) : Bool := cond (!eqR w i) false (cond (!eqR w (i + 4)) false (cond (!eqR w (i + 8)) false (cond (!eqR w (i + 12)) false true)))
def eqA (w : Nat → Bool) : Bool := cond (!eqT w 0) false (cond (!eqT w 16) false (cond (!eqT w 32) false (cond (!eqT w 48) false true)))
theorem eqA_true (w : Nat → Bool) : eqA w = true := by simp [eqA, eqT, eqR]

theorem law (l0 : List AV) (t0 : Typed (List.replicate 4 (.flt .f32)) l0) :
    ∃ K, CallerTOk Try.prog K ∧ ∃ t, evF Try.prog K noL lawN lawD 11 [.agg l0] [] = some (t, true) ∧ delit t.get.1 = .bool true := by
  obtain ⟨_, _, rfl, ⟨x0, rfl, x0K⟩, t0⟩ := t0
  obtain ⟨_, _, rfl, ⟨x1, rfl, x1K⟩, t0⟩ := t0
  obtain ⟨_, _, rfl, ⟨x2, rfl, x2K⟩, t0⟩ := t0
  obtain ⟨_, _, rfl, ⟨x3, rfl, x3K⟩, t0⟩ := t0
  have t0 := (t0 : _ = [])
  subst t0
  have hS : evF Try.prog finK noL lawN lawD 40 [.agg (List.map (AV.flt .f32) [x0, x1, x2, x3])] [] = some (TS (cov x0 x1 x2 x3) x0 x1 x2 x3, ob (cov x0 x1 x2 x3) x0 x1 x2 x3) := by kernel_rfl
  have hI : evF Try.prog finK noL lawN lawD 41 [.agg (List.map (AV.flt .f32) [x0, x1, x2, x3])] [] = some (TS (covI x0 x1 x2 x3) x0 x1 x2 x3, ob (covI x0 x1 x2 x3) x0 x1 x2 x3) := by kernel_rfl
  rw [covI_cov] at hI
  rw [ob_true x0K x1K x2K x3K] at hS hI
  obtain ⟨w, e, hw⟩ : ∃ (w : Nat → Bool) (e : Int), delitD (TS (cov x0 x1 x2 x3) x0 x1 x2 x3).get.1 = .tup [.agg (bl w), .int .i64 e] := by
    unfold TS Tr.get
    cases !cov x0 x1 x2 x3
    · exact ⟨_, _, rfl⟩
    · exact ⟨_, _, rfl⟩
  have kS := sum_at0 (L := noL) sxApart sxMixed finK_ok (fun _ _ _ _ => noL_ok) hS (by kernel_rfl) (T := .leaf (.tup [.agg (bl w), .int .i64 e], none)) (fun _ => hw) (fun _ => ⟨rfl, rfl⟩)
  have kI := sum_at0 (L := noL) sxApart sxMixed finK_ok (fun _ _ _ _ => noL_ok) hI (by kernel_rfl) (T := .leaf (.tup [.agg (bl w), .int .i64 e], none)) (fun _ => hw) (fun _ => ⟨rfl, rfl⟩)
  refine ⟨addK 40 _ (addK 41 _ extK), addK_ok kS (addK_ok kI extK_ok), .leaf (.bool (cond (cond (!eqA w) true (e != e)) false true), none), ?_, ?_⟩
  · have h : evF Try.prog (addK 40 (runAt [.agg (List.map (AV.flt .f32) [x0, x1, x2, x3])] (.leaf (.tup [.agg (bl w), .int .i64 e], none)) true) (addK 41 (runAt [.agg (List.map (AV.flt .f32) [x0, x1, x2, x3])] (.leaf (.tup [.agg (bl w), .int .i64 e], none)) true) extK)) noL lawN lawD 11 [.agg (List.map (AV.flt .f32) [x0, x1, x2, x3])] [] = some (.leaf (.bool (cond (cond (!eqA w) true (e != e)) false true), none), andB (andB (deq [.agg (List.map (AV.flt .f32) [x0, x1, x2, x3])] [.agg (List.map (AV.flt .f32) [x0, x1, x2, x3])]) true) (andB (andB (deq [.agg (List.map (AV.flt .f32) [x0, x1, x2, x3])] [.agg (List.map (AV.flt .f32) [x0, x1, x2, x3])]) true) true)) := by kernel_rfl
    rw [deq_self] at h
    exact h
  · simp [Tr.get, delit, eqA_true]

set_option maxRecDepth 100000 in
theorem lifted (os : Os) (started : os.Started) (H : Type) (enc : TypeId × Value → H) :
    ReturnsInHanded {} Try.checked os 11 .any (Rows.fnExactTilesOfSpec.pre6 enc Try.prog Try.f11 Rows.fnExactTilesOfRow.domain false) (Rows.fnExactTilesOfSpec.post enc Try.prog Try.f11 false true false false) := by
  refine returnsInHanded_of_change (C := Try.checked) sxOwn started (by kernel_rfl) Try.func11
    (ChangeSpec.witness6 (enc := enc) (C := Try.checked) false ⟨#[], #[.agg #[.float .f32 0, .float .f32 0, .float .f32 0, .float .f32 0]], []⟩ 8 (by kernel_rfl) (by kernel_rfl) (by kernel_rfl) (by kernel_rfl)) ?_
  intro W base args ds gs before hval0 hW hcnd _
  have hval : ∀ (j : Nat) t v, Try.f11.params[j]? = some t → args[j]? = some v → Value.okWide Try.prog W .any base t v := hval0
  have hW' := hW
  obtain ⟨p, q, hA0, hV, rfl, hfz, hnd⟩ := hW
  have hA : DataW.TrodAll enc Try.prog W 0 (fun _ => true) true Try.f11.params.toList args.toList ds p := hA0
  rw [Try.params11] at hA hval
  obtain ⟨v0, vs0, d0, ds0, p0, q0, hargs, rfl, rfl, h0, r0⟩ := trodAll_cons hA
  obtain ⟨rfl, rfl, rfl⟩ := trodAll_nil r0
  obtain rfl : args = #[v0] := by cases args; simp_all
  obtain ⟨rfl, rfl⟩ := trodVars_none hV
  have hrel0 : HRel [] [] W := ⟨rfl, fun b x p h => by simp at h, fun b c x y p q _ h => by simp at h⟩
  have hro0 := ro_nil
  obtain ⟨l0, t0, e0⟩ := arg_agg (ρ := []) (ts := [22, 22, 22, 22]) (ks := [.flt .f32, .flt .f32, .flt .f32, .flt .f32]) (hval 0 43 v0 rfl rfl) (by kernel_rfl) (by kernel_rfl) (by kernel_rfl) (by kernel_rfl)
  have k0 := h0
  have lt0 : ∀ x ∈ p0, x.block < W.heap.size := by obtain ⟨m, hm⟩ := k0; exact DataW.trod_lt m _ _ _ hm
  have hargs : VRels [] [.agg l0] [v0] := by
    simp only [VRels]
    exact ⟨v0, _, rfl, e0, rfl⟩
  obtain ⟨lawK, lawK_ok, hlaw⟩ := law l0 t0
  refine (evF_true (K := lawK) (L := noL) (N := lawN) (d := lawD) sxApart sxMixed lawK_ok (fun _ _ _ _ => noL_ok) hlaw hrel0 hro0 hargs).mono fun e W' ⟨he, bel⟩ => ?_
  subst he
  exact ⟨_, rfl, _, _, _, [], _, [], hW', trodAll_mk1 (shut_bool Try.underlying4 _), (trodAll_cons_mk (Below.trod sxLaid (by kernel_rfl) (of_decide_eq_true (by kernel_rfl)) k0 bel lt0) trodAll_mk0), rfl, bel.frame _, fun h => by cases h⟩

theorem over : Rows.fnExactTilesOfRow.holds Try.pinned (OpenSpec.ofChange Rows.fnExactTilesOfSpec) :=
  OpenClaim.holds_of_wide 11 Try.f11 rfl rfl rfl rfl rfl rfl rfl ⟨rfl, rfl, rfl, rfl, rfl⟩ rfl rfl rfl rfl rfl (by kernel_rfl) Try.func11 (by kernel_rfl)
    (of_decide_eq_true (by kernel_rfl)) (by unfold Func.isWrapper; first | (rw [if_pos (by decide +kernel)]; kernel_rfl) | (rw [if_neg (by decide +kernel)]; exact ⟨rfl, rfl⟩))
    (fun os started H enc _ => lifted os started H enc)

/-- The statement. -/
theorem proved : Rows.FnExactTilesOfSaid := over
#print axioms proved
end Go.Proofs.Ytpechflfloolkaa.lawTilesOf
