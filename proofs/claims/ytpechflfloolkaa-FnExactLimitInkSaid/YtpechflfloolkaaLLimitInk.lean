/- The law 'FnExactLimitInk': the program's LimitInk returns what the reference's returns, for all arguments; no condition. -/
import Derived.Test.YtpechflfloolkaaRows
import Derived.WalkKit
import Derived.ProofKit
import Derived.OpenShut
import Derived.ChangeOld
import Derived.Below
import Derived.Test.YtpechflfloolkaaSxK2
import Derived.Test.YtpechflfloolkaaSxFr
import Derived.Test.YtpechflfloolkaaSxC5
namespace Go.Proofs.Ytpechflfloolkaa.lawLimitInk
open Go.ChangeShapes Go.WideShapes Go.ChangeAt Go.RowKit Go.Sx
set_option linter.unusedVariables false
set_option linter.unusedSimpArgs false
set_option maxRecDepth 100000
def lawN : Nat := 20
def lawD : Nat := 8

open Go.Sx.C5 Go.Sx.C1 Go.Sx.Fl
set_option exponentiation.threshold 3000

def z4 : AV := .agg (List.replicate 4 (.flt .f32 (some 0)))
noncomputable def s3 (a b c : Option Nat) : Option Nat := fop .add .f32 (fop .add .f32 a b) c
noncomputable def ink (a b c d : Option Nat) : Option Nat := fop .add .f32 (s3 a b c) d
noncomputable def rg (l : Option Nat) : Bool := cond (fcmp .geq .f32 l (some 0)) (fcmp .leq .f32 l (some 1082130432)) false
noncomputable def lm (x a b c d l : Option Nat) : Option Nat := mu x (fop .quo .f32 (fop .sub .f32 l d) (s3 a b c))
noncomputable def idx4 (a b c d : Option Nat) : Int := cond (!finS a) 0 (cond (!finS b) 1 (cond (!finS c) 2 (cond (!finS d) 3 (-1))))
noncomputable def TR (g r : Bool) (a b c d l : Option Nat) (rest : Tr (AV × Option (List Blk))) : Tr (AV × Option (List Blk)) :=
  .node (!g) (.leaf (.tup [z4, .lit (.int .i64 1)], none)) (.node (!r) (.leaf (.tup [z4, .lit (.int .i64 2)], none)) (.node (fcmp .leq .f32 (ink a b c d) l) (.leaf (.tup [.agg (List.map (AV.flt .f32) [a, b, c, d]), .lit (.int .i64 0)], none))
    (.node (fcmp .geq .f32 d l) (.leaf (.tup [.agg (List.map (AV.flt .f32) [some 0, some 0, some 0, l]), .lit (.int .i64 0)], none)) rest)))
noncomputable def TS (a b c d l : Option Nat) : Tr (AV × Option (List Blk)) := TR (cov a b c d) (rg l) a b c d l (.leaf (.tup [.agg (List.map (AV.flt .f32) [lm a a b c d l, lm b a b c d l, lm c a b c d l, d]), .lit (.int .i64 0)], none))
noncomputable def TI (a b c d l : Option Nat) : Tr (AV × Option (List Blk)) := TR (covI a b c d) (rg l) a b c d l
  (.node (!!decide (idx4 (lm a a b c d l) (lm b a b c d l) (lm c a b c d l) d ≥ 0)) (.leaf (.tup [z4, .lit (.int .i64 4)], none)) (.leaf (.tup [.agg (List.map (AV.flt .f32) [lm a a b c d l, lm b a b c d l, lm c a b c d l, d]), .lit (.int .i64 0)], none)))

theorem share {o : Option Nat} (ho : FOk .f32 o) (h : sh o = true) : LE 1 o := by
  obtain ⟨h1, h2⟩ := cond_t h
  obtain ⟨b, _, hb⟩ := ho
  have hor : o = none ∨ ∃ x, o = some x ∧ (FloatKind.f32.decode x).isNaN = false := by
    unfold nrm at hb
    cases h : (FloatKind.f32.decode b).isNaN with
    | true => rw [h] at hb; exact .inl hb.symm
    | false => rw [h] at hb; exact .inr ⟨b, hb.symm, h⟩
  exact LE_of_cmp hor NV_one h1 h2
theorem NV_four : NV (some 1082130432) (4 * 2 ^ 1074) := NV.of ⟨2 ^ 23, -21, by decide +kernel, by decide, by decide +kernel⟩
theorem four {o : Option Nat} (ho : FOk .f32 o) (h : rg o = true) : LE 4 o := by
  obtain ⟨h1, h2⟩ := cond_t h
  obtain ⟨b, _, hb⟩ := ho
  have hor : o = none ∨ ∃ x, o = some x ∧ (FloatKind.f32.decode x).isNaN = false := by
    unfold nrm at hb
    cases h : (FloatKind.f32.decode b).isNaN with
    | true => rw [h] at hb; exact .inl hb.symm
    | false => rw [h] at hb; exact .inr ⟨b, hb.symm, h⟩
  exact LE_of_cmp hor NV_four h1 h2

/-- where something is limited all is finite -/
theorem fin_all {a b c d l : Option Nat} (ha : FOk .f32 a) (hb : FOk .f32 b) (hc : FOk .f32 c) (hd : FOk .f32 d) (hl : FOk .f32 l) (hg : cov a b c d = true) (hr : rg l = true)
    (h1 : fcmp .leq .f32 (ink a b c d) l = false) (h2 : fcmp .geq .f32 d l = false) : idx4 (lm a a b c d l) (lm b a b c d l) (lm c a b c d l) d = -1 := by
  obtain ⟨hg, gd⟩ := cond_t hg
  obtain ⟨hg, gc⟩ := cond_t hg
  obtain ⟨ga, gb⟩ := cond_t hg
  have la := share ha ga
  have lb := share hb gb
  have lc := share hc gc
  have ld := share hd gd
  obtain ⟨L, vl, bl⟩ := four hl hr
  obtain ⟨A, va, ba⟩ := la
  obtain ⟨B, vb, bb⟩ := lb
  obtain ⟨C, vc, bc⟩ := lc
  obtain ⟨D, vd, bd⟩ := ld
  have l2 := LE.add (j := 1) (k := 1) ⟨A, va, ba⟩ ⟨B, vb, bb⟩ (by decide)
  have l3 := LE.add (j := 1 + 1) (k := 1) l2 ⟨C, vc, bc⟩ (by decide)
  have l3 : LE 3 (s3 a b c) := l3
  obtain ⟨S, vs, bs⟩ := l3
  have vt := vs.add vd (g_lt (k := 4) (by decide) (by have := Nat.add_le_add bs bd; rw [← Nat.add_mul] at this; exact this))
  have hT : ¬ rd (S + D) ≤ L := by
    have := (fcmp_NV vt vl).2.2.2.1
    have e : fop .add .f32 (s3 a b c) d = ink a b c d := rfl
    rw [e, h1] at this
    exact of_decide_eq_false this.symm
  have hDL : ¬ D ≥ L := by
    have := (fcmp_NV vd vl).2.2.1
    rw [h2] at this
    exact of_decide_eq_false this.symm
  have hSD : L < S + D := by
    rcases Nat.lt_or_ge L (S + D) with h | h
    · exact h
    · exact absurd (rd_le h vl.rep.1) hT
  have vq := vl.sub vd (by omega)
  have hq : rd (L - D) ≤ S := rd_le (by omega) vs.rep.1
  obtain ⟨Z, hZ, vz⟩ := NV.quo1 vq vs hq (by omega)
  have lz : LE 1 (fop .quo .f32 (fop .sub .f32 l d) (s3 a b c)) := ⟨Z, vz, hZ⟩
  have fa : finS (lm a a b c d l) = true := finS_LE (LE.mul ⟨A, va, ba⟩ lz (by decide))
  have fb : finS (lm b a b c d l) = true := finS_LE (LE.mul ⟨B, vb, bb⟩ lz (by decide))
  have fc : finS (lm c a b c d l) = true := finS_LE (LE.mul ⟨C, vc, bc⟩ lz (by decide))
  unfold idx4
  rw [fa, fb, fc, finS_NV vd]
  rfl

theorem TI_TS {a b c d l : Option Nat} (ha : FOk .f32 a) (hb : FOk .f32 b) (hc : FOk .f32 c) (hd : FOk .f32 d) (hl : FOk .f32 l) : delitD (TI a b c d l).get.1 = delitD (TS a b c d l).get.1 := by
  unfold TI TS
  rw [covI_cov]
  cases hg : cov a b c d with
  | false => rfl
  | true => cases hr : rg l with
    | false => rfl
    | true => cases h1 : fcmp .leq .f32 (ink a b c d) l with
      | true => unfold TR; simp only [h1, Tr.get, Bool.not_true, cond_true, cond_false]
      | false => cases h2 : fcmp .geq .f32 d l with
        | true => unfold TR; simp only [h1, h2, Tr.get, Bool.not_true, cond_true, cond_false]
        | false =>
          rw [fin_all ha hb hc hd hl hg hr h1 h2]
          unfold TR
          simp only [h1, h2, Tr.get, Bool.not_true, cond_true, cond_false]
          rfl

theorem law (l0 : List AV) (t0 : Typed (List.replicate 4 (.flt .f32)) l0) (l1 : AV) (t1 : LK.has (.flt .f32) l1) :
    ∃ K, CallerTOk Try.prog K ∧ ∃ t, evF Try.prog K noL lawN lawD 9 [.agg l0, l1] [] = some (t, true) ∧ delit t.get.1 = .bool true := by
  obtain ⟨_, _, rfl, ⟨x0, rfl, x0K⟩, t0⟩ := t0
  obtain ⟨_, _, rfl, ⟨x1, rfl, x1K⟩, t0⟩ := t0
  obtain ⟨_, _, rfl, ⟨x2, rfl, x2K⟩, t0⟩ := t0
  obtain ⟨_, _, rfl, ⟨x3, rfl, x3K⟩, t0⟩ := t0
  have t0 := (t0 : _ = [])
  subst t0
  obtain ⟨l, rfl, lK⟩ := t1
  have hS : evF Try.prog finK noL lawN lawD 36 [.agg (List.map (AV.flt .f32) [x0, x1, x2, x3]), .flt .f32 l] [] = some (TS x0 x1 x2 x3 l, true) := by kernel_rfl
  have hI : evF Try.prog finK noL lawN lawD 37 [.agg (List.map (AV.flt .f32) [x0, x1, x2, x3]), .flt .f32 l] [] = some (TI x0 x1 x2 x3 l, true) := by kernel_rfl
  obtain ⟨w0, w1, w2, w3, e, hw⟩ : ∃ (w0 w1 w2 w3 : Option Nat) (e : Int), delitD (TS x0 x1 x2 x3 l).get.1 = .tup [.agg (List.map (AV.flt .f32) [w0, w1, w2, w3]), .int .i64 e] := by
    unfold TS TR Tr.get
    cases !cov x0 x1 x2 x3
    · unfold Tr.get
      cases !rg l
      · unfold Tr.get
        cases fcmp .leq .f32 (ink x0 x1 x2 x3) l
        · unfold Tr.get
          cases fcmp .geq .f32 x3 l
          · exact ⟨_, _, _, _, _, rfl⟩
          · exact ⟨_, _, _, _, _, rfl⟩
        · exact ⟨_, _, _, _, _, rfl⟩
      · exact ⟨_, _, _, _, _, rfl⟩
    · exact ⟨_, _, _, _, _, rfl⟩
  have kS := sum_at0 (L := noL) sxApart sxMixed finK_ok (fun _ _ _ _ => noL_ok) hS (by kernel_rfl) (T := .leaf (.tup [.agg (List.map (AV.flt .f32) [w0, w1, w2, w3]), .int .i64 e], none)) (fun _ => hw) (fun _ => ⟨rfl, rfl⟩)
  have kI := sum_at0 (L := noL) sxApart sxMixed finK_ok (fun _ _ _ _ => noL_ok) hI (by kernel_rfl) (T := .leaf (.tup [.agg (List.map (AV.flt .f32) [w0, w1, w2, w3]), .int .i64 e], none)) (fun _ => (TI_TS x0K x1K x2K x3K lK).trans hw) (fun _ => ⟨rfl, rfl⟩)
  refine ⟨addK 36 _ (addK 37 _ extK), addK_ok kS (addK_ok kI extK_ok), .leaf (.bool (cond (cond (!sfL [w0, w1, w2, w3]) true (e != e)) false true), none), ?_, ?_⟩
  · have h : evF Try.prog (addK 36 (runAt [.agg (List.map (AV.flt .f32) [x0, x1, x2, x3]), .flt .f32 l] (.leaf (.tup [.agg (List.map (AV.flt .f32) [w0, w1, w2, w3]), .int .i64 e], none)) true) (addK 37 (runAt [.agg (List.map (AV.flt .f32) [x0, x1, x2, x3]), .flt .f32 l] (.leaf (.tup [.agg (List.map (AV.flt .f32) [w0, w1, w2, w3]), .int .i64 e], none)) true) extK)) noL lawN lawD 9 [.agg (List.map (AV.flt .f32) [x0, x1, x2, x3]), .flt .f32 l] [] = some (.leaf (.bool (cond (cond (!sfL [w0, w1, w2, w3]) true (e != e)) false true), none), andB (andB (deq [.agg (List.map (AV.flt .f32) [x0, x1, x2, x3]), .flt .f32 l] [.agg (List.map (AV.flt .f32) [x0, x1, x2, x3]), .flt .f32 l]) true) (andB (andB (deq [.agg (List.map (AV.flt .f32) [x0, x1, x2, x3]), .flt .f32 l] [.agg (List.map (AV.flt .f32) [x0, x1, x2, x3]), .flt .f32 l]) true) true)) := by kernel_rfl
    rw [deq_self] at h
    exact h
  · simp [Tr.get, delit, sfL_true]

set_option maxRecDepth 100000 in
theorem lifted (os : Os) (started : os.Started) (H : Type) (enc : TypeId × Value → H) :
    ReturnsInHanded {} Try.checked os 9 .any (Rows.fnExactLimitInkSpec.pre6 enc Try.prog Try.f9 Rows.fnExactLimitInkRow.domain false) (Rows.fnExactLimitInkSpec.post enc Try.prog Try.f9 false true false false) := by
  refine returnsInHanded_of_change (C := Try.checked) sxOwn started (by kernel_rfl) Try.func9
    (ChangeSpec.witness6 (enc := enc) (C := Try.checked) false ⟨#[], #[.agg #[.float .f32 0, .float .f32 0, .float .f32 0, .float .f32 0], .float .f32 0], []⟩ 8 (by kernel_rfl) (by kernel_rfl) (by kernel_rfl) (by kernel_rfl)) ?_
  intro W base args ds gs before hval0 hW hcnd _
  have hval : ∀ (j : Nat) t v, Try.f9.params[j]? = some t → args[j]? = some v → Value.okWide Try.prog W .any base t v := hval0
  have hW' := hW
  obtain ⟨p, q, hA0, hV, rfl, hfz, hnd⟩ := hW
  have hA : DataW.TrodAll enc Try.prog W 0 (fun _ => true) true Try.f9.params.toList args.toList ds p := hA0
  rw [Try.params9] at hA hval
  obtain ⟨v0, vs0, d0, ds0, p0, q0, hargs, rfl, rfl, h0, r0⟩ := trodAll_cons hA
  obtain ⟨v1, vs1, d1, ds1, p1, q1, rfl, rfl, rfl, h1, r1⟩ := trodAll_cons r0
  obtain ⟨rfl, rfl, rfl⟩ := trodAll_nil r1
  obtain rfl : args = #[v0, v1] := by cases args; simp_all
  obtain ⟨rfl, rfl⟩ := trodVars_none hV
  have hrel0 : HRel [] [] W := ⟨rfl, fun b x p h => by simp at h, fun b c x y p q _ h => by simp at h⟩
  have hro0 := ro_nil
  obtain ⟨l0, t0, e0⟩ := arg_agg (ρ := []) (ts := [22, 22, 22, 22]) (ks := [.flt .f32, .flt .f32, .flt .f32, .flt .f32]) (hval 0 43 v0 rfl rfl) (by kernel_rfl) (by kernel_rfl) (by kernel_rfl) (by kernel_rfl)
  obtain ⟨l1, t1, e1⟩ := arg_cell (ρ := []) (k := .flt .f32) (hval 1 22 v1 rfl rfl) (by kernel_rfl)
  have k0 := h0
  have lt0 : ∀ x ∈ p0, x.block < W.heap.size := by obtain ⟨m, hm⟩ := k0; exact DataW.trod_lt m _ _ _ hm
  have k1 := h1
  have lt1 : ∀ x ∈ p1, x.block < W.heap.size := by obtain ⟨m, hm⟩ := k1; exact DataW.trod_lt m _ _ _ hm
  have hargs : VRels [] [.agg l0, l1] [v0, v1] := by
    simp only [VRels]
    exact ⟨v0, _, rfl, e0, ⟨v1, _, rfl, e1, rfl⟩⟩
  obtain ⟨lawK, lawK_ok, hlaw⟩ := law l0 t0 l1 t1
  refine (evF_true (K := lawK) (L := noL) (N := lawN) (d := lawD) sxApart sxMixed lawK_ok (fun _ _ _ _ => noL_ok) hlaw hrel0 hro0 hargs).mono fun e W' ⟨he, bel⟩ => ?_
  subst he
  exact ⟨_, rfl, _, _, _, [], _, [], hW', trodAll_mk1 (shut_bool Try.underlying4 _), (trodAll_cons_mk (Below.trod sxLaid (by kernel_rfl) (of_decide_eq_true (by kernel_rfl)) k0 bel lt0) (trodAll_cons_mk (Below.trod sxLaid (by kernel_rfl) (of_decide_eq_true (by kernel_rfl)) k1 bel lt1) trodAll_mk0)), rfl, bel.frame _, fun h => by cases h⟩

theorem over : Rows.fnExactLimitInkRow.holds Try.pinned (OpenSpec.ofChange Rows.fnExactLimitInkSpec) :=
  OpenClaim.holds_of_wide 9 Try.f9 rfl rfl rfl rfl rfl rfl rfl ⟨rfl, rfl, rfl, rfl, rfl⟩ rfl rfl rfl rfl rfl (by kernel_rfl) Try.func9 (by kernel_rfl)
    (of_decide_eq_true (by kernel_rfl)) (by unfold Func.isWrapper; first | (rw [if_pos (by decide +kernel)]; kernel_rfl) | (rw [if_neg (by decide +kernel)]; exact ⟨rfl, rfl⟩))
    (fun os started H enc _ => lifted os started H enc)

/-- The statement. -/
theorem proved : Rows.FnExactLimitInkSaid := over
#print axioms proved
end Go.Proofs.Ytpechflfloolkaa.lawLimitInk
