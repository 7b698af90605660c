/- The law 'FnExactShakeCounts': the program's ShakeCounts returns what the reference's returns, for all arguments; no condition. -/
import Derived.Test.YtodbpecmaiidpaaRows
import Derived.WalkKit
import Derived.ProofKit
import Derived.OpenShut
import Derived.ChangeOld
import Derived.Below
import Derived.Test.YtodbpecmaiidpaaSxBase
import Derived.Test.YtodbpecmaiidpaaSxLib
namespace Go.Proofs.Ytodbpecmaiidpaa.lawShakeCounts
open Go.ChangeShapes Go.WideShapes Go.ChangeAt Go.RowKit Go.Sx
set_option linter.unusedVariables false
set_option linter.unusedSimpArgs false
set_option maxRecDepth 100000
def lawN : Nat := 20
def lawD : Nat := 8


def next (s : Int) : Int := IntKind.u32.wrap (IntKind.u32.wrap (1664525 * s) + 1013904223)
def div (m : Int) : Int := IntKind.i64.wrap (IntKind.i64.wrap (2 * IntKind.i64.wrap m) + 1)
def one (g : Int → Int) (m s a : Int) : Int :=
  IntKind.i16.wrap (g (IntKind.i64.wrap (IntKind.i64.wrap a + IntKind.i64.wrap ((IntKind.i64.wrap (IntKind.u32.wrap ((next s).tdiv 65536))).tmod (div m) - IntKind.i64.wrap m))))
def lanes (g : Int → Int) (m : Int) : List Int → Int → List AV
  | [], _ => []
  | a :: t, s => .int .i16 (one g m s a) :: lanes g m t (next s)
def last : List Int → Int → Int
  | [], s => s
  | _ :: t, s => last t (next s)
def obs (m : Int) : Nat → Bool
  | 0 => true
  | n + 1 => andB (!(div m == 0)) (obs m n)
def cS (n : Int) : Int := cond (decide ((cond (decide (n > 32767)) 32767 n) < -32768)) (-32768) (cond (decide (n > 32767)) 32767 n)
def cI (n : Int) : Int := if (if n > -32768 then n else -32768) < 32767 then (if n > -32768 then n else -32768) else 32767
theorem cSI : cS = cI := by
  funext n
  unfold cS cI
  by_cases h1 : n > 32767 <;> by_cases h2 : n < -32768 <;> by_cases h3 : n > -32768 <;> by_cases h4 : n < 32767 <;> simp [h1, h2, h3, h4] <;> omega
def eqc : List Int → Bool
  | [] => true
  | x :: t => cond (x != x) false (eqc t)
def zero : AV := .agg [.int .i16 0, .int .i16 0, .int .i16 0, .int .i16 0, .int .i16 0, .int .i16 0, .int .i16 0, .int .i16 0, .int .i16 0, .int .i16 0, .int .i16 0, .int .i16 0, .int .i16 0, .int .i16 0, .int .i16 0, .int .i16 0]
def T (g : Int → Int) (xs : List Int) (s m : Int) : Tr (AV × Option (List Blk)) :=
  .node (decide (m < 0)) (.leaf (.tup [zero, .lit (.int .u32 0), .lit (.int .i64 2)], none)) (.leaf (.tup [.agg (lanes g m xs s), .int .u32 (last xs s), .lit (.int .i64 0)], none))
def ob (m : Int) : Bool := ob2 (decide (m < 0)) true (obs m 16)

theorem ob_true {m : Int} (h0 : -32768 ≤ m) (h1 : m ≤ 32767) : ob m = true := by
  unfold ob
  by_cases h : m < 0
  · simp only [h, decide_true, ob2, Bool.not_true]; unfold andB impB; cases obs m 16 <;> rfl
  · have e1 : IntKind.i64.wrap m = m := wrap_i64 (by omega) (by omega)
    have e2 : IntKind.i64.wrap (2 * m) = 2 * m := wrap_i64 (by omega) (by omega)
    have e3 : IntKind.i64.wrap (2 * m + 1) = 2 * m + 1 := wrap_i64 (by omega) (by omega)
    have : (div m == 0) = false := by
      unfold div
      rw [e1, e2, e3]
      simp; omega
    simp [ob2, obs, this, andB, impB]

theorem law (l0 : List AV) (t0 : Typed (List.replicate 16 (.int .i16)) l0) (l1 : AV) (t1 : LK.has (.int .u32) l1) (l2 : AV) (t2 : LK.has (.int .i16) l2) :
    ∃ K, CallerTOk Try.prog K ∧ ∃ t, evF Try.prog K noL lawN lawD 7 [.agg l0, l1, l2] [] = some (t, true) ∧ delit t.get.1 = .bool true := by
  obtain ⟨_, _, rfl, ⟨a0, rfl, a0L, a0U⟩, t0⟩ := t0
  obtain ⟨_, _, rfl, ⟨a1, rfl, a1L, a1U⟩, t0⟩ := t0
  obtain ⟨_, _, rfl, ⟨a2, rfl, a2L, a2U⟩, t0⟩ := t0
  obtain ⟨_, _, rfl, ⟨a3, rfl, a3L, a3U⟩, t0⟩ := t0
  obtain ⟨_, _, rfl, ⟨a4, rfl, a4L, a4U⟩, t0⟩ := t0
  obtain ⟨_, _, rfl, ⟨a5, rfl, a5L, a5U⟩, t0⟩ := t0
  obtain ⟨_, _, rfl, ⟨a6, rfl, a6L, a6U⟩, t0⟩ := t0
  obtain ⟨_, _, rfl, ⟨a7, rfl, a7L, a7U⟩, t0⟩ := t0
  obtain ⟨_, _, rfl, ⟨a8, rfl, a8L, a8U⟩, t0⟩ := t0
  obtain ⟨_, _, rfl, ⟨a9, rfl, a9L, a9U⟩, t0⟩ := t0
  obtain ⟨_, _, rfl, ⟨a10, rfl, a10L, a10U⟩, t0⟩ := t0
  obtain ⟨_, _, rfl, ⟨a11, rfl, a11L, a11U⟩, t0⟩ := t0
  obtain ⟨_, _, rfl, ⟨a12, rfl, a12L, a12U⟩, t0⟩ := t0
  obtain ⟨_, _, rfl, ⟨a13, rfl, a13L, a13U⟩, t0⟩ := t0
  obtain ⟨_, _, rfl, ⟨a14, rfl, a14L, a14U⟩, t0⟩ := t0
  obtain ⟨_, _, rfl, ⟨a15, rfl, a15L, a15U⟩, t0⟩ := t0
  have t0 := (t0 : _ = [])
  subst t0
  obtain ⟨s, rfl, sL, sU⟩ := t1
  obtain ⟨m, rfl, mL, mU⟩ := t2
  have hS : evF Try.prog noK noL lawN lawD 25 [.agg (List.map (AV.int .i16) [a0, a1, a2, a3, a4, a5, a6, a7, a8, a9, a10, a11, a12, a13, a14, a15]), .int .u32 s, .int .i16 m] [] = some (T cS [a0, a1, a2, a3, a4, a5, a6, a7, a8, a9, a10, a11, a12, a13, a14, a15] s m, ob m) := by kernel_rfl
  have hI : evF Try.prog noK noL lawN lawD 26 [.agg (List.map (AV.int .i16) [a0, a1, a2, a3, a4, a5, a6, a7, a8, a9, a10, a11, a12, a13, a14, a15]), .int .u32 s, .int .i16 m] [] = some (T cI [a0, a1, a2, a3, a4, a5, a6, a7, a8, a9, a10, a11, a12, a13, a14, a15] s m, ob m) := by kernel_rfl
  have ho := ob_true mL mU
  rw [ho] at hS hI
  rw [← cSI] at hI
  obtain ⟨w0, w1, w2, w3, w4, w5, w6, w7, w8, w9, w10, w11, w12, w13, w14, w15, s', c, hw⟩ : ∃ w0 w1 w2 w3 w4 w5 w6 w7 w8 w9 w10 w11 w12 w13 w14 w15 s' c : Int, delitD (T cS [a0, a1, a2, a3, a4, a5, a6, a7, a8, a9, a10, a11, a12, a13, a14, a15] s m).get.1 = .tup [.agg (List.map (AV.int .i16) [w0, w1, w2, w3, w4, w5, w6, w7, w8, w9, w10, w11, w12, w13, w14, w15]), .int .u32 s', .int .i64 c] := by
    unfold T Tr.get
    cases decide (m < 0)
    · exact ⟨_, _, _, _, _, _, _, _, _, _, _, _, _, _, _, _, _, _, rfl⟩
    · exact ⟨_, _, _, _, _, _, _, _, _, _, _, _, _, _, _, _, _, _, rfl⟩
  have kS := sum_at0 (L := noL) sxApart sxMixed noK_ok (fun _ _ _ _ => noL_ok) hS (by kernel_rfl) (T := .leaf (.tup [.agg (List.map (AV.int .i16) [w0, w1, w2, w3, w4, w5, w6, w7, w8, w9, w10, w11, w12, w13, w14, w15]), .int .u32 s', .int .i64 c], none)) (fun _ => hw) (fun _ => ⟨rfl, rfl⟩)
  have kI := sum_at0 (L := noL) sxApart sxMixed noK_ok (fun _ _ _ _ => noL_ok) hI (by kernel_rfl) (T := .leaf (.tup [.agg (List.map (AV.int .i16) [w0, w1, w2, w3, w4, w5, w6, w7, w8, w9, w10, w11, w12, w13, w14, w15]), .int .u32 s', .int .i64 c], none)) (fun _ => hw) (fun _ => ⟨rfl, rfl⟩)
  refine ⟨addK 25 _ (addK 26 _ noK), addK_ok kS (addK_ok kI noK_ok), .leaf (.bool (cond (cond (cond (!eqc [w0, w1, w2, w3, w4, w5, w6, w7, w8, w9, w10, w11, w12, w13, w14, w15]) true (s' != s')) true (c != c)) false true), none), ?_, ?_⟩
  · have h : evF Try.prog (addK 25 (runAt [.agg (List.map (AV.int .i16) [a0, a1, a2, a3, a4, a5, a6, a7, a8, a9, a10, a11, a12, a13, a14, a15]), .int .u32 s, .int .i16 m] (.leaf (.tup [.agg (List.map (AV.int .i16) [w0, w1, w2, w3, w4, w5, w6, w7, w8, w9, w10, w11, w12, w13, w14, w15]), .int .u32 s', .int .i64 c], none)) true)
        (addK 26 (runAt [.agg (List.map (AV.int .i16) [a0, a1, a2, a3, a4, a5, a6, a7, a8, a9, a10, a11, a12, a13, a14, a15]), .int .u32 s, .int .i16 m] (.leaf (.tup [.agg (List.map (AV.int .i16) [w0, w1, w2, w3, w4, w5, w6, w7, w8, w9, w10, w11, w12, w13, w14, w15]), .int .u32 s', .int .i64 c], none)) true) noK)) noL lawN lawD 7
        [.agg (List.map (AV.int .i16) [a0, a1, a2, a3, a4, a5, a6, a7, a8, a9, a10, a11, a12, a13, a14, a15]), .int .u32 s, .int .i16 m] [] = some (.leaf (.bool (cond (cond (cond (!eqc [w0, w1, w2, w3, w4, w5, w6, w7, w8, w9, w10, w11, w12, w13, w14, w15]) true (s' != s')) true (c != c)) false true), none),
          andB (andB (deq [.agg (List.map (AV.int .i16) [a0, a1, a2, a3, a4, a5, a6, a7, a8, a9, a10, a11, a12, a13, a14, a15]), .int .u32 s, .int .i16 m] [.agg (List.map (AV.int .i16) [a0, a1, a2, a3, a4, a5, a6, a7, a8, a9, a10, a11, a12, a13, a14, a15]), .int .u32 s, .int .i16 m]) true) (andB (andB (deq [.agg (List.map (AV.int .i16) [a0, a1, a2, a3, a4, a5, a6, a7, a8, a9, a10, a11, a12, a13, a14, a15]), .int .u32 s, .int .i16 m] [.agg (List.map (AV.int .i16) [a0, a1, a2, a3, a4, a5, a6, a7, a8, a9, a10, a11, a12, a13, a14, a15]), .int .u32 s, .int .i16 m]) true) true)) := by kernel_rfl
    rw [deq_self] at h
    exact h
  · simp [Tr.get, delit, eqc]

set_option maxRecDepth 100000 in
theorem lifted (os : Os) (started : os.Started) (H : Type) (enc : TypeId × Value → H) :
    ReturnsInHanded {} Try.checked os 7 .any (Rows.fnExactShakeCountsSpec.pre6 enc Try.prog Try.f7 Rows.fnExactShakeCountsRow.domain false) (Rows.fnExactShakeCountsSpec.post enc Try.prog Try.f7 false true false false) := by
  refine returnsInHanded_of_change (C := Try.checked) sxOwn started (by kernel_rfl) Try.func7
    (ChangeSpec.witness6 (enc := enc) (C := Try.checked) false ⟨#[], #[.agg #[.int .i16 0, .int .i16 0, .int .i16 0, .int .i16 0, .int .i16 0, .int .i16 0, .int .i16 0, .int .i16 0, .int .i16 0, .int .i16 0, .int .i16 0, .int .i16 0, .int .i16 0, .int .i16 0, .int .i16 0, .int .i16 0], .int .u32 0, .int .i16 0], []⟩ 8 (by kernel_rfl) (by kernel_rfl) (by kernel_rfl) (by kernel_rfl)) ?_
  intro W base args ds gs before hval0 hW hcnd _
  have hval : ∀ (j : Nat) t v, Try.f7.params[j]? = some t → args[j]? = some v → Value.okWide Try.prog W .any base t v := hval0
  have hW' := hW
  obtain ⟨p, q, hA0, hV, rfl, hfz, hnd⟩ := hW
  have hA : DataW.TrodAll enc Try.prog W 0 (fun _ => true) true Try.f7.params.toList args.toList ds p := hA0
  rw [Try.params7] at hA hval
  obtain ⟨v0, vs0, d0, ds0, p0, q0, hargs, rfl, rfl, h0, r0⟩ := trodAll_cons hA
  obtain ⟨v1, vs1, d1, ds1, p1, q1, rfl, rfl, rfl, h1, r1⟩ := trodAll_cons r0
  obtain ⟨v2, vs2, d2, ds2, p2, q2, rfl, rfl, rfl, h2, r2⟩ := trodAll_cons r1
  obtain ⟨rfl, rfl, rfl⟩ := trodAll_nil r2
  obtain rfl : args = #[v0, v1, v2] := by cases args; simp_all
  obtain ⟨rfl, rfl⟩ := trodVars_none hV
  obtain ⟨l0, t0, e0⟩ := arg_agg (ρ := []) (ts := [23, 23, 23, 23, 23, 23, 23, 23, 23, 23, 23, 23, 23, 23, 23, 23]) (ks := [.int .i16, .int .i16, .int .i16, .int .i16, .int .i16, .int .i16, .int .i16, .int .i16, .int .i16, .int .i16, .int .i16, .int .i16, .int .i16, .int .i16, .int .i16, .int .i16]) (hval 0 26 v0 rfl rfl) (by kernel_rfl) (by kernel_rfl) (by kernel_rfl) (by kernel_rfl)
  obtain ⟨l1, t1, e1⟩ := arg_cell (ρ := []) (k := .int .u32) (hval 1 42 v1 rfl rfl) (by kernel_rfl)
  obtain ⟨l2, t2, e2⟩ := arg_cell (ρ := []) (k := .int .i16) (hval 2 23 v2 rfl rfl) (by kernel_rfl)
  have k0 := h0
  have lt0 : ∀ x ∈ p0, x.block < W.heap.size := by obtain ⟨m, hm⟩ := k0; exact DataW.trod_lt m _ _ _ hm
  have k1 := h1
  have lt1 : ∀ x ∈ p1, x.block < W.heap.size := by obtain ⟨m, hm⟩ := k1; exact DataW.trod_lt m _ _ _ hm
  have k2 := h2
  have lt2 : ∀ x ∈ p2, x.block < W.heap.size := by obtain ⟨m, hm⟩ := k2; exact DataW.trod_lt m _ _ _ hm
  have hrel : HRel [] [] W := ⟨rfl, fun b x p h => by simp at h, fun b c x y p q _ h => by simp at h⟩
  have hargs : VRels [] [.agg l0, l1, l2] [v0, v1, v2] := by
    simp only [VRels]
    exact ⟨v0, _, rfl, e0, ⟨v1, _, rfl, e1, ⟨v2, _, rfl, e2, rfl⟩⟩⟩
  obtain ⟨lawK, lawK_ok, hlaw⟩ := law l0 t0 l1 t1 l2 t2
  refine (evF_true (K := lawK) (L := noL) (N := lawN) (d := lawD) sxApart sxMixed lawK_ok (fun _ _ _ _ => noL_ok) hlaw hrel (fun b x h => by simp at h) hargs).mono fun e W' ⟨he, bel⟩ => ?_
  subst he
  exact ⟨_, rfl, _, _, _, [], _, [], hW', trodAll_mk1 (shut_bool Try.underlying4 _), (trodAll_cons_mk (Below.trod sxLaid (by kernel_rfl) (of_decide_eq_true (by kernel_rfl)) k0 bel lt0) (trodAll_cons_mk (Below.trod sxLaid (by kernel_rfl) (of_decide_eq_true (by kernel_rfl)) k1 bel lt1) (trodAll_cons_mk (Below.trod sxLaid (by kernel_rfl) (of_decide_eq_true (by kernel_rfl)) k2 bel lt2) trodAll_mk0))), rfl, bel.frame _, fun h => by cases h⟩

theorem over : Rows.fnExactShakeCountsRow.holds Try.pinned (OpenSpec.ofChange Rows.fnExactShakeCountsSpec) :=
  OpenClaim.holds_of_wide 7 Try.f7 rfl rfl rfl rfl rfl rfl rfl ⟨rfl, rfl, rfl, rfl, rfl⟩ rfl rfl rfl rfl rfl (by kernel_rfl) Try.func7 (by kernel_rfl)
    (of_decide_eq_true (by kernel_rfl)) (by unfold Func.isWrapper; first | (rw [if_pos (by decide +kernel)]; kernel_rfl) | (rw [if_neg (by decide +kernel)]; exact ⟨rfl, rfl⟩))
    (fun os started H enc _ => lifted os started H enc)

/-- The statement. -/
theorem proved : Rows.FnExactShakeCountsSaid := over
#print axioms proved
end Go.Proofs.Ytodbpecmaiidpaa.lawShakeCounts
