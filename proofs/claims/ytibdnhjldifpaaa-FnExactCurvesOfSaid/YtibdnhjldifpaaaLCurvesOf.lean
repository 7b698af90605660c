/- The law 'FnExactCurvesOf': the program's CurvesOf returns what the reference's returns, for all arguments; no condition. -/
import Derived.Test.YtibdnhjldifpaaaRows
import Derived.WalkKit
import Derived.ProofKit
import Derived.OpenShut
import Derived.ChangeOld
import Derived.Below
import Derived.Test.YtibdnhjldifpaaaSxK2
import Derived.Test.YtibdnhjldifpaaaSxFr
import Derived.Test.YtibdnhjldifpaaaSxU8
import Derived.Test.YtibdnhjldifpaaaSxCp
namespace Go.Proofs.Ytibdnhjldifpaaa.lawCurvesOf
open Go.ChangeShapes Go.WideShapes Go.ChangeAt Go.RowKit Go.Sx
set_option linter.unusedVariables false
set_option linter.unusedSimpArgs false
set_option maxRecDepth 100000
def lawN : Nat := 20
def lawD : Nat := 8

open Go.Proofs.Ytibdnhjldifpaaa.S6 Go.Proofs.Ytibdnhjldifpaaa.V6 Go.Proofs.Ytibdnhjldifpaaa.H6 Go.Proofs.Ytibdnhjldifpaaa.G6 Go.Proofs.Ytibdnhjldifpaaa.U6 Go.Sx.C6 Go.Sx.C1

noncomputable def lawK (n : Nat) (T : Nat → Int) (C : Nat → Nat → Int) (g : Gg) : CallerT := addK 15 (selRun (runTo n T C)) (addK 18 (selRun (runEqS n T C)) (addK 13 (runU n T C g) (addK 16 (runU n T C g) extK)))
theorem lawK_ok {n : Nat} {T : Nat → Int} {C : Nat → Nat → Int} {g : Gg} (r : Rg n C g) : CallerTOk Try.prog (lawK n T C g) := addK_ok (to_ok n T C) (addK_ok (eq_ok n T C) (addK_ok (sumUs n T C g) (addK_ok (sumUi r) extK_ok)))
noncomputable def ne (n : Nat) (T : Nat → Int) (C : Nat → Nat → Int) (g : Gg) : Bool := cond (cond (!sfL (k16 (ua n T C g))) true (!sfL (k16 (ub n T C g)))) true (uc n T g != uc n T g)
theorem ne_false (n : Nat) (T : Nat → Int) (C : Nat → Nat → Int) (g : Gg) : ne n T C g = false := by unfold ne; rw [sfL_true, sfL_true]; simp
noncomputable def oD (n : Nat) (T : Nat → Int) (C : Nat → Nat → Int) (g : Gg) : Bool := andB (deq (AU n g) (AU n g)) (andB (deqH (roH n T C) (roH n T C)) (Nat.ble n few))
theorem oD_true {n : Nat} (hn : Nat.ble n few = true) (T : Nat → Int) (C : Nat → Nat → Int) (g : Gg) : oD n T C g = true := by unfold oD; rw [deq_self, deqH_self, hn]; rfl
theorem AllIn_get : ∀ {l : List Int}, AllIn l → ∀ i, i < l.length → -32768 ≤ l.getD i 0 ∧ l.getD i 0 ≤ 32767
  | x :: t, h, 0, _ => h.1
  | x :: t, h, i + 1, hi => by simpa using AllIn_get h.2 i (by simpa using hi)

theorem typed_get : ∀ {ks : List LK} {l : List AV}, Typed ks l → ∀ (i : Nat) (k : LK), ks[i]? = some k → k.has (gt l i)
  | k :: ks, l, h, i, k', hk => by
    obtain ⟨x, t, rfl, hx, ht⟩ := h
    cases i with
    | zero => simp at hk; subst hk; exact hx
    | succ i => exact typed_get ht i k' (by simpa using hk)
  | [], _, _, i, _, hk => by simp at hk

theorem law (l0 : List AV) (t0 : Typed (List.replicate 16 (.int .i16) ++ (List.replicate 16 (.int .i16) ++ (List.replicate 16 (.flt .f32) ++ [.flt .f32]))) l0) (n0 : Nat) (ln0 : n0 ≤ 9223372036854775807) (f0 : Nat → List AV) (tf0 : ∀ i, i < n0 → Typed sks (f0 i)) :
    ∃ K, CallerTOk Try.prog K ∧ ∃ t, evF Try.prog K noL lawN lawD 3 [.agg l0, .slc 0 0 n0] [.rows false n0 17 (fun i => canonR sks 0 (f0 i))] = some (t, true) ∧ delit t.get.1 = .bool true := by
  have hc : ∀ k, k < n0 → ∀ i, i < 16 → -32768 ≤ Cf f0 i k ∧ Cf f0 i k ≤ 32767 := fun k hk i hi => by
    obtain ⟨m, hm, h1, h2⟩ := typed_get (tf0 k hk) (i + 1) (.int .i16) (by
      match i, hi with
      | 0, _ => rfl
      | 1, _ => rfl
      | 2, _ => rfl
      | 3, _ => rfl
      | 4, _ => rfl
      | 5, _ => rfl
      | 6, _ => rfl
      | 7, _ => rfl
      | 8, _ => rfl
      | 9, _ => rfl
      | 10, _ => rfl
      | 11, _ => rfl
      | 12, _ => rfl
      | 13, _ => rfl
      | 14, _ => rfl
      | 15, _ => rfl
      | i + 16, h => exact absurd h (by omega))
    unfold Cf
    rw [hm]
    exact ⟨h1, h2⟩
  obtain ⟨_, _, rfl, ⟨b0, rfl, b0L, b0U⟩, t0⟩ := t0
  obtain ⟨_, _, rfl, ⟨b1, rfl, b1L, b1U⟩, t0⟩ := t0
  obtain ⟨_, _, rfl, ⟨b2, rfl, b2L, b2U⟩, t0⟩ := t0
  obtain ⟨_, _, rfl, ⟨b3, rfl, b3L, b3U⟩, t0⟩ := t0
  obtain ⟨_, _, rfl, ⟨b4, rfl, b4L, b4U⟩, t0⟩ := t0
  obtain ⟨_, _, rfl, ⟨b5, rfl, b5L, b5U⟩, t0⟩ := t0
  obtain ⟨_, _, rfl, ⟨b6, rfl, b6L, b6U⟩, t0⟩ := t0
  obtain ⟨_, _, rfl, ⟨b7, rfl, b7L, b7U⟩, t0⟩ := t0
  obtain ⟨_, _, rfl, ⟨b8, rfl, b8L, b8U⟩, t0⟩ := t0
  obtain ⟨_, _, rfl, ⟨b9, rfl, b9L, b9U⟩, t0⟩ := t0
  obtain ⟨_, _, rfl, ⟨b10, rfl, b10L, b10U⟩, t0⟩ := t0
  obtain ⟨_, _, rfl, ⟨b11, rfl, b11L, b11U⟩, t0⟩ := t0
  obtain ⟨_, _, rfl, ⟨b12, rfl, b12L, b12U⟩, t0⟩ := t0
  obtain ⟨_, _, rfl, ⟨b13, rfl, b13L, b13U⟩, t0⟩ := t0
  obtain ⟨_, _, rfl, ⟨b14, rfl, b14L, b14U⟩, t0⟩ := t0
  obtain ⟨_, _, rfl, ⟨b15, rfl, b15L, b15U⟩, t0⟩ := t0
  obtain ⟨_, _, rfl, ⟨w0, rfl, w0L, w0U⟩, t0⟩ := t0
  obtain ⟨_, _, rfl, ⟨w1, rfl, w1L, w1U⟩, t0⟩ := t0
  obtain ⟨_, _, rfl, ⟨w2, rfl, w2L, w2U⟩, t0⟩ := t0
  obtain ⟨_, _, rfl, ⟨w3, rfl, w3L, w3U⟩, t0⟩ := t0
  obtain ⟨_, _, rfl, ⟨w4, rfl, w4L, w4U⟩, t0⟩ := t0
  obtain ⟨_, _, rfl, ⟨w5, rfl, w5L, w5U⟩, t0⟩ := t0
  obtain ⟨_, _, rfl, ⟨w6, rfl, w6L, w6U⟩, t0⟩ := t0
  obtain ⟨_, _, rfl, ⟨w7, rfl, w7L, w7U⟩, t0⟩ := t0
  obtain ⟨_, _, rfl, ⟨w8, rfl, w8L, w8U⟩, t0⟩ := t0
  obtain ⟨_, _, rfl, ⟨w9, rfl, w9L, w9U⟩, t0⟩ := t0
  obtain ⟨_, _, rfl, ⟨w10, rfl, w10L, w10U⟩, t0⟩ := t0
  obtain ⟨_, _, rfl, ⟨w11, rfl, w11L, w11U⟩, t0⟩ := t0
  obtain ⟨_, _, rfl, ⟨w12, rfl, w12L, w12U⟩, t0⟩ := t0
  obtain ⟨_, _, rfl, ⟨w13, rfl, w13L, w13U⟩, t0⟩ := t0
  obtain ⟨_, _, rfl, ⟨w14, rfl, w14L, w14U⟩, t0⟩ := t0
  obtain ⟨_, _, rfl, ⟨w15, rfl, w15L, w15U⟩, t0⟩ := t0
  obtain ⟨_, _, rfl, ⟨k0, rfl, k0K⟩, t0⟩ := t0
  obtain ⟨_, _, rfl, ⟨k1, rfl, k1K⟩, t0⟩ := t0
  obtain ⟨_, _, rfl, ⟨k2, rfl, k2K⟩, t0⟩ := t0
  obtain ⟨_, _, rfl, ⟨k3, rfl, k3K⟩, t0⟩ := t0
  obtain ⟨_, _, rfl, ⟨k4, rfl, k4K⟩, t0⟩ := t0
  obtain ⟨_, _, rfl, ⟨k5, rfl, k5K⟩, t0⟩ := t0
  obtain ⟨_, _, rfl, ⟨k6, rfl, k6K⟩, t0⟩ := t0
  obtain ⟨_, _, rfl, ⟨k7, rfl, k7K⟩, t0⟩ := t0
  obtain ⟨_, _, rfl, ⟨k8, rfl, k8K⟩, t0⟩ := t0
  obtain ⟨_, _, rfl, ⟨k9, rfl, k9K⟩, t0⟩ := t0
  obtain ⟨_, _, rfl, ⟨k10, rfl, k10K⟩, t0⟩ := t0
  obtain ⟨_, _, rfl, ⟨k11, rfl, k11K⟩, t0⟩ := t0
  obtain ⟨_, _, rfl, ⟨k12, rfl, k12K⟩, t0⟩ := t0
  obtain ⟨_, _, rfl, ⟨k13, rfl, k13K⟩, t0⟩ := t0
  obtain ⟨_, _, rfl, ⟨k14, rfl, k14K⟩, t0⟩ := t0
  obtain ⟨_, _, rfl, ⟨k15, rfl, k15K⟩, t0⟩ := t0
  obtain ⟨_, _, rfl, ⟨d, rfl, dK⟩, t0⟩ := t0
  have t0 := (t0 : _ = [])
  subst t0
  obtain ⟨g, hg, r⟩ : ∃ g : Gg, AV.agg (List.map (AV.int .i16) [b0, b1, b2, b3, b4, b5, b6, b7, b8, b9, b10, b11, b12, b13, b14, b15] ++ (List.map (AV.int .i16) [w0, w1, w2, w3, w4, w5, w6, w7, w8, w9, w10, w11, w12, w13, w14, w15] ++ (List.map (AV.flt .f32) [k0, k1, k2, k3, k4, k5, k6, k7, k8, k9, k10, k11, k12, k13, k14, k15] ++ [.flt .f32 d]))) = .agg (gF g) ∧ Rg n0 (Cf f0) g :=
    ⟨⟨fun i => [b0, b1, b2, b3, b4, b5, b6, b7, b8, b9, b10, b11, b12, b13, b14, b15].getD i 0, fun i => [w0, w1, w2, w3, w4, w5, w6, w7, w8, w9, w10, w11, w12, w13, w14, w15].getD i 0, fun i => [k0, k1, k2, k3, k4, k5, k6, k7, k8, k9, k10, k11, k12, k13, k14, k15].getD i none, d⟩, rfl, ⟨fun i hi => AllIn_get (l := [b0, b1, b2, b3, b4, b5, b6, b7, b8, b9, b10, b11, b12, b13, b14, b15]) ⟨⟨b0L, b0U⟩, ⟨b1L, b1U⟩, ⟨b2L, b2U⟩, ⟨b3L, b3U⟩, ⟨b4L, b4U⟩, ⟨b5L, b5U⟩, ⟨b6L, b6U⟩, ⟨b7L, b7U⟩, ⟨b8L, b8U⟩, ⟨b9L, b9U⟩, ⟨b10L, b10U⟩, ⟨b11L, b11U⟩, ⟨b12L, b12U⟩, ⟨b13L, b13U⟩, ⟨b14L, b14U⟩, ⟨b15L, b15U⟩, trivial⟩ i hi, fun i hi => AllIn_get (l := [w0, w1, w2, w3, w4, w5, w6, w7, w8, w9, w10, w11, w12, w13, w14, w15]) ⟨⟨w0L, w0U⟩, ⟨w1L, w1U⟩, ⟨w2L, w2U⟩, ⟨w3L, w3U⟩, ⟨w4L, w4U⟩, ⟨w5L, w5U⟩, ⟨w6L, w6U⟩, ⟨w7L, w7U⟩, ⟨w8L, w8U⟩, ⟨w9L, w9U⟩, ⟨w10L, w10U⟩, ⟨w11L, w11U⟩, ⟨w12L, w12U⟩, ⟨w13L, w13U⟩, ⟨w14L, w14U⟩, ⟨w15L, w15U⟩, trivial⟩ i hi, fun i => C5.AllO.getD (l := [k0, k1, k2, k3, k4, k5, k6, k7, k8, k9, k10, k11, k12, k13, k14, k15]) ⟨k0K, k1K, k2K, k3K, k4K, k5K, k6K, k7K, k8K, k9K, k10K, k11K, k12K, k13K, k14K, k15K, trivial⟩ i, hc⟩⟩
  have key : ∃ K, CallerTOk Try.prog K ∧ ∃ t, evF Try.prog K noL lawN lawD 3 [.agg (gF g), .slc 0 0 n0] [.rows false n0 17 (fun i => canonR sks 0 (f0 i))] = some (t, true) ∧ delit t.get.1 = .bool true := by
    rw [canon_row]
    revert r
    generalize Tf f0 = T
    generalize Cf f0 = C
    intro r
    refine ⟨lawK n0 T C g, lawK_ok r, .leaf (.bool (impB (ne n0 T C g) (lv n0)), none), ?_, ?_⟩
    · have h : evF Try.prog (lawK n0 T C g) noL lawN lawD 3 [.agg (gF g), .slc 0 0 n0] (roH n0 T C) = some (.leaf (.bool (impB (ne n0 T C g) (lv n0)), none),
        impB (!lv n0) (andB (okH n0 T C) (andB (oD n0 T C g) (andB (okH n0 T C) (andB (oD n0 T C g) (impB (!ne n0 T C g) (andB (okH n0 T C) (andB (okE n0 T C) true)))))))) := by kernel_rfl
      rw [law_ob1 ((lv_or ln0).imp id fun hn => ⟨okH_true hn T C, okE_true hn T C, oD_true hn T C g, oD_true hn T C g⟩)] at h
      exact h
    · rw [ne_false]
      cases lv n0 <;> rfl
  rw [← hg] at key
  exact key

set_option maxRecDepth 100000 in
theorem lifted (os : Os) (started : os.Started) (H : Type) (enc : TypeId × Value → H) :
    ReturnsInHanded {} Try.checked os 3 .any (Rows.fnExactCurvesOfSpec.pre6 enc Try.prog Try.f3 Rows.fnExactCurvesOfRow.domain false) (Rows.fnExactCurvesOfSpec.post enc Try.prog Try.f3 false true false false) := by
  refine returnsInHanded_of_change (C := Try.checked) sxOwn started (by kernel_rfl) Try.func3
    (ChangeSpec.witness6 (enc := enc) (C := Try.checked) false ⟨#[], #[.agg #[.int .i16 0, .int .i16 0, .int .i16 0, .int .i16 0, .int .i16 0, .int .i16 0, .int .i16 0, .int .i16 0, .int .i16 0, .int .i16 0, .int .i16 0, .int .i16 0, .int .i16 0, .int .i16 0, .int .i16 0, .int .i16 0, .int .i16 0, .int .i16 0, .int .i16 0, .int .i16 0, .int .i16 0, .int .i16 0, .int .i16 0, .int .i16 0, .int .i16 0, .int .i16 0, .int .i16 0, .int .i16 0, .int .i16 0, .int .i16 0, .int .i16 0, .int .i16 0, .float .f32 0, .float .f32 0, .float .f32 0, .float .f32 0, .float .f32 0, .float .f32 0, .float .f32 0, .float .f32 0, .float .f32 0, .float .f32 0, .float .f32 0, .float .f32 0, .float .f32 0, .float .f32 0, .float .f32 0, .float .f32 0, .float .f32 0], .slice none 0 0], []⟩ 8 (by kernel_rfl) (by kernel_rfl) (by kernel_rfl) (by kernel_rfl)) ?_
  intro W base args ds gs before hval0 hW hcnd _
  have hval : ∀ (j : Nat) t v, Try.f3.params[j]? = some t → args[j]? = some v → Value.okWide Try.prog W .any base t v := hval0
  have hW' := hW
  obtain ⟨p, q, hA0, hV, rfl, hfz, hnd⟩ := hW
  have hA : DataW.TrodAll enc Try.prog W 0 (fun _ => true) true Try.f3.params.toList args.toList ds p := hA0
  rw [Try.params3] at hA hval
  obtain ⟨v0, vs0, d0, ds0, p0, q0, hargs, rfl, rfl, h0, r0⟩ := trodAll_cons hA
  obtain ⟨v1, vs1, d1, ds1, p1, q1, rfl, rfl, rfl, h1, r1⟩ := trodAll_cons r0
  obtain ⟨rfl, rfl, rfl⟩ := trodAll_nil r1
  obtain rfl : args = #[v0, v1] := by cases args; simp_all
  obtain ⟨rfl, rfl⟩ := trodVars_none hV
  have hrel0 : HRel [] [] W := ⟨rfl, fun b x p h => by simp at h, fun b c x y p q _ h => by simp at h⟩
  have hro0 := ro_nil
  obtain ⟨n1, f1, pl1, ln1, tf1, hr1, ev1⟩ := arg_slice (e := 90) (D := 8) (ks := [.int .i64, .int .i16, .int .i16, .int .i16, .int .i16, .int .i16, .int .i16, .int .i16, .int .i16, .int .i16, .int .i16, .int .i16, .int .i16, .int .i16, .int .i16, .int .i16, .int .i16]) (hval 1 28 v1 rfl rfl) h1 (by kernel_rfl) (by kernel_rfl) (by kernel_rfl) (of_decide_eq_true (by kernel_rfl)) hrel0 hro0
  have hrel1 := HRel.canon hr1 (ro_app hro0) tf1
  have hro1 := ro_app (n := n1) (sz := 17) (f := fun i => canonR [.int .i64, .int .i16, .int .i16, .int .i16, .int .i16, .int .i16, .int .i16, .int .i16, .int .i16, .int .i16, .int .i16, .int .i16, .int .i16, .int .i16, .int .i16, .int .i16, .int .i16] 0 (f1 i)) hro0
  obtain ⟨l0, t0, e0⟩ := arg_agg (ρ := [pl1]) (ts := [22, 22, 22, 22, 22, 22, 22, 22, 22, 22, 22, 22, 22, 22, 22, 22, 22, 22, 22, 22, 22, 22, 22, 22, 22, 22, 22, 22, 22, 22, 22, 22, 24, 24, 24, 24, 24, 24, 24, 24, 24, 24, 24, 24, 24, 24, 24, 24, 24]) (ks := [.int .i16, .int .i16, .int .i16, .int .i16, .int .i16, .int .i16, .int .i16, .int .i16, .int .i16, .int .i16, .int .i16, .int .i16, .int .i16, .int .i16, .int .i16, .int .i16, .int .i16, .int .i16, .int .i16, .int .i16, .int .i16, .int .i16, .int .i16, .int .i16, .int .i16, .int .i16, .int .i16, .int .i16, .int .i16, .int .i16, .int .i16, .int .i16, .flt .f32, .flt .f32, .flt .f32, .flt .f32, .flt .f32, .flt .f32, .flt .f32, .flt .f32, .flt .f32, .flt .f32, .flt .f32, .flt .f32, .flt .f32, .flt .f32, .flt .f32, .flt .f32, .flt .f32]) (hval 0 27 v0 rfl rfl) (by kernel_rfl) (by kernel_rfl) (by kernel_rfl) (by kernel_rfl)
  have e1 : VRel [pl1] (.slc 0 0 n1) v1 := VRel.ext (fun b p hp => by revert hp; rcases b with _ | _ | _ | _ <;> simp) ev1
  have k0 := h0
  have lt0 : ∀ x ∈ p0, x.block < W.heap.size := by obtain ⟨m, hm⟩ := k0; exact DataW.trod_lt m _ _ _ hm
  have k1 := h1
  have lt1 : ∀ x ∈ p1, x.block < W.heap.size := by obtain ⟨m, hm⟩ := k1; exact DataW.trod_lt m _ _ _ hm
  have hargs : VRels [pl1] [.agg l0, .slc 0 0 n1] [v0, v1] := by
    simp only [VRels]
    exact ⟨v0, _, rfl, e0, ⟨v1, _, rfl, e1, rfl⟩⟩
  obtain ⟨lawK, lawK_ok, hlaw⟩ := law l0 t0 n1 ln1 f1 tf1
  refine (evF_true (K := lawK) (L := noL) (N := lawN) (d := lawD) sxApart sxMixed lawK_ok (fun _ _ _ _ => noL_ok) hlaw hrel1 hro1 hargs).mono fun e W' ⟨he, bel⟩ => ?_
  subst he
  exact ⟨_, rfl, _, _, _, [], _, [], hW', trodAll_mk1 (shut_bool Try.underlying4 _), (trodAll_cons_mk (Below.trod sxLaid (by kernel_rfl) (of_decide_eq_true (by kernel_rfl)) k0 bel lt0) (trodAll_cons_mk (Below.trod sxLaid (by kernel_rfl) (of_decide_eq_true (by kernel_rfl)) k1 bel lt1) trodAll_mk0)), rfl, bel.frame _, fun h => by cases h⟩

theorem over : Rows.fnExactCurvesOfRow.holds Try.pinned (OpenSpec.ofChange Rows.fnExactCurvesOfSpec) :=
  OpenClaim.holds_of_wide 3 Try.f3 rfl rfl rfl rfl rfl rfl rfl ⟨rfl, rfl, rfl, rfl, rfl⟩ rfl rfl rfl rfl rfl (by kernel_rfl) Try.func3 (by kernel_rfl)
    (of_decide_eq_true (by kernel_rfl)) (by unfold Func.isWrapper; first | (rw [if_pos (by decide +kernel)]; kernel_rfl) | (rw [if_neg (by decide +kernel)]; exact ⟨rfl, rfl⟩))
    (fun os started H enc _ => lifted os started H enc)

/-- The statement. -/
theorem proved : Rows.FnExactCurvesOfSaid := over
#print axioms proved
end Go.Proofs.Ytibdnhjldifpaaa.lawCurvesOf
