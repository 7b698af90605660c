/- Texts of one claim, put together. -/
import Derived.Test.YtpnjimpiphbcfaaRows
import Derived.WalkKit
import Derived.ProofKit
import Derived.OpenShut
import Derived.ChangeOld
import Derived.Below
import Derived.Test.YtpnjimpiphbcfaaSxK2
import Derived.Test.YtpnjimpiphbcfaaSxFr
import Derived.Test.YtpnjimpiphbcfaaG3
namespace Go.Proofs.Ytpnjimpiphbcfaa.lawGains
open Go.ChangeShapes Go.WideShapes Go.ChangeAt Go.RowKit Go.Sx
set_option linter.unusedVariables false
set_option linter.unusedSimpArgs false
set_option maxRecDepth 100000
def lawN : Nat := 20
def lawD : Nat := 8

open Go.Proofs.Ytpnjimpiphbcfaa.J1 Go.Proofs.Ytpnjimpiphbcfaa.J4 Go.Proofs.Ytpnjimpiphbcfaa.J5 Go.Proofs.Ytpnjimpiphbcfaa.J6 Go.Proofs.Ytpnjimpiphbcfaa.V5 Go.Proofs.Ytpnjimpiphbcfaa.T5 Go.Proofs.Ytpnjimpiphbcfaa.J7 Go.Proofs.Ytpnjimpiphbcfaa.J8 Go.Sx.Ink Go.Sx.C5 Go.Sx.R0 Go.Sx.Fl

def bf (f : Nat → List AV) (i : Nat) : Int := getI (gt (f i) 0)
theorem law (n0 : Nat) (ln0 : n0 ≤ 9223372036854775807) (f0 : Nat → List AV) (tf0 : ∀ i, i < n0 → Typed [.int .u8] (f0 i)) (n1 : Nat) (ln1 : n1 ≤ 9223372036854775807) (f1 : Nat → List AV) (tf1 : ∀ i, i < n1 → Typed [.int .u8] (f1 i)) :
    ∃ K, CallerTOk Try.prog K ∧ ∃ t, evF Try.prog K noL lawN lawD 4 [.slc 0 0 n0, .slc 1 0 n1] [.rows false n0 1 (fun i => canonR [.int .u8] 0 (f0 i)), .rows false n1 1 (fun i => canonR [.int .u8] 0 (f1 i))] = some (t, true) ∧ delit t.get.1 = .bool true := by
  have hg : ∀ i, i < n0 → 0 ≤ bf f0 i ∧ bf f0 i ≤ 255 := fun i hi => by
    obtain ⟨m, t, hm, ⟨x, rfl, h1, h2⟩, _⟩ := tf0 i hi
    unfold bf; rw [hm]; exact ⟨h1, h2⟩
  have hh : ∀ i, i < n1 → 0 ≤ bf f1 i ∧ bf f1 i ≤ 255 := fun i hi => by
    obtain ⟨m, t, hm, ⟨x, rfl, h1, h2⟩, _⟩ := tf1 i hi
    unfold bf; rw [hm]; exact ⟨h1, h2⟩
  show ∃ K, CallerTOk Try.prog K ∧ ∃ t, evF Try.prog K noL 20 8 4 [.slc 0 0 n0, .slc 1 0 n1] [.rows false n0 1 (J1.ur (bf f0)), .rows false n1 1 (J1.ur (bf f1))] = some (t, true) ∧ delit t.get.1 = .bool true
  generalize bf f0 = g at *
  generalize bf f1 = h at *
  obtain ⟨G, hG, eG⟩ := xp_lt hg (m := 9) (by omega) 0 0
  obtain ⟨k, hk, ek⟩ := xp_lt hh (m := 33) (by omega) 0 0
  obtain ⟨i, hi, ei⟩ := xp_lt hh (m := 4) (by omega) 0 0
  have hk : k ≤ 32 := by omega
  have hf := prs_Sh hg
  have hc := cvI_Sh (i := i) hk
  obtain ⟨s1, s2, e1, e2, s3, s4⟩ := okG_p (okG_of (j := G) (by omega) hk)
  have z1 : sh (some 0) = true := sh_LE zero_LE
  have z2 : sh one = true := sh_LE ⟨_, NV_one, Nat.le_refl _⟩
  have hv : fcmp .lss .f32 (vv n0 g i (Int.ofNat k)) (qg (Int.ofNat k)) = false := by
    obtain ⟨d⟩ := prs_drawn hg
    unfold vv
    rw [d.gain, show cvI i (qg (Int.ofNat k)) i = qg (Int.ofNat k) by unfold cvI; rw [Nat.beq_refl]; rfl]
    exact cW_of d.hG hk
  obtain ⟨t4, t3⟩ := seen_ok (prs n0 g) (prF n0 g i (Int.ofNat k)) i
  have e3 : p3 (vv n0 g i (Int.ofNat k)) (qg (Int.ofNat k)) (vx (prs n0 g) (prF n0 g i (Int.ofNat k)) i) (ve (prs n0 g) (prF n0 g i (Int.ofNat k)) i) = false := by
    unfold p3
    rw [hv, t3, show (ve (prs n0 g) (prF n0 g i (Int.ofNat k)) i == ve (prs n0 g) (prF n0 g i (Int.ofNat k)) i) = true from beq_self_eq_true _]; rfl
  have key : evF Try.prog (lawK n0 n1 g h (Int.ofNat G) (Int.ofNat k) i) noL 20 8 4 [.slc 0 0 n0, .slc 1 0 n1] [.rows false n0 1 (J1.ur g), .rows false n1 1 (J1.ur h)] =
      some (.leaf (.bool (J7.V (big n0 n1) (p1 (qg (Int.ofNat G)) (qg (Int.ofNat k))) (p2 (qg (Int.ofNat G)) (qg (Int.ofNat k))) (p3 (vv n0 g i (Int.ofNat k)) (qg (Int.ofNat k)) (vx (prs n0 g) (prF n0 g i (Int.ofNat k)) i) (ve (prs n0 g) (prF n0 g i (Int.ofNat k)) i)) (p4 (vx (prs n0 g) (prF n0 g i (Int.ofNat k)) i) (ve (prs n0 g) (prF n0 g i (Int.ofNat k)) i))), none),
        J7.O (big n0 n1) (p1 (qg (Int.ofNat G)) (qg (Int.ofNat k))) (p2 (qg (Int.ofNat G)) (qg (Int.ofNat k))) (okPk n0 g 9) (okPk n1 h 33) (andB (sh (qg (Int.ofNat G))) (sh (qg (Int.ofNat k)))) (andB (sh (qg (Int.ofNat G))) (sh (qg (Int.ofNat k)))) (andB (sh (qg (Int.ofNat G))) (sh (some 0))) (andB (sh (qg (Int.ofNat G))) (sh one)) (andB (sh (qg (Int.ofNat G))) (sh (qg (Int.ofNat k)))) (andB (sh (qg (Int.ofNat G))) (sh (cb (qg (Int.ofNat G)) (qg (Int.ofNat k))))) (obN (fop .sub .f32 (grow (qg (Int.ofNat G)) (cb (qg (Int.ofNat G)) (qg (Int.ofNat k)))) (qg (Int.ofNat k))))
          (okPs n0 g) (okPk n1 h 4) (okCG (prs n0 g) (cvI i (qg (Int.ofNat k)))) (okPC (prs n0 g) (cvI i (qg (Int.ofNat k)))) (okCS (prs n0 g) (prF n0 g i (Int.ofNat k)) i) (okCS (prs n0 g) (prF n0 g i (Int.ofNat k)) i)) := by
    rcases i with _ | _ | _ | _ | i
    · exact eLaw0 n0 n1 g h _ _
    · exact eLaw1 n0 n1 g h _ _
    · exact eLaw2 n0 n1 g h _ _
    · exact eLaw3 n0 n1 g h _ _
    · omega
  have s1 : sh (qg (Int.ofNat G)) = true := s1
  have s2 : sh (qg (Int.ofNat k)) = true := s2
  have s3 : sh (cb (qg (Int.ofNat G)) (qg (Int.ofNat k))) = true := s3
  have s4 : obN (fop .sub .f32 (grow (qg (Int.ofNat G)) (cb (qg (Int.ofNat G)) (qg (Int.ofNat k)))) (qg (Int.ofNat k))) = true := s4
  have e1 : p1 (qg (Int.ofNat G)) (qg (Int.ofNat k)) = false := e1
  have e2 : p2 (qg (Int.ofNat G)) (qg (Int.ofNat k)) = false := e2
  rw [e1, e2, e3, t4, okPk_true, okPk_true, okPk_true, s1, s2, s3, s4, z1, z2, okPs_true, show okCG (prs n0 g) (cvI i (qg (Int.ofNat k))) = true from okPC_true _ _, okPC_true, okCS_true] at key
  have hK : CallerTOk Try.prog (lawK n0 n1 g h (Int.ofNat G) (Int.ofNat k) i) := addK_ok nearOk (addK_ok (pickOk n0 n1 g h eG ek ei) (addK_ok gnI (addK_ok gnS (addK_ok cbI (addK_ok (pressOk n0 g) (addK_ok (cgI hf hc) (addK_ok (pcI hf hc) (addK_ok (csI hf hi) (addK_ok (csS hf hi) extK_ok)))))))))
  refine ⟨_, hK, .leaf (.bool (J7.V (big n0 n1) false false false true), none), ?_, ?_⟩
  · have ho : J7.O (big n0 n1) false false true true (andB true true) (andB true true) (andB true true) (andB true true) (andB true true) (andB true true) true true true true true true true = true := by cases big n0 n1 <;> rfl
    rw [ho] at key
    exact key
  · show AV.bool (J7.V (big n0 n1) false false false true) = .bool true
    cases big n0 n1 <;> rfl

set_option maxRecDepth 100000 in
theorem lifted (os : Os) (started : os.Started) (H : Type) (enc : TypeId × Value → H) :
    ReturnsInHanded {} Try.checked os 4 .any (Rows.fnGainsSpec.pre6 enc Try.prog Try.f4 Rows.fnGainsRow.domain false) (Rows.fnGainsSpec.post enc Try.prog Try.f4 false true false false) := by
  refine returnsInHanded_of_change (C := Try.checked) sxOwn started (by kernel_rfl) Try.func4
    (ChangeSpec.witness6 (enc := enc) (C := Try.checked) false ⟨#[], #[.slice none 0 0, .slice none 0 0], []⟩ 8 (by kernel_rfl) (by kernel_rfl) (by kernel_rfl) (by kernel_rfl)) ?_
  intro W base args ds gs before hval0 hW hcnd _
  have hval : ∀ (j : Nat) t v, Try.f4.params[j]? = some t → args[j]? = some v → Value.okWide Try.prog W .any base t v := hval0
  have hW' := hW
  obtain ⟨p, q, hA0, hV, rfl, hfz, hnd⟩ := hW
  have hA : DataW.TrodAll enc Try.prog W 0 (fun _ => true) true Try.f4.params.toList args.toList ds p := hA0
  rw [Try.params4] at hA hval
  obtain ⟨v0, vs0, d0, ds0, p0, q0, hargs, rfl, rfl, h0, r0⟩ := trodAll_cons hA
  obtain ⟨v1, vs1, d1, ds1, p1, q1, rfl, rfl, rfl, h1, r1⟩ := trodAll_cons r0
  obtain ⟨rfl, rfl, rfl⟩ := trodAll_nil r1
  obtain rfl : args = #[v0, v1] := by cases args; simp_all
  obtain ⟨rfl, rfl⟩ := trodVars_none hV
  have hrel0 : HRel [] [] W := ⟨rfl, fun b x p h => by simp at h, fun b c x y p q _ h => by simp at h⟩
  have hro0 := ro_nil
  obtain ⟨n0, f0, pl0, ln0, tf0, hr0, ev0⟩ := arg_slice (e := 5) (D := 8) (ks := [.int .u8]) (hval 0 22 v0 rfl rfl) h0 (by kernel_rfl) (by kernel_rfl) (by kernel_rfl) (of_decide_eq_true (by kernel_rfl)) hrel0 hro0
  have hrel1 := HRel.canon hr0 (ro_app hro0) tf0
  have hro1 := ro_app (n := n0) (sz := 1) (f := fun i => canonR [.int .u8] 0 (f0 i)) hro0
  obtain ⟨n1, f1, pl1, ln1, tf1, hr1, ev1⟩ := arg_slice (e := 5) (D := 8) (ks := [.int .u8]) (hval 1 22 v1 rfl rfl) h1 (by kernel_rfl) (by kernel_rfl) (by kernel_rfl) (of_decide_eq_true (by kernel_rfl)) hrel1 hro1
  have hrel2 := HRel.canon hr1 (ro_app hro1) tf1
  have hro2 := ro_app (n := n1) (sz := 1) (f := fun i => canonR [.int .u8] 0 (f1 i)) hro1
  have e0 : VRel [pl0, pl1] (.slc 0 0 n0) v0 := VRel.ext (fun b p hp => by revert hp; rcases b with _ | _ | _ | _ <;> simp) ev0
  have e1 : VRel [pl0, pl1] (.slc 1 0 n1) v1 := VRel.ext (fun b p hp => by revert hp; rcases b with _ | _ | _ | _ <;> simp) ev1
  have k0 := h0
  have lt0 : ∀ x ∈ p0, x.block < W.heap.size := by obtain ⟨m, hm⟩ := k0; exact DataW.trod_lt m _ _ _ hm
  have k1 := h1
  have lt1 : ∀ x ∈ p1, x.block < W.heap.size := by obtain ⟨m, hm⟩ := k1; exact DataW.trod_lt m _ _ _ hm
  have hargs : VRels [pl0, pl1] [.slc 0 0 n0, .slc 1 0 n1] [v0, v1] := by
    simp only [VRels]
    exact ⟨v0, _, rfl, e0, ⟨v1, _, rfl, e1, rfl⟩⟩
  obtain ⟨lawK, lawK_ok, hlaw⟩ := law n0 ln0 f0 tf0 n1 ln1 f1 tf1
  refine (evF_true (K := lawK) (L := noL) (N := lawN) (d := lawD) sxApart sxMixed lawK_ok (fun _ _ _ _ => noL_ok) hlaw hrel2 hro2 hargs).mono fun e W' ⟨he, bel⟩ => ?_
  subst he
  exact ⟨_, rfl, _, _, _, [], _, [], hW', trodAll_mk1 (shut_bool Try.underlying4 _), (trodAll_cons_mk (Below.trod sxLaid (by kernel_rfl) (of_decide_eq_true (by kernel_rfl)) k0 bel lt0) (trodAll_cons_mk (Below.trod sxLaid (by kernel_rfl) (of_decide_eq_true (by kernel_rfl)) k1 bel lt1) trodAll_mk0)), rfl, bel.frame _, fun h => by cases h⟩

theorem over : Rows.fnGainsRow.holds Try.pinned (OpenSpec.ofChange Rows.fnGainsSpec) :=
  OpenClaim.holds_of_wide 4 Try.f4 rfl rfl rfl rfl rfl rfl rfl ⟨rfl, rfl, rfl, rfl, rfl⟩ rfl rfl rfl rfl rfl (by kernel_rfl) Try.func4 (by kernel_rfl)
    (of_decide_eq_true (by kernel_rfl)) (by unfold Func.isWrapper; first | (rw [if_pos (by decide +kernel)]; kernel_rfl) | (rw [if_neg (by decide +kernel)]; exact ⟨rfl, rfl⟩))
    (fun os started H enc _ => lifted os started H enc)

/-- The statement. -/
theorem proved : Rows.FnGainsSaid := over
#print axioms proved
end Go.Proofs.Ytpnjimpiphbcfaa.lawGains
