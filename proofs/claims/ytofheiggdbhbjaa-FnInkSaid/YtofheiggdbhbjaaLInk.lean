/- The law 'FnInk': ink is limited and black is put under as the law says, for all that it draws; no condition. -/
import Derived.Test.YtofheiggdbhbjaaRows
import Derived.WalkKit
import Derived.ProofKit
import Derived.OpenShut
import Derived.ChangeOld
import Derived.Below
import Derived.Test.YtofheiggdbhbjaaSxK2
import Derived.Test.YtofheiggdbhbjaaSxFr
import Derived.Test.YtofheiggdbhbjaaSxI12
namespace Go.Proofs.Ytofheiggdbhbjaa.lawInk
open Go.ChangeShapes Go.WideShapes Go.ChangeAt Go.RowKit Go.Sx
set_option linter.unusedVariables false
set_option linter.unusedSimpArgs false
set_option maxRecDepth 100000
def lawN : Nat := 20
def lawD : Nat := 8

open Go.Proofs.Ytofheiggdbhbjaa.I8 Go.Proofs.Ytofheiggdbhbjaa.I9 Go.Proofs.Ytofheiggdbhbjaa.I10 Go.Proofs.Ytofheiggdbhbjaa.I11 Go.Proofs.Ytofheiggdbhbjaa.I12 Go.Sx.Ink Go.Sx.C5 Go.Sx.R0 Go.Sx.Fl

def bf (f : Nat → List AV) (i : Nat) : Int := getI (gt (f i) 0)
theorem law (n0 : Nat) (ln0 : n0 ≤ 9223372036854775807) (f0 : Nat → List AV) (tf0 : ∀ i, i < n0 → Typed [.int .u8] (f0 i)) (n1 : Nat) (ln1 : n1 ≤ 9223372036854775807) (f1 : Nat → List AV) (tf1 : ∀ i, i < n1 → Typed [.int .u8] (f1 i)) :
    ∃ K, CallerTOk Try.prog K ∧ ∃ t, evF Try.prog K noL lawN lawD 3 [.slc 0 0 n0, .slc 1 0 n1] [.rows false n0 1 (fun i => canonR [.int .u8] 0 (f0 i)), .rows false n1 1 (fun i => canonR [.int .u8] 0 (f1 i))] = some (t, true) ∧ delit t.get.1 = .bool true := by
  have hg : ∀ i, i < n0 → 0 ≤ bf f0 i ∧ bf f0 i ≤ 255 := fun i hi => by
    obtain ⟨m, t, hm, ⟨x, rfl, h1, h2⟩, _⟩ := tf0 i hi
    unfold bf; rw [hm]; exact ⟨h1, h2⟩
  have hh : ∀ i, i < n1 → 0 ≤ bf f1 i ∧ bf f1 i ≤ 255 := fun i hi => by
    obtain ⟨m, t, hm, ⟨x, rfl, h1, h2⟩, _⟩ := tf1 i hi
    unfold bf; rw [hm]; exact ⟨h1, h2⟩
  show ∃ K, CallerTOk Try.prog K ∧ ∃ t, evF Try.prog K noL 20 8 3 [.slc 0 0 n0, .slc 1 0 n1] [.rows false n0 1 (ur (bf f0)), .rows false n1 1 (ur (bf f1))] = some (t, true) ∧ delit t.get.1 = .bool true
  generalize bf f0 = g at *
  generalize bf f1 = h at *
  obtain ⟨k0, h0, e0⟩ := xv_lt hg (m := 33) (by omega) 0
  obtain ⟨k1, h1, e1⟩ := xv_lt hg (m := 33) (by omega) 1
  obtain ⟨k2, h2, e2⟩ := xv_lt hg (m := 33) (by omega) 2
  obtain ⟨k3, h3, e3⟩ := xv_lt hg (m := 33) (by omega) 3
  obtain ⟨L, hL, eL⟩ := xv_lt hh (m := 17) (by omega) 0
  obtain ⟨s, hs, es⟩ := xv_lt hh (m := 9) (by omega) 0
  have hC := coverOk n0 g
  have hP := pickOk n1 h
  have e0 : gr w32 (xv n0 g 33 0) = cv k0 := by unfold cv; rw [← e0]; rfl
  have e1 : gr w32 (xv n0 g 33 1) = cv k1 := by unfold cv; rw [← e1]; rfl
  have e2 : gr w32 (xv n0 g 33 2) = cv k2 := by unfold cv; rw [← e2]; rfl
  have e3 : gr w32 (xv n0 g 33 3) = cv k3 := by unfold cv; rw [← e3]; rfl
  rw [e0, e1, e2, e3] at hC
  rw [show xv n1 h 17 0 = Int.ofNat L from eL, show xv n1 h 9 0 = Int.ofNat s from es] at hP
  have h0 : k0 ≤ 32 := by omega
  have h1 : k1 ≤ 32 := by omega
  have h2 : k2 ≤ 32 := by omega
  have h3 : k3 ≤ 32 := by omega
  have hL : L ≤ 16 := by omega
  have hs : s ≤ 8 := by omega
  obtain ⟨d0, d1, d2, d3, ⟨l⟩⟩ := lim h0 h1 h2 h3 hL
  have hlaw := eLaw n0 n1 g h (cv k0) (cv k1) (cv k2) (cv k3) d0 d1 d2 d3 (Int.ofNat L) (Int.ofNat s)
  rw [show gr 1082130432 (Int.ofNat L) = lv L from rfl, show gr 1090519040 (Int.ofNat s) = sv s from rfl] at hlaw
  have hS := leS_cv h0 h1 h2
  have hk0 : NV (cv k0) _ := cv_NV h0
  have cC : cov (cv k0) (cv k1) (cv k2) (cv k3) = true := cov_NV (cv_NV h0) (cv_NV h1) (cv_NV h2) (cv_NV h3) (k69 h0) (k69 h1) (k69 h2) (k69 h3)
  have cD : cov d0 d1 d2 d3 = true := cov_NV l.a l.b l.c l.d (Nat.le_trans l.ha (k69 h0)) (Nat.le_trans l.hb (k69 h1)) (Nat.le_trans l.hc (k69 h2)) (Nat.le_trans l.hd (k69 h3))
  rw [p1_no h0 h1 h2 h3 hL l, p2_no h0 l.a l.ha, p2_no h1 l.b l.hb, p2_no h2 l.c l.hc, p2_no h3 l.d l.hd, p3_no h0 h1 h2 h3 hs,
    p4_no (ud_NV hs (by omega) h0 hS), p4_no (ud_NV hs (by omega) h1 hS), p4_no (ud_NV hs (by omega) h2 hS),
    okCv_true, okPk_true, okPk_true, okLm_true, covI_cov, covI_cov, cC, cD, sh_sv hs, sh_NV NV0 (Nat.zero_le _),
    nr_ud h0 h1 h2 h0 (by omega) hs, nr_ud h0 h1 h2 h1 (by omega) hs, nr_ud h0 h1 h2 h2 (by omega) hs, nr_bk h0 h1 h2 h3 hs] at hlaw
  refine ⟨lawK n0 n1 g h (cv k0) (cv k1) (cv k2) (cv k3) d0 d1 d2 d3 (Int.ofNat L) (Int.ofNat s), addK_ok nearOk (addK_ok hC (addK_ok hP (addK_ok (lmI l.eI) (addK_ok (lmS l.eS) (addK_ok inkOk (addK_ok pbI (addK_ok pbS extK_ok))))))),
    .leaf (.bool (I11.V (big n0 n1) false false false false false false false false false), none), ?_, ?_⟩
  · have ho : O (big n0 n1) false false false false false false false false false true true true true true true true (andB true true) (andB true true) (andB true true) true true true true = true := by cases big n0 n1 <;> rfl
    rw [ho] at hlaw
    exact hlaw
  · show AV.bool (I11.V (big n0 n1) false false false false false false false false false) = .bool true
    cases big n0 n1 <;> rfl

set_option maxRecDepth 100000 in
theorem lifted (os : Os) (started : os.Started) (H : Type) (enc : TypeId × Value → H) :
    ReturnsInHanded {} Try.checked os 3 .any (Rows.fnInkSpec.pre6 enc Try.prog Try.f3 Rows.fnInkRow.domain false) (Rows.fnInkSpec.post enc Try.prog Try.f3 false true false false) := by
  refine returnsInHanded_of_change (C := Try.checked) sxOwn started (by kernel_rfl) Try.func3
    (ChangeSpec.witness6 (enc := enc) (C := Try.checked) false ⟨#[], #[.slice none 0 0, .slice none 0 0], []⟩ 8 (by kernel_rfl) (by kernel_rfl) (by kernel_rfl) (by kernel_rfl)) ?_
  intro W base args ds gs before hval0 hW hcnd _
  have hval : ∀ (j : Nat) t v, Try.f3.params[j]? = some t → args[j]? = some v → Value.okWide Try.prog W .any base t v := hval0
  have hW' := hW
  obtain ⟨p, q, hA0, hV, rfl, hfz, hnd⟩ := hW
  have hA : DataW.TrodAll enc Try.prog W 0 (fun _ => true) true Try.f3.params.toList args.toList ds p := hA0
  rw [Try.params3] at hA hval
  obtain ⟨v0, vs0, d0, ds0, p0, q0, hargs, rfl, rfl, h0, r0⟩ := trodAll_cons hA
  obtain ⟨v1, vs1, d1, ds1, p1, q1, rfl, rfl, rfl, h1, r1⟩ := trodAll_cons r0
  obtain ⟨rfl, rfl, rfl⟩ := trodAll_nil r1
  obtain rfl : args = #[v0, v1] := by cases args; simp_all
  obtain ⟨rfl, rfl⟩ := trodVars_none hV
  have hrel0 : HRel [] [] W := ⟨rfl, fun b x p h => by simp at h, fun b c x y p q _ h => by simp at h⟩
  have hro0 := ro_nil
  obtain ⟨n0, f0, pl0, ln0, tf0, hr0, ev0⟩ := arg_slice (e := 5) (D := 8) (ks := [.int .u8]) (hval 0 22 v0 rfl rfl) h0 (by kernel_rfl) (by kernel_rfl) (by kernel_rfl) (of_decide_eq_true (by kernel_rfl)) hrel0 hro0
  have hrel1 := HRel.canon hr0 (ro_app hro0) tf0
  have hro1 := ro_app (n := n0) (sz := 1) (f := fun i => canonR [.int .u8] 0 (f0 i)) hro0
  obtain ⟨n1, f1, pl1, ln1, tf1, hr1, ev1⟩ := arg_slice (e := 5) (D := 8) (ks := [.int .u8]) (hval 1 22 v1 rfl rfl) h1 (by kernel_rfl) (by kernel_rfl) (by kernel_rfl) (of_decide_eq_true (by kernel_rfl)) hrel1 hro1
  have hrel2 := HRel.canon hr1 (ro_app hro1) tf1
  have hro2 := ro_app (n := n1) (sz := 1) (f := fun i => canonR [.int .u8] 0 (f1 i)) hro1
  have e0 : VRel [pl0, pl1] (.slc 0 0 n0) v0 := VRel.ext (fun b p hp => by revert hp; rcases b with _ | _ | _ | _ <;> simp) ev0
  have e1 : VRel [pl0, pl1] (.slc 1 0 n1) v1 := VRel.ext (fun b p hp => by revert hp; rcases b with _ | _ | _ | _ <;> simp) ev1
  have k0 := h0
  have lt0 : ∀ x ∈ p0, x.block < W.heap.size := by obtain ⟨m, hm⟩ := k0; exact DataW.trod_lt m _ _ _ hm
  have k1 := h1
  have lt1 : ∀ x ∈ p1, x.block < W.heap.size := by obtain ⟨m, hm⟩ := k1; exact DataW.trod_lt m _ _ _ hm
  have hargs : VRels [pl0, pl1] [.slc 0 0 n0, .slc 1 0 n1] [v0, v1] := by
    simp only [VRels]
    exact ⟨v0, _, rfl, e0, ⟨v1, _, rfl, e1, rfl⟩⟩
  obtain ⟨lawK, lawK_ok, hlaw⟩ := law n0 ln0 f0 tf0 n1 ln1 f1 tf1
  refine (evF_true (K := lawK) (L := noL) (N := lawN) (d := lawD) sxApart sxMixed lawK_ok (fun _ _ _ _ => noL_ok) hlaw hrel2 hro2 hargs).mono fun e W' ⟨he, bel⟩ => ?_
  subst he
  exact ⟨_, rfl, _, _, _, [], _, [], hW', trodAll_mk1 (shut_bool Try.underlying4 _), (trodAll_cons_mk (Below.trod sxLaid (by kernel_rfl) (of_decide_eq_true (by kernel_rfl)) k0 bel lt0) (trodAll_cons_mk (Below.trod sxLaid (by kernel_rfl) (of_decide_eq_true (by kernel_rfl)) k1 bel lt1) trodAll_mk0)), rfl, bel.frame _, fun h => by cases h⟩

theorem over : Rows.fnInkRow.holds Try.pinned (OpenSpec.ofChange Rows.fnInkSpec) :=
  OpenClaim.holds_of_wide 3 Try.f3 rfl rfl rfl rfl rfl rfl rfl ⟨rfl, rfl, rfl, rfl, rfl⟩ rfl rfl rfl rfl rfl (by kernel_rfl) Try.func3 (by kernel_rfl)
    (of_decide_eq_true (by kernel_rfl)) (by unfold Func.isWrapper; first | (rw [if_pos (by decide +kernel)]; kernel_rfl) | (rw [if_neg (by decide +kernel)]; exact ⟨rfl, rfl⟩))
    (fun os started H enc _ => lifted os started H enc)

/-- The statement. -/
theorem proved : Rows.FnInkSaid := over
#print axioms proved
end Go.Proofs.Ytofheiggdbhbjaa.lawInk
