/- Texts of one claim, put together. -/
import Derived.Test.YtpnjimpiphbcfaaRows
import Derived.WalkKit
import Derived.ProofKit
import Derived.OpenShut
import Derived.ChangeOld
import Derived.Below
import Derived.Test.YtpnjimpiphbcfaaSxK2
import Derived.Test.YtpnjimpiphbcfaaSxFr
import Derived.Test.YtpnjimpiphbcfaaG4
namespace Go.Proofs.Ytpnjimpiphbcfaa.lawPrinted
open Go.ChangeShapes Go.WideShapes Go.ChangeAt Go.RowKit Go.Sx
set_option linter.unusedVariables false
set_option linter.unusedSimpArgs false
set_option maxRecDepth 100000
def lawN : Nat := 20
def lawD : Nat := 8

open Go.Proofs.Ytpnjimpiphbcfaa.J1 Go.Proofs.Ytpnjimpiphbcfaa.J2 Go.Proofs.Ytpnjimpiphbcfaa.J3 Go.Proofs.Ytpnjimpiphbcfaa.J4 Go.Proofs.Ytpnjimpiphbcfaa.J5 Go.Proofs.Ytpnjimpiphbcfaa.V5 Go.Proofs.Ytpnjimpiphbcfaa.X5 Go.Proofs.Ytpnjimpiphbcfaa.Y5 Go.Proofs.Ytpnjimpiphbcfaa.Y6 Go.Proofs.Ytpnjimpiphbcfaa.Y7 Go.Sx.Ink Go.Sx.C5 Go.Sx.R0 Go.Sx.Fl

def bf (f : Nat → List AV) (i : Nat) : Int := getI (gt (f i) 0)
theorem law (n0 : Nat) (ln0 : n0 ≤ 9223372036854775807) (f0 : Nat → List AV) (tf0 : ∀ i, i < n0 → Typed [.int .u8] (f0 i)) (n1 : Nat) (ln1 : n1 ≤ 9223372036854775807) (f1 : Nat → List AV) (tf1 : ∀ i, i < n1 → Typed [.int .u8] (f1 i)) :
    ∃ K L, CallerTOk Try.prog K ∧ LOk Try.prog 2 5 L ∧ ∃ t, evF Try.prog K L lawN lawD 5 [.slc 0 0 n0, .slc 1 0 n1] [.rows false n0 1 (fun i => canonR [.int .u8] 0 (f0 i)), .rows false n1 1 (fun i => canonR [.int .u8] 0 (f1 i))] = some (t, true) ∧ delit t.get.1 = .bool true := by
  have hg : ∀ i, i < n0 → 0 ≤ bf f0 i ∧ bf f0 i ≤ 255 := fun i hi => by
    obtain ⟨m, t, hm, ⟨x, rfl, h1, h2⟩, _⟩ := tf0 i hi
    unfold bf; rw [hm]; exact ⟨h1, h2⟩
  have hh : ∀ i, i < n1 → 0 ≤ bf f1 i ∧ bf f1 i ≤ 255 := fun i hi => by
    obtain ⟨m, t, hm, ⟨x, rfl, h1, h2⟩, _⟩ := tf1 i hi
    unfold bf; rw [hm]; exact ⟨h1, h2⟩
  show ∃ K L, CallerTOk Try.prog K ∧ LOk Try.prog 2 5 L ∧ ∃ t, evF Try.prog K L 20 8 5 [.slc 0 0 n0, .slc 1 0 n1] [.rows false n0 1 (J1.ur (bf f0)), .rows false n1 1 (J1.ur (bf f1))] = some (t, true) ∧ delit t.get.1 = .bool true
  generalize bf f0 = g at *
  generalize bf f1 = h at *
  obtain ⟨nn, hnn, en⟩ := xp_lt hh (m := 16) (by omega) 0 0
  obtain ⟨i, hi, ei⟩ := xp_lt hg (m := 4) (by omega) 0 0
  obtain ⟨d⟩ := prs_drawn hg
  have hf := J7.prs_Sh hg
  obtain ⟨k, hk, ek⟩ := cvr_grid hh
  have gc : Grid (cvr n1 h) fun j => 2 * k j := fun j _ => ⟨by rw [ek j]; exact (cz_of (hk j)).1, by have := hk j; show 2 * k j ≤ 64; omega⟩
  have gd : Grid (dc (cvr n1 h) i) fun j => bif Nat.beq j i then k j + 32 else 2 * k j := fun j hj => by
    unfold dc
    have hkj := hk j
    show (bif Nat.beq j i then fop .quo .f32 (fop .add .f32 (cvr n1 h i) (some 1065353216)) (some 1073741824) else cvr n1 h j) = gr w64 (Int.ofNat (bif Nat.beq j i then k j + 32 else 2 * k j)) ∧ (bif Nat.beq j i then k j + 32 else 2 * k j) ≤ 64
    by_cases hji : j = i
    · subst hji
      rw [Nat.beq_refl]
      refine ⟨?_, ?_⟩
      · show fop .quo .f32 (fop .add .f32 (cvr n1 h j) (some 1065353216)) (some 1073741824) = gr w64 (Int.ofNat (k j + 32))
        rw [ek j]
        exact (cz_of (hk j)).2
      · show k j + 32 ≤ 64
        omega
    · rw [beq_ne hji]
      exact gc j hj
  have gf : Grid (fu (kb nn) 4) fun j => bif kb nn j then 64 else 0 := fun j hj => by
    unfold fu
    rw [blt_lt hj]
    show (bif true then bif kb nn j then some 1065353216 else some 0 else some 0) = gr w64 (Int.ofNat (bif kb nn j then 64 else 0)) ∧ (bif kb nn j then 64 else 0) ≤ 64
    cases kb nn j
    · exact ⟨z64.1.symm, Nat.zero_le _⟩
    · exact ⟨z64.2.symm, Nat.le_refl _⟩
  have hr := gc.raw
  have hc := gc.sh
  have bad : ∀ j, j < 16 → bd (pp (prs n0 g) (cvr n1 h)) (pp (prs n0 g) (dc (cvr n1 h) i)) j = false := fun j hj => by
    refine more_no hf d.hG d.gain gc gd hi (fun x hx => ?_) ?_ hj
    · show (bif Nat.beq x i then k x + 32 else 2 * k x) = 2 * k x
      rw [beq_ne hx]; rfl
    · show gm d.G (2 * k i) ≤ gm d.G (bif Nat.beq i i then k i + 32 else 2 * k i)
      rw [Nat.beq_refl]
      exact gm_mono d.hG (hk i)
  obtain ⟨s1, s2⟩ := sum_one hr
  have key : evF Try.prog (lawK n0 n1 g h (prs n0 g) (cvr n1 h) nn i) (LP n0 n1 g h (prs n0 g) (cvr n1 h) nn i) 20 8 5 [.slc 0 0 n0, .slc 1 0 n1] [.rows false n0 1 (J1.ur g), .rows false n1 1 (J1.ur h)] = some (.leaf (.bool (Y6.V (big n0 n1) true true true), none), true) := by
    have oG : ∀ {c : Nat → Option Nat}, ShC c → okG (prs n0 g) c = true := fun {c} h => okPG_true fun j hj => by
      have := h j hj
      rcases j with _ | _ | _ | _ | j
      · exact this
      · exact this
      · exact this
      · exact this
      · omega
    have fin : ∀ {b E N z o1 o2 o3 o4 o5 o6 l1 qN p16 o9 l2 oo u1 o10 o7 u2 u3 o8 p4 u4 l3 : Bool}, E = true → N = true → z = true → o1 = true → o2 = true → o3 = true → o4 = true → o5 = true → o6 = true → l1 = true → qN = true → p16 = true → o9 = true → l2 = true → oo = true → u1 = true → o10 = true → o7 = true → u2 = true → u3 = true → o8 = true → p4 = true → u4 = true → l3 = true →
        ∀ {X : Option (Tr (AV × Option (List Blk)) × Bool)}, X = some (.leaf (.bool (Y6.V b E N z), none), Y6.O b E N z o1 o2 o3 o4 o5 o6 l1 qN p16 o9 l2 oo u1 o10 o7 u2 u3 o8 p4 u4 l3) → X = some (.leaf (.bool (Y6.V b true true true), none), true) := by
      intro b E N z o1 o2 o3 o4 o5 o6 l1 qN p16 o9 l2 oo u1 o10 o7 u2 u3 o8 p4 u4 l3 h1 h2 h3 h4 h5 h6 h7 h8 h9 h10 h11 h12 h13 h14 h15 h16 h17 h18 h19 h20 h21 h22 h23 h24 X hX
      subst h1 h2 h3 h4 h5 h6 h7 h8 h9 h10 h11 h12 h13 h14 h15 h16 h17 h18 h19 h20 h21 h22 h23 h24
      rw [hX]
      cases b <;> rfl
    rcases i with _ | _ | _ | _ | i
    · exact fin (e16_true hr) s1 (zx_true hnn) (J7.okPs_true _ _) (J7.okPs_true _ _) (okAt_true _) (okAt_true _) (okAt_true _) (okAt_true _) (deqS_self _) s2 (J7.okPk_true _ _ _) (okAt_true _) (deqS_self _) (okAt_true _) (oG gf.sh) (okAt_true _) (okAt_true _) (oG hc) (oG hc) (okAt_true _) (J7.okPk_true _ _ _) (oG gd.sh) (deqS_self _) (eLaw0 n0 n1 g h nn)
    · exact fin (e16_true hr) s1 (zx_true hnn) (J7.okPs_true _ _) (J7.okPs_true _ _) (okAt_true _) (okAt_true _) (okAt_true _) (okAt_true _) (deqS_self _) s2 (J7.okPk_true _ _ _) (okAt_true _) (deqS_self _) (okAt_true _) (oG gf.sh) (okAt_true _) (okAt_true _) (oG hc) (oG hc) (okAt_true _) (J7.okPk_true _ _ _) (oG gd.sh) (deqS_self _) (eLaw1 n0 n1 g h nn)
    · exact fin (e16_true hr) s1 (zx_true hnn) (J7.okPs_true _ _) (J7.okPs_true _ _) (okAt_true _) (okAt_true _) (okAt_true _) (okAt_true _) (deqS_self _) s2 (J7.okPk_true _ _ _) (okAt_true _) (deqS_self _) (okAt_true _) (oG gf.sh) (okAt_true _) (okAt_true _) (oG hc) (oG hc) (okAt_true _) (J7.okPk_true _ _ _) (oG gd.sh) (deqS_self _) (eLaw2 n0 n1 g h nn)
    · exact fin (e16_true hr) s1 (zx_true hnn) (J7.okPs_true _ _) (J7.okPs_true _ _) (okAt_true _) (okAt_true _) (okAt_true _) (okAt_true _) (deqS_self _) s2 (J7.okPk_true _ _ _) (okAt_true _) (deqS_self _) (okAt_true _) (oG gf.sh) (okAt_true _) (okAt_true _) (oG hc) (oG hc) (okAt_true _) (J7.okPk_true _ _ _) (oG gd.sh) (deqS_self _) (eLaw3 n0 n1 g h nn)
    · omega
  have hK : CallerTOk Try.prog (lawK n0 n1 g h (prs n0 g) (cvr n1 h) nn i) := addK_ok (pickOk n0 n1 g h en ei) (addK_ok (J7.pressOk n0 g) (addK_ok (cvOk n1 h) (addK_ok (arI hc) (addK_ok (arS hc) (addK_ok (vpI hf) (addK_ok (vcI hc)
    (addK_ok (fcOk fun v hv => full_near hf d.hG d.gain hv) (addK_ok (scOk _) (addK_ok (ovOk hf _ _ _ _) (addK_ok (pgI hf) (addK_ok (pgS hf) (addK_ok J6.nearOk (addK_ok (X5.keyOk hnn) (addK_ok (nkOk _ _ _ _) extK_ok))))))))))))))
  have hL : LOk Try.prog 2 5 (LP n0 n1 g h (prs n0 g) (cvr n1 h) nn i) := loopAt_all (by decide +kernel) (loop1 n0 n1 g h _ _ fun j hj => (area_no hr (0 + j)).1) (loopAt_all (by decide +kernel) (loop2 n0 n1 g h _ _ _) (loopAt_all (by decide +kernel) (loop3 n0 n1 g h _ _ _ _ _ _ _ _ _ _ bad) noL_all))
  refine ⟨_, _, hK, hL, _, key, ?_⟩
  show AV.bool (Y6.V (big n0 n1) true true true) = .bool true
  cases big n0 n1 <;> rfl

set_option maxRecDepth 100000 in
theorem lifted (os : Os) (started : os.Started) (H : Type) (enc : TypeId × Value → H) :
    ReturnsInHanded {} Try.checked os 5 .any (Rows.fnPrintedSpec.pre6 enc Try.prog Try.f5 Rows.fnPrintedRow.domain false) (Rows.fnPrintedSpec.post enc Try.prog Try.f5 false true false false) := by
  refine returnsInHanded_of_change (C := Try.checked) sxOwn started (by kernel_rfl) Try.func5
    (ChangeSpec.witness6 (enc := enc) (C := Try.checked) false ⟨#[], #[.slice none 0 0, .slice none 0 0], []⟩ 8 (by kernel_rfl) (by kernel_rfl) (by kernel_rfl) (by kernel_rfl)) ?_
  intro W base args ds gs before hval0 hW hcnd _
  have hval : ∀ (j : Nat) t v, Try.f5.params[j]? = some t → args[j]? = some v → Value.okWide Try.prog W .any base t v := hval0
  have hW' := hW
  obtain ⟨p, q, hA0, hV, rfl, hfz, hnd⟩ := hW
  have hA : DataW.TrodAll enc Try.prog W 0 (fun _ => true) true Try.f5.params.toList args.toList ds p := hA0
  rw [Try.params5] at hA hval
  obtain ⟨v0, vs0, d0, ds0, p0, q0, hargs, rfl, rfl, h0, r0⟩ := trodAll_cons hA
  obtain ⟨v1, vs1, d1, ds1, p1, q1, rfl, rfl, rfl, h1, r1⟩ := trodAll_cons r0
  obtain ⟨rfl, rfl, rfl⟩ := trodAll_nil r1
  obtain rfl : args = #[v0, v1] := by cases args; simp_all
  obtain ⟨rfl, rfl⟩ := trodVars_none hV
  have hrel0 : HRel [] [] W := ⟨rfl, fun b x p h => by simp at h, fun b c x y p q _ h => by simp at h⟩
  have hro0 := ro_nil
  obtain ⟨n0, f0, pl0, ln0, tf0, hr0, ev0⟩ := arg_slice (e := 5) (D := 8) (ks := [.int .u8]) (hval 0 22 v0 rfl rfl) h0 (by kernel_rfl) (by kernel_rfl) (by kernel_rfl) (of_decide_eq_true (by kernel_rfl)) hrel0 hro0
  have hrel1 := HRel.canon hr0 (ro_app hro0) tf0
  have hro1 := ro_app (n := n0) (sz := 1) (f := fun i => canonR [.int .u8] 0 (f0 i)) hro0
  obtain ⟨n1, f1, pl1, ln1, tf1, hr1, ev1⟩ := arg_slice (e := 5) (D := 8) (ks := [.int .u8]) (hval 1 22 v1 rfl rfl) h1 (by kernel_rfl) (by kernel_rfl) (by kernel_rfl) (of_decide_eq_true (by kernel_rfl)) hrel1 hro1
  have hrel2 := HRel.canon hr1 (ro_app hro1) tf1
  have hro2 := ro_app (n := n1) (sz := 1) (f := fun i => canonR [.int .u8] 0 (f1 i)) hro1
  have e0 : VRel [pl0, pl1] (.slc 0 0 n0) v0 := VRel.ext (fun b p hp => by revert hp; rcases b with _ | _ | _ | _ <;> simp) ev0
  have e1 : VRel [pl0, pl1] (.slc 1 0 n1) v1 := VRel.ext (fun b p hp => by revert hp; rcases b with _ | _ | _ | _ <;> simp) ev1
  have k0 := h0
  have lt0 : ∀ x ∈ p0, x.block < W.heap.size := by obtain ⟨m, hm⟩ := k0; exact DataW.trod_lt m _ _ _ hm
  have k1 := h1
  have lt1 : ∀ x ∈ p1, x.block < W.heap.size := by obtain ⟨m, hm⟩ := k1; exact DataW.trod_lt m _ _ _ hm
  have hargs : VRels [pl0, pl1] [.slc 0 0 n0, .slc 1 0 n1] [v0, v1] := by
    simp only [VRels]
    exact ⟨v0, _, rfl, e0, ⟨v1, _, rfl, e1, rfl⟩⟩
  obtain ⟨lawK, lawL, lawK_ok, lawL_ok, hlaw⟩ := law n0 ln0 f0 tf0 n1 ln1 f1 tf1
  refine (evF_true (K := lawK) (L := lawL) (N := lawN) (d := lawD) sxApart sxMixed lawK_ok (by exact lawL_ok) hlaw hrel2 hro2 hargs).mono fun e W' ⟨he, bel⟩ => ?_
  subst he
  exact ⟨_, rfl, _, _, _, [], _, [], hW', trodAll_mk1 (shut_bool Try.underlying4 _), (trodAll_cons_mk (Below.trod sxLaid (by kernel_rfl) (of_decide_eq_true (by kernel_rfl)) k0 bel lt0) (trodAll_cons_mk (Below.trod sxLaid (by kernel_rfl) (of_decide_eq_true (by kernel_rfl)) k1 bel lt1) trodAll_mk0)), rfl, bel.frame _, fun h => by cases h⟩

theorem over : Rows.fnPrintedRow.holds Try.pinned (OpenSpec.ofChange Rows.fnPrintedSpec) :=
  OpenClaim.holds_of_wide 5 Try.f5 rfl rfl rfl rfl rfl rfl rfl ⟨rfl, rfl, rfl, rfl, rfl⟩ rfl rfl rfl rfl rfl (by kernel_rfl) Try.func5 (by kernel_rfl)
    (of_decide_eq_true (by kernel_rfl)) (by unfold Func.isWrapper; first | (rw [if_pos (by decide +kernel)]; kernel_rfl) | (rw [if_neg (by decide +kernel)]; exact ⟨rfl, rfl⟩))
    (fun os started H enc _ => lifted os started H enc)

/-- The statement. -/
theorem proved : Rows.FnPrintedSaid := over
#print axioms proved
end Go.Proofs.Ytpnjimpiphbcfaa.lawPrinted
