/- Texts of one claim, put together. -/
import Derived.Test.YtpnjimpiphbcfaaRows
import Derived.WalkKit
import Derived.ProofKit
import Derived.OpenShut
import Derived.ChangeOld
import Derived.Below
import Derived.Test.YtpnjimpiphbcfaaSxK2
import Derived.Test.YtpnjimpiphbcfaaSxFr
import Derived.Test.YtpnjimpiphbcfaaG7
namespace Go.Proofs.Ytpnjimpiphbcfaa.lawTiles
open Go.ChangeShapes Go.WideShapes Go.ChangeAt Go.RowKit Go.Sx
set_option linter.unusedVariables false
set_option linter.unusedSimpArgs false
set_option maxRecDepth 100000
def lawN : Nat := 20
def lawD : Nat := 8

open Go.Proofs.Ytpnjimpiphbcfaa.J1 Go.Proofs.Ytpnjimpiphbcfaa.J2 Go.Proofs.Ytpnjimpiphbcfaa.J3 Go.Proofs.Ytpnjimpiphbcfaa.J4 Go.Proofs.Ytpnjimpiphbcfaa.J5 Go.Proofs.Ytpnjimpiphbcfaa.V5 Go.Proofs.Ytpnjimpiphbcfaa.X5 Go.Proofs.Ytpnjimpiphbcfaa.K5 Go.Proofs.Ytpnjimpiphbcfaa.K6 Go.Proofs.Ytpnjimpiphbcfaa.K7 Go.Proofs.Ytpnjimpiphbcfaa.K8 Go.Proofs.Ytpnjimpiphbcfaa.K9 Go.Proofs.Ytpnjimpiphbcfaa.KA Go.Sx.Ink Go.Sx.C5 Go.Sx.R0 Go.Sx.Fl

set_option exponentiation.threshold 3000

def bf (f : Nat → List AV) (i : Nat) : Int := getI (gt (f i) 0)
theorem law (n0 : Nat) (ln0 : n0 ≤ 9223372036854775807) (f0 : Nat → List AV) (tf0 : ∀ i, i < n0 → Typed [.int .u8] (f0 i)) (n1 : Nat) (ln1 : n1 ≤ 9223372036854775807) (f1 : Nat → List AV) (tf1 : ∀ i, i < n1 → Typed [.int .u8] (f1 i)) :
    ∃ K L, CallerTOk Try.prog K ∧ LOk Try.prog 2 3 L ∧ ∃ t, evF Try.prog K L lawN lawD 3 [.slc 0 0 n0, .slc 1 0 n1] [.rows false n0 1 (fun i => canonR [.int .u8] 0 (f0 i)), .rows false n1 1 (fun i => canonR [.int .u8] 0 (f1 i))] = some (t, true) ∧ delit t.get.1 = .bool true := by
  have hg : ∀ i, i < n0 → 0 ≤ bf f0 i ∧ bf f0 i ≤ 255 := fun i hi => by
    obtain ⟨m, t, hm, ⟨x, rfl, h1, h2⟩, _⟩ := tf0 i hi
    unfold bf; rw [hm]; exact ⟨h1, h2⟩
  have hh : ∀ i, i < n1 → 0 ≤ bf f1 i ∧ bf f1 i ≤ 255 := fun i hi => by
    obtain ⟨m, t, hm, ⟨x, rfl, h1, h2⟩, _⟩ := tf1 i hi
    unfold bf; rw [hm]; exact ⟨h1, h2⟩
  show ∃ K L, CallerTOk Try.prog K ∧ LOk Try.prog 2 3 L ∧ ∃ t, evF Try.prog K L 20 8 3 [.slc 0 0 n0, .slc 1 0 n1] [.rows false n0 1 (J1.ur (bf f0)), .rows false n1 1 (J1.ur (bf f1))] = some (t, true) ∧ delit t.get.1 = .bool true
  generalize bf f0 = g at *
  generalize bf f1 = h at *
  obtain ⟨l, hl, el⟩ := xp_lt hg (m := 17) (by omega) 0 0
  have hl : l ≤ 16 := by omega
  have hf := J7.prs_Sh hh
  have hc : ShC (cvr n1 h) := fun j _ => by
    obtain ⟨k, hk, ek⟩ := xp_lt hh (m := 33) (by omega) (0 + j) (yk n1 h 0 0 j)
    unfold cvr
    rw [show xp n1 h 33 (0 + j) (yk n1 h 0 0 j) = Int.ofNat k from ek]
    refine ⟨_, chk_of c32' (k := k) (by omega), ?_⟩
    have : (2 : Nat) ^ 1074 = 32 * 2 ^ 1069 := by rw [show (1074 : Nat) = 5 + 1069 from rfl, Nat.pow_add]
    rw [Nat.one_mul, this]
    exact Nat.mul_le_mul_right _ (by omega)
  have fin : ∀ {b z0 tt z1 d ub ou1 ou2 w qp q8 q9 qa l1 l2 qPT t1 t2 t3 t4 t5 v1 v2 o1 o2 o3 qPC qc k1 k2 c1 c2 c3 p1 p2 sc l3 : Bool}, z0 = true → tt = true → z1 = true → d = true → ub = true → ou1 = true → ou2 = true → w = true → qp = true → q8 = true → q9 = true → qa = true → l1 = true → l2 = true → qPT = true → t1 = true → t2 = true → t3 = true → t4 = true → t5 = true → v1 = true → v2 = true → o1 = true → o2 = true → o3 = true → qPC = true → qc = true → k1 = true → k2 = true → c1 = true → c2 = true → c3 = true → p1 = true → p2 = true → sc = true → l3 = true →
      ∀ {X : Option (Tr (AV × Option (List Blk)) × Bool)}, X = some (.leaf (.bool (K9.V b z0 tt z1 d ub ou1 ou2 w), none), K9.O b z0 tt z1 d ub ou1 ou2 w qp q8 q9 qa l1 l2 qPT t1 t2 t3 t4 t5 v1 v2 o1 o2 o3 qPC qc k1 k2 c1 c2 c3 p1 p2 sc l3) → X = some (.leaf (.bool (K9.V b true true true true true true true true), none), true) := by
    intro b z0 tt z1 d ub ou1 ou2 w qp q8 q9 qa l1 l2 qPT t1 t2 t3 t4 t5 v1 v2 o1 o2 o3 qPC qc k1 k2 c1 c2 c3 p1 p2 sc l3 h1 h2 h3 h4 h5 h6 h7 h8 h9 h10 h11 h12 h13 h14 h15 h16 h17 h18 h19 h20 h21 h22 h23 h24 h25 h26 h27 h28 h29 h30 h31 h32 h33 h34 h35 h36 X hX
    subst h1 h2 h3 h4 h5 h6 h7 h8 h9 h10 h11 h12 h13 h14 h15 h16 h17 h18 h19 h20 h21 h22 h23 h24 h25 h26 h27 h28 h29 h30 h31 h32 h33 h34 h35 h36
    rw [hX]
    cases b <;> rfl
  have key := fin (by rw [cn_tl hl]; exact beq_self_eq_true _) (q16_self _) (by rw [cn_tu]; exact beq_self_eq_true _) (q16_self _) (q16_tu4 _) (q16_ou _) (q16_oc _ _) (q64_true _) (J7.okPk_true _ _ _) (Nat.ble_eq_true_of_le hl) (Nat.ble_eq_true_of_le hl) (okC_true _) (deqS_self _) (deqS_self _) (J7.okPs_true _ _)
    (okC_true _) (okC_true _) (okC_true _) (okC_true _) (okC_true _) (okC_true _) (okC_true _) (okC_true _) (okC_true _) (okC_true _) (J7.okPs_true _ _) (J7.okPs_true _ _) (okAt_true _) (okAt_true _) (okC_true _) (okC_true _) (okC_true _) (okC_true _) (okC_true _) (okAt_true _) (deqS_self _) (eLaw n0 n1 g h l)
  have hK : CallerTOk Try.prog (K9.lawK n0 n1 g h l (uT n1 h) (prs n1 h) (cvr n1 h)) := addK_ok (K9.pickOk n0 g el) (addK_ok tlI (addK_ok tlS (addK_ok lvI (addK_ok ouI (addK_ok (ptOk n1 h) (addK_ok tuI (addK_ok tuS (addK_ok (J7.pressOk n1 h) (addK_ok (cvOk n1 h) (addK_ok (toI hc) (addK_ok (toS hc) (addK_ok (tcI hf) (addK_ok (tcS hf) (addK_ok (ovC hf) (addK_ok (scOk _) extK_ok)))))))))))))))
  have hD : LoopOk Try.prog 2 (loopN Try.prog 3 45) (SD l (HR n0 n1 g h l (uT n1 h) (prs n1 h) (cvr n1 h)) (.int .i64 0)) (.leaf (.ext 6, ED (HD (av (prs n1 h) (t1 l)) (ov (prs n1 h) false false false false) (ov (prs n1 h) true false false false)))) :=
    (loopD l _ _ _ fun k hk => mean_near hf hl hk).from ⟨rfl, BLe.dead _, BLe.dead _, BLe.dead _, BLe.dead _, BLe.dead _, BLe.dead _, BLe.dead _, BLe.dead _, BLe.dead _, BLe.dead _, BLe.dead _, BLe.dead _, BLe.dead _, BLe.dead _, BLe.refl _, BLe.refl _, BLe.refl _, trivial⟩
  have hL : LOk Try.prog 2 3 (K9.LT n0 n1 g h l (uT n1 h) (prs n1 h) (cvr n1 h)) := loopAt_all (by decide +kernel) (loopA n0 n1 g h hl) (loopAt_all (by decide +kernel) (loopB n0 n1 g h l) (loopAt_all (by decide +kernel) hD noL_all))
  refine ⟨_, _, hK, hL, _, key, ?_⟩
  show AV.bool (K9.V (K9.big n0 n1) true true true true true true true true) = .bool true
  cases K9.big n0 n1 <;> rfl

set_option maxRecDepth 100000 in
theorem lifted (os : Os) (started : os.Started) (H : Type) (enc : TypeId × Value → H) :
    ReturnsInHanded {} Try.checked os 3 .any (Rows.fnTilesSpec.pre6 enc Try.prog Try.f3 Rows.fnTilesRow.domain false) (Rows.fnTilesSpec.post enc Try.prog Try.f3 false true false false) := by
  refine returnsInHanded_of_change (C := Try.checked) sxOwn started (by kernel_rfl) Try.func3
    (ChangeSpec.witness6 (enc := enc) (C := Try.checked) false ⟨#[], #[.slice none 0 0, .slice none 0 0], []⟩ 8 (by kernel_rfl) (by kernel_rfl) (by kernel_rfl) (by kernel_rfl)) ?_
  intro W base args ds gs before hval0 hW hcnd _
  have hval : ∀ (j : Nat) t v, Try.f3.params[j]? = some t → args[j]? = some v → Value.okWide Try.prog W .any base t v := hval0
  have hW' := hW
  obtain ⟨p, q, hA0, hV, rfl, hfz, hnd⟩ := hW
  have hA : DataW.TrodAll enc Try.prog W 0 (fun _ => true) true Try.f3.params.toList args.toList ds p := hA0
  rw [Try.params3] at hA hval
  obtain ⟨v0, vs0, d0, ds0, p0, q0, hargs, rfl, rfl, h0, r0⟩ := trodAll_cons hA
  obtain ⟨v1, vs1, d1, ds1, p1, q1, rfl, rfl, rfl, h1, r1⟩ := trodAll_cons r0
  obtain ⟨rfl, rfl, rfl⟩ := trodAll_nil r1
  obtain rfl : args = #[v0, v1] := by cases args; simp_all
  obtain ⟨rfl, rfl⟩ := trodVars_none hV
  have hrel0 : HRel [] [] W := ⟨rfl, fun b x p h => by simp at h, fun b c x y p q _ h => by simp at h⟩
  have hro0 := ro_nil
  obtain ⟨n0, f0, pl0, ln0, tf0, hr0, ev0⟩ := arg_slice (e := 5) (D := 8) (ks := [.int .u8]) (hval 0 22 v0 rfl rfl) h0 (by kernel_rfl) (by kernel_rfl) (by kernel_rfl) (of_decide_eq_true (by kernel_rfl)) hrel0 hro0
  have hrel1 := HRel.canon hr0 (ro_app hro0) tf0
  have hro1 := ro_app (n := n0) (sz := 1) (f := fun i => canonR [.int .u8] 0 (f0 i)) hro0
  obtain ⟨n1, f1, pl1, ln1, tf1, hr1, ev1⟩ := arg_slice (e := 5) (D := 8) (ks := [.int .u8]) (hval 1 22 v1 rfl rfl) h1 (by kernel_rfl) (by kernel_rfl) (by kernel_rfl) (of_decide_eq_true (by kernel_rfl)) hrel1 hro1
  have hrel2 := HRel.canon hr1 (ro_app hro1) tf1
  have hro2 := ro_app (n := n1) (sz := 1) (f := fun i => canonR [.int .u8] 0 (f1 i)) hro1
  have e0 : VRel [pl0, pl1] (.slc 0 0 n0) v0 := VRel.ext (fun b p hp => by revert hp; rcases b with _ | _ | _ | _ <;> simp) ev0
  have e1 : VRel [pl0, pl1] (.slc 1 0 n1) v1 := VRel.ext (fun b p hp => by revert hp; rcases b with _ | _ | _ | _ <;> simp) ev1
  have k0 := h0
  have lt0 : ∀ x ∈ p0, x.block < W.heap.size := by obtain ⟨m, hm⟩ := k0; exact DataW.trod_lt m _ _ _ hm
  have k1 := h1
  have lt1 : ∀ x ∈ p1, x.block < W.heap.size := by obtain ⟨m, hm⟩ := k1; exact DataW.trod_lt m _ _ _ hm
  have hargs : VRels [pl0, pl1] [.slc 0 0 n0, .slc 1 0 n1] [v0, v1] := by
    simp only [VRels]
    exact ⟨v0, _, rfl, e0, ⟨v1, _, rfl, e1, rfl⟩⟩
  obtain ⟨lawK, lawL, lawK_ok, lawL_ok, hlaw⟩ := law n0 ln0 f0 tf0 n1 ln1 f1 tf1
  refine (evF_true (K := lawK) (L := lawL) (N := lawN) (d := lawD) sxApart sxMixed lawK_ok (by exact lawL_ok) hlaw hrel2 hro2 hargs).mono fun e W' ⟨he, bel⟩ => ?_
  subst he
  exact ⟨_, rfl, _, _, _, [], _, [], hW', trodAll_mk1 (shut_bool Try.underlying4 _), (trodAll_cons_mk (Below.trod sxLaid (by kernel_rfl) (of_decide_eq_true (by kernel_rfl)) k0 bel lt0) (trodAll_cons_mk (Below.trod sxLaid (by kernel_rfl) (of_decide_eq_true (by kernel_rfl)) k1 bel lt1) trodAll_mk0)), rfl, bel.frame _, fun h => by cases h⟩

theorem over : Rows.fnTilesRow.holds Try.pinned (OpenSpec.ofChange Rows.fnTilesSpec) :=
  OpenClaim.holds_of_wide 3 Try.f3 rfl rfl rfl rfl rfl rfl rfl ⟨rfl, rfl, rfl, rfl, rfl⟩ rfl rfl rfl rfl rfl (by kernel_rfl) Try.func3 (by kernel_rfl)
    (of_decide_eq_true (by kernel_rfl)) (by unfold Func.isWrapper; first | (rw [if_pos (by decide +kernel)]; kernel_rfl) | (rw [if_neg (by decide +kernel)]; exact ⟨rfl, rfl⟩))
    (fun os started H enc _ => lifted os started H enc)

/-- The statement. -/
theorem proved : Rows.FnTilesSaid := over
#print axioms proved
end Go.Proofs.Ytpnjimpiphbcfaa.lawTiles
