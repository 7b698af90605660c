/- Texts of one claim, put together. -/
import Derived.Test.YtllonddgbjgmdaaRows
import Derived.WalkKit
import Derived.ProofKit
import Derived.OpenShut
import Derived.ChangeOld
import Derived.Below
import Derived.Test.YtllonddgbjgmdaaSxK2
import Derived.Test.YtllonddgbjgmdaaSxFr
import Derived.Test.YtllonddgbjgmdaaXSxP18
namespace Go.Proofs.Ytllonddgbjgmdaa.lawIsAgreed
open Go.ChangeShapes Go.WideShapes Go.ChangeAt Go.RowKit Go.Sx
set_option linter.unusedVariables false
set_option linter.unusedSimpArgs false
set_option maxRecDepth 100000
def lawN : Nat := 20
def lawD : Nat := 8

open Go.Proofs.Ytllonddgbjgmdaa.W1 Go.Proofs.Ytllonddgbjgmdaa.W3 Go.Proofs.Ytllonddgbjgmdaa.W4 Go.Proofs.Ytllonddgbjgmdaa.W9 Go.Proofs.Ytllonddgbjgmdaa.W10 Go.Proofs.Ytllonddgbjgmdaa.P14 Go.Proofs.Ytllonddgbjgmdaa.P18 Go.Sx.R0

noncomputable def lawKx (r : Int) (n : Nat) (c : Bt) (m : Nat) (d : Dd) (v : Bool) (x : Int) (g : Bool) : CallerT := K1 n c (addK 34 (selRun Dd.runTo) (addK 36 (selRun Dd.runEqS) (addK 39 (runIA r n m c d v x g) (addK 40 (runIA r n m c d v x g) extK))))
theorem lawKx_ok {r : Int} {n : Nat} {c : Bt} {m : Nat} {d : Dd} {v : Bool} {x : Int} {g : Bool} (h1 : SumOk Try.prog 39 (runIA r n m c d v x g)) (h2 : SumOk Try.prog 40 (runIA r n m c d v x g)) : CallerTOk Try.prog (lawKx r n c m d v x g) := K1_ok n c (addK_ok Dd.to_ok (addK_ok Dd.eq_ok (addK_ok h1 (addK_ok h2 extK_ok))))
def dks : List LK := [.int .i64, .int .i64]
def dOf (f : Nat → List AV) : Dd := ⟨fun i => getI (gt (f i) 0), fun i => getI (gt (f i) 1)⟩
theorem canonD (f : Nat → List AV) : (fun i => canonR dks 0 (f i)) = (dOf f).row := rfl
noncomputable def neg2 (n : Nat) (c : Bt) (m : Nat) : Bool := decide (Ln (IntKind.i64.wrap (Ln (szB n c 1048576) - (m : Int))) < 0)
def val (A B a x r : Bool) : Bool := cond A true (cond B true (cond (cond (!a) true (!x)) false (cond (cond (cond (cond r false true) false true) false true) false true)))
def ow (A B a x r q0 t k1 w e k2 : Bool) : Bool := andB (andB q0 true) (impB (!A) (impB (!B) (andB (andB t true) (andB k1 (andB w (andB (andB t true) (andB k1 (andB w (impB (!(cond (!a) true (!x))) (andB (andB (andB t true) true) (andB (impB (!(!r)) (andB e true)) (impB (!(!(!(!r)))) (andB k1 (andB k2 true))))))))))))))
theorem val_t : ∀ A B : Bool, val A B true true true = true := by decide
theorem ow_t : ∀ A B a x r q0 t k1 w e k2 : Bool, q0 = true → (A = false → B = false → t = true ∧ k1 = true ∧ w = true ∧ e = true ∧ k2 = true) → ow A B a x r q0 t k1 w e k2 = true := by decide +kernel
theorem hL (r : Int) (n : Nat) (c : Bt) (m : Nat) (d : Dd) (v : Bool) (x : Int) (g : Bool) : evF Try.prog (lawKx r n c m d v x g) noL lawN lawD 10 [.agg [.int .i64 r, .slc 0 0 n], .slc 1 0 m] [.rows false n 9 c.row, .rows false m 2 d.row] =
      some (.leaf (.bool (val (neg1 n c) (neg2 n c m) (v == v) (x == x) (r == r)), none), ow (neg1 n c) (neg2 n c m) (v == v) (x == x) (r == r) (okSz n c 1048576) (Bt.okT n c) (Dd.okT m d) (okRf r n m c d g) (Bt.okE n c) (Dd.okE m d)) := by kernel_rfl
theorem law (x0 : AV) (xk0 : LK.has (.int .i64) x0) (n0 : Nat) (ln0 : n0 ≤ 9223372036854775807) (f0 : Nat → List AV) (tf0 : ∀ i, i < n0 → Typed bks (f0 i)) (n1 : Nat) (ln1 : n1 ≤ 9223372036854775807) (f1 : Nat → List AV) (tf1 : ∀ i, i < n1 → Typed dks (f1 i)) :
    ∃ K, CallerTOk Try.prog K ∧ ∃ t, evF Try.prog K noL lawN lawD 10 [.agg [x0, .slc 0 0 n0], .slc 1 0 n1] [.rows false n0 9 (fun i => canonR bks 0 (f0 i)), .rows false n1 2 (fun i => canonR dks 0 (f1 i))] = some (t, true) ∧ delit t.get.1 = .bool true := by
  obtain ⟨r, rfl, _, _⟩ := xk0
  have k0 := nmOk tf0
  rw [canon, canonD]
  revert k0
  generalize cOf f0 = c
  generalize dOf f1 = d
  intro k0
  have hf := few_eq
  by_cases hs : neg1 n0 c = false ∧ neg2 n0 c n1 = false
  · obtain ⟨ha, hb⟩ := hs
    unfold neg1 at ha
    rw [Ln_neg] at ha
    have g0 := szB_few ln0 k0 (by omega) (by omega) ha
    have hb : neg2 n0 c n1 = false := hb
    unfold neg2 at hb
    rw [Ln_neg, Ln_pos ha] at hb
    have hb := of_decide_eq_false hb
    rw [wrap_i64 (by omega) (by omega)] at hb
    have hn : n0 ≤ few := by omega
    have hm : n1 ≤ few := by omega
    obtain ⟨v, x, g, h1, h2, hg⟩ := P18.both r d hn hm k0
    have h := hL r n0 c n1 d v x g
    rw [ow_t _ _ _ _ _ _ _ _ _ _ _ (okSz_true ln0 _ _) fun _ _ => ⟨Bt.okT_true (Nat.ble_eq_true_of_le hn) _, Dd.okT_true (Nat.ble_eq_true_of_le hm) _, okRf_true r n0 n1 c d hg, Bt.okE_true (Nat.ble_eq_true_of_le hn) _, Dd.okE_true (Nat.ble_eq_true_of_le hm) _⟩] at h
    refine ⟨_, lawKx_ok h1 h2, _, h, ?_⟩
    simp only [Tr.get, delit, beq_self_eq_true, val_t]
  · have hq : neg1 n0 c = true ∨ neg2 n0 c n1 = true := by
      cases h1 : neg1 n0 c <;> cases h2 : neg2 n0 c n1 <;> simp_all
    have h := hL r n0 c n1 d false (gv r n0 c n1 d) (gX r n0 n1 c d)
    rw [ow_t _ _ _ _ _ _ _ _ _ _ _ (okSz_true ln0 _ _) fun ha hb => by
        rcases hq with hq | hq
        · rw [ha] at hq; cases hq
        · rw [hb] at hq; cases hq] at h
    refine ⟨_, lawKx_ok (aSX r n0 n1 c d) (aIX r n0 n1 c d), _, h, ?_⟩
    simp only [Tr.get, delit, beq_self_eq_true, val_t]

set_option maxRecDepth 100000 in
theorem lifted (os : Os) (started : os.Started) (H : Type) (enc : TypeId × Value → H) :
    ReturnsInHanded {} Try.checked os 10 .any (Rows.fnExactIsAgreedSpec.pre6 enc Try.prog Try.f10 Rows.fnExactIsAgreedRow.domain false) (Rows.fnExactIsAgreedSpec.post enc Try.prog Try.f10 false true false false) := by
  refine returnsInHanded_of_change (C := Try.checked) sxOwn started (by kernel_rfl) Try.func10
    (ChangeSpec.witness6 (enc := enc) (C := Try.checked) false ⟨#[], #[.agg #[.int .i64 0, .slice none 0 0], .slice none 0 0], []⟩ 8 (by kernel_rfl) (by kernel_rfl) (by kernel_rfl) (by kernel_rfl)) ?_
  intro W base args ds gs before hval0 hW hcnd _
  have hval : ∀ (j : Nat) t v, Try.f10.params[j]? = some t → args[j]? = some v → Value.okWide Try.prog W .any base t v := hval0
  have hW' := hW
  obtain ⟨p, q, hA0, hV, rfl, hfz, hnd⟩ := hW
  have hA : DataW.TrodAll enc Try.prog W 0 (fun _ => true) true Try.f10.params.toList args.toList ds p := hA0
  rw [Try.params10] at hA hval
  obtain ⟨v0, vs0, d0, ds0, p0, q0, hargs, rfl, rfl, h0, r0⟩ := trodAll_cons hA
  obtain ⟨v1, vs1, d1, ds1, p1, q1, rfl, rfl, rfl, h1, r1⟩ := trodAll_cons r0
  obtain ⟨rfl, rfl, rfl⟩ := trodAll_nil r1
  obtain rfl : args = #[v0, v1] := by cases args; simp_all
  obtain ⟨rfl, rfl⟩ := trodVars_none hV
  have hrel0 : HRel [] [] W := ⟨rfl, fun b x p h => by simp at h, fun b c x y p q _ h => by simp at h⟩
  have hro0 := ro_nil
  obtain ⟨x0, n0, f0, pl0, xk0, ln0, tf0, hr0, ev0⟩ := arg_pairB (t0 := 2) (t1 := 28) (e := 128) (D := 8) (k0 := .int .i64) (ks := [.str, .int .i64, .int .i64, .int .i64, .int .i64, .int .i64, .int .i64, .int .i64, .int .i64]) (hval 0 30 v0 rfl rfl) h0 (by kernel_rfl) (by kernel_rfl) (by kernel_rfl) (by kernel_rfl) (by kernel_rfl) (by kernel_rfl) (by kernel_rfl) (by kernel_rfl) (of_decide_eq_true (by kernel_rfl)) hrel0 hro0
  have hrel1 := HRel.canon hr0 (ro_app hro0) tf0
  have hro1 := ro_app (n := n0) (sz := 9) (f := fun i => canonR [.str, .int .i64, .int .i64, .int .i64, .int .i64, .int .i64, .int .i64, .int .i64, .int .i64] 0 (f0 i)) hro0
  obtain ⟨n1, f1, pl1, ln1, tf1, hr1, ev1⟩ := arg_slice (e := 23) (D := 8) (ks := [.int .i64, .int .i64]) (hval 1 51 v1 rfl rfl) h1 (by kernel_rfl) (by kernel_rfl) (by kernel_rfl) (of_decide_eq_true (by kernel_rfl)) hrel1 hro1
  have hrel2 := HRel.canon hr1 (ro_app hro1) tf1
  have hro2 := ro_app (n := n1) (sz := 2) (f := fun i => canonR [.int .i64, .int .i64] 0 (f1 i)) hro1
  have e0 : VRel [pl0, pl1] (.agg [x0, .slc 0 0 n0]) v0 := VRel.ext (fun b p hp => by revert hp; rcases b with _ | _ | _ | _ <;> simp) ev0
  have e1 : VRel [pl0, pl1] (.slc 1 0 n1) v1 := VRel.ext (fun b p hp => by revert hp; rcases b with _ | _ | _ | _ <;> simp) ev1
  have k0 := h0
  have lt0 : ∀ x ∈ p0, x.block < W.heap.size := by obtain ⟨m, hm⟩ := k0; exact DataW.trod_lt m _ _ _ hm
  have k1 := h1
  have lt1 : ∀ x ∈ p1, x.block < W.heap.size := by obtain ⟨m, hm⟩ := k1; exact DataW.trod_lt m _ _ _ hm
  have hargs : VRels [pl0, pl1] [.agg [x0, .slc 0 0 n0], .slc 1 0 n1] [v0, v1] := by
    simp only [VRels]
    exact ⟨v0, _, rfl, e0, ⟨v1, _, rfl, e1, rfl⟩⟩
  obtain ⟨lawK, lawK_ok, hlaw⟩ := law x0 xk0 n0 ln0 f0 tf0 n1 ln1 f1 tf1
  refine (evF_true (K := lawK) (L := noL) (N := lawN) (d := lawD) sxApart sxMixed lawK_ok (fun _ _ _ _ => noL_ok) hlaw hrel2 hro2 hargs).mono fun e W' ⟨he, bel⟩ => ?_
  subst he
  exact ⟨_, rfl, _, _, _, [], _, [], hW', trodAll_mk1 (shut_bool Try.underlying4 _), (trodAll_cons_mk (Below.trod sxLaid (by kernel_rfl) (of_decide_eq_true (by kernel_rfl)) k0 bel lt0) (trodAll_cons_mk (Below.trod sxLaid (by kernel_rfl) (of_decide_eq_true (by kernel_rfl)) k1 bel lt1) trodAll_mk0)), rfl, bel.frame _, fun h => by cases h⟩

theorem over : Rows.fnExactIsAgreedRow.holds Try.pinned (OpenSpec.ofChange Rows.fnExactIsAgreedSpec) :=
  OpenClaim.holds_of_wide 10 Try.f10 rfl rfl rfl rfl rfl rfl rfl ⟨rfl, rfl, rfl, rfl, rfl⟩ rfl rfl rfl rfl rfl (by kernel_rfl) Try.func10 (by kernel_rfl)
    (of_decide_eq_true (by kernel_rfl)) (by unfold Func.isWrapper; first | (rw [if_pos (by decide +kernel)]; kernel_rfl) | (rw [if_neg (by decide +kernel)]; exact ⟨rfl, rfl⟩))
    (fun os started H enc _ => lifted os started H enc)

/-- The statement. -/
theorem proved : Rows.FnExactIsAgreedSaid := over
#print axioms proved
end Go.Proofs.Ytllonddgbjgmdaa.lawIsAgreed
