/- The law 'FnExactTasksOf': the program's TasksOf returns what the reference's returns, for all arguments; no condition. -/
import Derived.Test.YtllonddgbjgmdaaRows
import Derived.WalkKit
import Derived.ProofKit
import Derived.OpenShut
import Derived.ChangeOld
import Derived.Below
import Derived.Test.YtllonddgbjgmdaaSxK2
import Derived.Test.YtllonddgbjgmdaaSxFr
import Derived.Test.YtllonddgbjgmdaaSxW8
namespace Go.Proofs.Ytllonddgbjgmdaa.lawTasksOf
open Go.ChangeShapes Go.WideShapes Go.ChangeAt Go.RowKit Go.Sx
set_option linter.unusedVariables false
set_option linter.unusedSimpArgs false
set_option maxRecDepth 100000
def lawN : Nat := 20
def lawD : Nat := 8

open Go.Proofs.Ytllonddgbjgmdaa.W1 Go.Proofs.Ytllonddgbjgmdaa.W2 Go.Proofs.Ytllonddgbjgmdaa.W3 Go.Proofs.Ytllonddgbjgmdaa.W4 Go.Proofs.Ytllonddgbjgmdaa.W5 Go.Proofs.Ytllonddgbjgmdaa.W7 Go.Proofs.Ytllonddgbjgmdaa.W8 Go.Sx.R0

noncomputable def KT (K : CallerT) : CallerT := addK 28 (selRun Tk.runEqS) (addK 30 (selRunM Tk.runMark) (addK 31 (selRun Tk.runHeld) (addK 65 (selRunM runMq) K)))
theorem KT_ok {K : CallerT} (hK : CallerTOk Try.prog K) : CallerTOk Try.prog (KT K) := addK_ok Tk.eq_ok (addK_ok Tk.mark_ok (addK_ok Tk.held_ok (addK_ok mq_ok hK)))
noncomputable def lawKx (r : Int) (n : Nat) (c : Bt) : CallerT := K1 n c (KT (addK 26 (runSx r n c) (addK 27 (runIx r n c) extK)))
theorem lawKx_ok (r : Int) (n : Nat) (c : Bt) : CallerTOk Try.prog (lawKx r n c) := K1_ok n c (KT_ok (addK_ok (okSx r n c) (addK_ok (okIx r n c) extK_ok)))
noncomputable def lawKv (r : Int) (n : Nat) (c : Bt) : CallerT := K1 n c (KT (addK 26 (runSt r n c) (addK 27 (runIt r n c) extK)))
theorem lawKv_ok (r : Int) (n : Nat) (c : Bt) : CallerTOk Try.prog (lawKv r n c) := K1_ok n c (KT_ok (addK_ok (okSt r n c) (addK_ok (okIt r n c) extK_ok)))
def n3 (r : Bool) : Bool := bif bif bif r then false else true then false else true then false else true
def valX (a r : Bool) : Bool := bif a then true else bif false then false else bif n3 r then false else bif false then false else bif false then false else true
def owedX (a r q0 t s i e k : Bool) : Bool := andB (andB q0 true) (impB (!a) (andB (andB t true) (andB s (andB (andB t true) (andB i (impB (!false) (andB (andB (andB t true) true) (andB (impB (bif bif r then false else true then false else true) (andB e true)) (impB (!n3 r) (andB (andB k true) (impB (!false) (andB (andB t true) (andB i true)))))))))))))
theorem owedX_t {a r q0 t s i e k : Bool} (hq : q0 = true) (h : a = false → t = true ∧ s = true ∧ i = true ∧ e = true ∧ k = true) : owedX a r q0 t s i e k = true := by
  subst hq
  cases a with
  | true => exact Go.Sx.R0.imp_f _
  | false =>
    obtain ⟨rfl, rfl, rfl, rfl, rfl⟩ := h rfl
    cases r <;> decide
def valV (a r g : Bool) : Bool := bif a then true else bif false then false else bif n3 r then false else bif false then false else bif false then false else bif bif g then false else true then false else bif false then false else bif false then false else bif bif g then false else true then false else true
def owedV (a r g q0 t s i e k qe qm qh : Bool) : Bool := andB (andB q0 true) (impB (!a) (andB (andB t true) (andB s (andB (andB t true) (andB i (andB qe (impB (!false) (andB (andB (andB t true) true) (andB (impB (bif bif r then false else true then false else true) (andB e true)) (impB (!n3 r) (andB (andB k true) (andB (andB (andB qe true) true) (impB (!false) (andB qm (andB qh (impB (!false) (impB (!bif g then false else true) (andB (andB t true) (andB i (andB qe (impB (!false) (andB qh true))))))))))))))))))))))
theorem owedV_t {a r g q0 t s i e k qe qm qh : Bool} (hq : q0 = true) (h : a = false → t = true ∧ s = true ∧ i = true ∧ e = true ∧ k = true ∧ qe = true ∧ qm = true ∧ qh = true) : owedV a r g q0 t s i e k qe qm qh = true := by
  subst hq
  cases a with
  | true => exact Go.Sx.R0.imp_f _
  | false =>
    obtain ⟨rfl, rfl, rfl, rfl, rfl, rfl, rfl, rfl⟩ := h rfl
    cases r <;> cases g <;> decide
theorem valX_t : ∀ a : Bool, valX a true = true := by decide
theorem valV_t : ∀ a : Bool, valV a true true = true := by decide
def g3 (m : Nat) : Bool := (1 + 3 * (m : Int)) == (1 + 3 * (m : Int))
theorem hX (r : Int) (n : Nat) (c : Bt) : evF Try.prog (lawKx r n c) noL lawN lawD 7 [.agg [.int .i64 r, .slc 0 0 n]] [.rows false n 9 c.row] =
      some (.leaf (.bool (valX (neg1 n c) (r == r)), none), owedX (neg1 n c) (r == r) (okSz n c 1048576) (Bt.okT n c) (okCX r n c) (okCX r n c) (Bt.okE n c) (okQ n c.row 1)) := by kernel_rfl
theorem hV (r : Int) (n : Nat) (c : Bt) : evF Try.prog (lawKv r n c) noL lawN lawD 7 [.agg [.int .i64 r, .slc 0 0 n]] [.rows false n 9 c.row] =
      some (.leaf (.bool (valV (neg1 n c) (r == r) (g3 (outL c n).length)), none), owedV (neg1 n c) (r == r) (g3 (outL c n).length) (okSz n c 1048576) (Bt.okT n c) (okCV r n c) (okCV r n c) (Bt.okE n c) (okQ n c.row 1) (Tk.okE (outL c n).length (lc (outL c n))) (Tk.okM (outL c n).length (lc (outL c n)) 1) (Tk.okH (outL c n).length 1)) := by kernel_rfl
theorem few2 {n : Nat} {c : Bt} (ln : n ≤ 9223372036854775807) (k0 : NmOk n c) (h : neg1 n c = false) : n ≤ 1048576 := by
  unfold neg1 at h
  rw [Ln_neg] at h
  have := szB_few ln k0 (by omega) (by omega) h
  omega
theorem law (x0 : AV) (xk0 : LK.has (.int .i64) x0) (n0 : Nat) (ln0 : n0 ≤ 9223372036854775807) (f0 : Nat → List AV) (tf0 : ∀ i, i < n0 → Typed bks (f0 i)) :
    ∃ K, CallerTOk Try.prog K ∧ ∃ t, evF Try.prog K noL lawN lawD 7 [.agg [x0, .slc 0 0 n0]] [.rows false n0 9 (fun i => canonR bks 0 (f0 i))] = some (t, true) ∧ delit t.get.1 = .bool true := by
  obtain ⟨r, rfl, _, _⟩ := xk0
  have k0 := nmOk tf0
  rw [canon]
  revert k0
  generalize cOf f0 = c
  intro k0
  have hf := few_eq
  cases hv : vW r n0 c with
  | false =>
    have h := hX r n0 c
    have ho : owedX (neg1 n0 c) (r == r) (okSz n0 c 1048576) (Bt.okT n0 c) (okCX r n0 c) (okCX r n0 c) (Bt.okE n0 c) (okQ n0 c.row 1) = true := owedX_t (okSz_true ln0 _ _) (fun ha => by
      have h2 := few2 ln0 k0 ha
      have hb : Nat.ble n0 few = true := Nat.ble_eq_true_of_le (by omega)
      have hx := okCX_true (Nat.le_of_ble_eq_true hb) k0 hv
      exact ⟨Bt.okT_true hb _, hx, hx, Bt.okE_true hb _, okQ_true _ h2 (by omega) (by omega)⟩)
    rw [ho] at h
    refine ⟨_, lawKx_ok r n0 c, _, h, ?_⟩
    simp only [Tr.get, delit, beq_self_eq_true, valX_t]
  | true =>
    have h6 := vW_few hv
    have hm := outL_len c n0
    have h := hV r n0 c
    have ho : owedV (neg1 n0 c) (r == r) (g3 (outL c n0).length) (okSz n0 c 1048576) (Bt.okT n0 c) (okCV r n0 c) (okCV r n0 c) (Bt.okE n0 c) (okQ n0 c.row 1) (Tk.okE (outL c n0).length (lc (outL c n0))) (Tk.okM (outL c n0).length (lc (outL c n0)) 1) (Tk.okH (outL c n0).length 1) = true := owedV_t (okSz_true ln0 _ _) (fun ha => by
      have hb : Nat.ble n0 few = true := Nat.ble_eq_true_of_le (by omega)
      have hmb : Nat.ble (outL c n0).length few = true := Nat.ble_eq_true_of_le (by omega)
      have hx := okCV_true (r := r) k0 hv
      exact ⟨Bt.okT_true hb _, hx, hx, Bt.okE_true hb _, okQ_true _ (by omega) (by omega) (by omega), Tk.okE_true hmb _, Tk.okM_true hmb _ (by omega) (by omega), Tk.okH_true hmb (by omega) (by omega)⟩)
    rw [ho] at h
    refine ⟨_, lawKv_ok r n0 c, _, h, ?_⟩
    simp only [Tr.get, delit, beq_self_eq_true, g3, valV_t]

set_option maxRecDepth 100000 in
theorem lifted (os : Os) (started : os.Started) (H : Type) (enc : TypeId × Value → H) :
    ReturnsInHanded {} Try.checked os 7 .any (Rows.fnExactTasksOfSpec.pre6 enc Try.prog Try.f7 Rows.fnExactTasksOfRow.domain false) (Rows.fnExactTasksOfSpec.post enc Try.prog Try.f7 false true false false) := by
  refine returnsInHanded_of_change (C := Try.checked) sxOwn started (by kernel_rfl) Try.func7
    (ChangeSpec.witness6 (enc := enc) (C := Try.checked) false ⟨#[], #[.agg #[.int .i64 0, .slice none 0 0]], []⟩ 8 (by kernel_rfl) (by kernel_rfl) (by kernel_rfl) (by kernel_rfl)) ?_
  intro W base args ds gs before hval0 hW hcnd _
  have hval : ∀ (j : Nat) t v, Try.f7.params[j]? = some t → args[j]? = some v → Value.okWide Try.prog W .any base t v := hval0
  have hW' := hW
  obtain ⟨p, q, hA0, hV, rfl, hfz, hnd⟩ := hW
  have hA : DataW.TrodAll enc Try.prog W 0 (fun _ => true) true Try.f7.params.toList args.toList ds p := hA0
  rw [Try.params7] at hA hval
  obtain ⟨v0, vs0, d0, ds0, p0, q0, hargs, rfl, rfl, h0, r0⟩ := trodAll_cons hA
  obtain ⟨rfl, rfl, rfl⟩ := trodAll_nil r0
  obtain rfl : args = #[v0] := by cases args; simp_all
  obtain ⟨rfl, rfl⟩ := trodVars_none hV
  have hrel0 : HRel [] [] W := ⟨rfl, fun b x p h => by simp at h, fun b c x y p q _ h => by simp at h⟩
  have hro0 := ro_nil
  obtain ⟨x0, n0, f0, pl0, xk0, ln0, tf0, hr0, ev0⟩ := arg_pairB (t0 := 2) (t1 := 28) (e := 128) (D := 8) (k0 := .int .i64) (ks := [.str, .int .i64, .int .i64, .int .i64, .int .i64, .int .i64, .int .i64, .int .i64, .int .i64]) (hval 0 30 v0 rfl rfl) h0 (by kernel_rfl) (by kernel_rfl) (by kernel_rfl) (by kernel_rfl) (by kernel_rfl) (by kernel_rfl) (by kernel_rfl) (by kernel_rfl) (of_decide_eq_true (by kernel_rfl)) hrel0 hro0
  have hrel1 := HRel.canon hr0 (ro_app hro0) tf0
  have hro1 := ro_app (n := n0) (sz := 9) (f := fun i => canonR [.str, .int .i64, .int .i64, .int .i64, .int .i64, .int .i64, .int .i64, .int .i64, .int .i64] 0 (f0 i)) hro0
  have e0 : VRel [pl0] (.agg [x0, .slc 0 0 n0]) v0 := VRel.ext (fun b p hp => by revert hp; rcases b with _ | _ | _ | _ <;> simp) ev0
  have k0 := h0
  have lt0 : ∀ x ∈ p0, x.block < W.heap.size := by obtain ⟨m, hm⟩ := k0; exact DataW.trod_lt m _ _ _ hm
  have hargs : VRels [pl0] [.agg [x0, .slc 0 0 n0]] [v0] := by
    simp only [VRels]
    exact ⟨v0, _, rfl, e0, rfl⟩
  obtain ⟨lawK, lawK_ok, hlaw⟩ := law x0 xk0 n0 ln0 f0 tf0
  refine (evF_true (K := lawK) (L := noL) (N := lawN) (d := lawD) sxApart sxMixed lawK_ok (fun _ _ _ _ => noL_ok) hlaw hrel1 hro1 hargs).mono fun e W' ⟨he, bel⟩ => ?_
  subst he
  exact ⟨_, rfl, _, _, _, [], _, [], hW', trodAll_mk1 (shut_bool Try.underlying4 _), (trodAll_cons_mk (Below.trod sxLaid (by kernel_rfl) (of_decide_eq_true (by kernel_rfl)) k0 bel lt0) trodAll_mk0), rfl, bel.frame _, fun h => by cases h⟩

theorem over : Rows.fnExactTasksOfRow.holds Try.pinned (OpenSpec.ofChange Rows.fnExactTasksOfSpec) :=
  OpenClaim.holds_of_wide 7 Try.f7 rfl rfl rfl rfl rfl rfl rfl ⟨rfl, rfl, rfl, rfl, rfl⟩ rfl rfl rfl rfl rfl (by kernel_rfl) Try.func7 (by kernel_rfl)
    (of_decide_eq_true (by kernel_rfl)) (by unfold Func.isWrapper; first | (rw [if_pos (by decide +kernel)]; kernel_rfl) | (rw [if_neg (by decide +kernel)]; exact ⟨rfl, rfl⟩))
    (fun os started H enc _ => lifted os started H enc)

/-- The statement. -/
theorem proved : Rows.FnExactTasksOfSaid := over
#print axioms proved
end Go.Proofs.Ytllonddgbjgmdaa.lawTasksOf
