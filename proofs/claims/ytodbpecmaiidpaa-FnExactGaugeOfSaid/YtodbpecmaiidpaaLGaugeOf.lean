/- The law 'FnExactGaugeOf': the program's GaugeOf returns what the reference's returns, for all arguments; no condition. -/
import Derived.Test.YtodbpecmaiidpaaRows
import Derived.WalkKit
import Derived.ProofKit
import Derived.OpenShut
import Derived.ChangeOld
import Derived.Below
import Derived.Test.YtodbpecmaiidpaaSxK2
import Derived.Test.YtodbpecmaiidpaaSxFr
import Derived.Test.YtodbpecmaiidpaaSxM6
import Derived.Test.YtodbpecmaiidpaaSxC6
namespace Go.Proofs.Ytodbpecmaiidpaa.lawGaugeOf
open Go.ChangeShapes Go.WideShapes Go.ChangeAt Go.RowKit Go.Sx
set_option linter.unusedVariables false
set_option linter.unusedSimpArgs false
set_option maxRecDepth 100000
def lawN : Nat := 20
def lawD : Nat := 8

open Go.Proofs.Ytodbpecmaiidpaa.S6 Go.Proofs.Ytodbpecmaiidpaa.V6 Go.Proofs.Ytodbpecmaiidpaa.M6 Go.Sx.C6 Go.Sx.C1

def w16 (f : Nat → Int) : List Int := [f 0, f 1, f 2, f 3, f 4, f 5, f 6, f 7, f 8, f 9, f 10, f 11, f 12, f 13, f 14, f 15]
def k16 (f : Nat → Option Nat) : List (Option Nat) := [f 0, f 1, f 2, f 3, f 4, f 5, f 6, f 7, f 8, f 9, f 10, f 11, f 12, f 13, f 14, f 15]
def kA (k : Nat → Option Nat) : AV := .agg (List.map (AV.flt .f32) (k16 k))
def zg : AV := .agg (gcells (w16 fun _ => 0) (w16 fun _ => 0) (k16 fun _ => some 0) (some 0))
def A2 (n m : Nat) (k : Nat → Option Nat) : List AV := [.slc 0 0 n, .slc 1 0 m, kA k]
def H2 (n m : Nat) (T U : Nat → Int) (C D : Nat → Nat → Int) : List Blk := roH n T C ++ roH m U D
noncomputable def TG (n m : Nat) (T U : Nat → Int) (C D : Nat → Nat → Int) (k : Nat → Option Nat) (v : Bool) : Tr (AV × Option (List Blk)) :=
  .node (cond (!V6.vS n T) true (!V6.vS m U)) (.leaf (.tup [zg, .lit (.int .i64 1)], none)) (.node (cond ((n : Int) == 0) true ((m : Int) == 0)) (.leaf (.tup [zg, .lit (.int .i64 6)], none))
    (.node (!v) (.leaf (.tup [zg, .lit (.int .i64 4)], none)) (.leaf (.tup [.agg (gcells (w16 (mn n C)) (w16 (mn m D)) (k16 k) (some 0)), .lit (.int .i64 0)], none))))
noncomputable def gc (n m : Nat) (T U : Nat → Int) (C D : Nat → Nat → Int) (v : Bool) : Int := cond (cond (!V6.vS n T) true (!V6.vS m U)) 1 (cond (cond ((n : Int) == 0) true ((m : Int) == 0)) 6 (cond (!v) 4 0))
noncomputable def gl (c : Int) (b w : Nat → Int) (k : Nat → Option Nat) : AV := .tup [.agg (gcells (w16 fun i => cond (c == 0) (b i) 0) (w16 fun i => cond (c == 0) (w i) 0) (k16 fun i => cond (c == 0) (k i) (some 0)) (some 0)), .int .i64 c]
theorem TG_le (n m : Nat) (T U : Nat → Int) (C D : Nat → Nat → Int) (k : Nat → Option Nat) (v : Bool) : LLe (TG n m T U C D k v).get (gl (gc n m T U C D v) (mn n C) (mn m D) k, none) := by
  unfold TG gc
  generalize cond (!V6.vS n T) true (!V6.vS m U) = a
  generalize cond ((n : Int) == 0) true ((m : Int) == 0) = b
  cases a
  · cases b
    · cases v
      · exact LLe.of rfl rfl rfl
      · exact LLe.of rfl rfl rfl
    · exact LLe.of rfl rfl rfl
  · exact LLe.of rfl rfl rfl
noncomputable def vv (n m : Nat) (C D : Nat → Nat → Int) (k : Nat → Option Nat) : Bool := C6.vS (w16 (mn n C)) (w16 (mn m D)) (k16 k) (dr (some 0))
noncomputable def vw (n m : Nat) (C D : Nat → Nat → Int) (k : Nat → Option Nat) : Bool := vI (w16 (mn n C)) (w16 (mn m D)) (k16 k) (dr (some 0))
theorem vw_vv (n m : Nat) (C D : Nat → Nat → Int) (k : Nat → Option Nat) : vw n m C D k = vv n m C D k := vI_vS _ _ _ _ rfl rfl (by simp [k16])
noncomputable def obG (n m : Nat) (T U : Nat → Int) (q1 q1' q2 q2' : Bool) : Bool := andB q1 (andB (impB (!!V6.vS n T) (andB q1' true)) (impB (!(cond (!V6.vS n T) true (!V6.vS m U))) (impB (!(cond ((n : Int) == 0) true ((m : Int) == 0))) (andB (andB q2 (andB q2' true)) true))))
theorem obG_true (n m : Nat) (T U : Nat → Int) {q1 q1' q2 q2' : Bool} (h1 : q1 = true) (h2 : q1' = true) (h3 : q2 = true) (h4 : q2' = true) : obG n m T U q1 q1' q2 q2' = true := by
  subst h1 h2 h3 h4
  unfold obG
  cases V6.vS n T <;> cases V6.vS m U <;> cases ((n : Int) == 0) <;> cases ((m : Int) == 0) <;> rfl

/-- which of two, by the block -/
noncomputable def byB (p : Nat → Bool) (r1 r2 : List AV → List Blk → Option Lf) : List AV → List Blk → Option Lf := fun a H => match a with | .slc b _ _ :: _ => bif p b then r1 a H else r2 a H | _ => r2 a H
theorem byB_ok {P : Program} {f : FuncId} {p : Nat → Bool} {r1 r2 : List AV → List Blk → Option Lf} (h1 : SumOk P f r1) (h2 : SumOk P f r2) : SumOk P f (byB p r1 r2) := fun args H t hr => by
  unfold byB at hr
  split at hr
  · rename_i b x y z
    cases hp : p b with
    | true => rw [hp] at hr; exact h1 _ _ _ hr
    | false => rw [hp] at hr; exact h2 _ _ _ hr
  · exact h2 _ _ _ hr
noncomputable def rV (n : Nat) (T : Nat → Int) (C : Nat → Nat → Int) : List AV → List Blk → Option Lf := selRun (runAtH [.slc 0 0 n] (roH n T C) (.leaf (.bool (V6.vS n T), none)) (Nat.ble n few))
noncomputable def gK (n m : Nat) (T U : Nat → Int) (C D : Nat → Nat → Int) : CallerT := addK 61 (byB (Nat.beq 0) (rV n T C) (rV m U D)) (addK 31 (byB (Nat.beq 0) (rV n T C) (rV m U D))
  (addK 77 (byB (Nat.beq 0) (runMean n T C) (runMean m U D)) (addK 79 (byB (Nat.beq 0) (runMean n T C) (runMean m U D)) cntK)))
theorem gK_ok (n m : Nat) (T U : Nat → Int) (C D : Nat → Nat → Int) : CallerTOk Try.prog (gK n m T U C D) := addK_ok (byB_ok (sumSam n T C) (sumSam m U D)) (addK_ok (byB_ok (sumI n T C) (sumI m U D)) (addK_ok (byB_ok (sumMeanS n T C) (sumMeanS m U D)) (addK_ok (byB_ok (sumMeanI n T C) (sumMeanI m U D)) cntK_ok)))
noncomputable def runG (n m : Nat) (T U : Nat → Int) (C D : Nat → Nat → Int) (k : Nat → Option Nat) : List AV → List Blk → Option Lf := selRun (runAtH (A2 n m k) (H2 n m T U C D) (.leaf (gl (gc n m T U C D (vv n m C D k)) (mn n C) (mn m D) k, none)) (Nat.ble n few && Nat.ble m few))
theorem sumGS (n m : Nat) (T U : Nat → Int) (C D : Nat → Nat → Int) (k : Nat → Option Nat) : SumOk Try.prog 43 (runG n m T U C D k) := sum_atH sxApart sxMixed (gK_ok n m T U C D) noL (N := 20) (d := 8) fun hn => by
  obtain ⟨h1, h2⟩ := Bool.and_eq_true_iff.1 hn
  refine ⟨noL_all, TG n m T U C D k (vv n m C D k), ?_, TG_le n m T U C D k _⟩
  have h : evF Try.prog (gK n m T U C D) noL 20 8 43 (A2 n m k) (H2 n m T U C D) = some (TG n m T U C D k (vv n m C D k), obG n m T U (okH n T C) (okH m U D) (okH n T C) (okH m U D)) := by kernel_rfl
  rw [obG_true n m T U (okH_true h1 T C) (okH_true h2 U D) (okH_true h1 T C) (okH_true h2 U D)] at h
  exact h
theorem sumGI (n m : Nat) (T U : Nat → Int) (C D : Nat → Nat → Int) (k : Nat → Option Nat) : SumOk Try.prog 44 (runG n m T U C D k) := sum_atH sxApart sxMixed (gK_ok n m T U C D) noL (N := 20) (d := 8) fun hn => by
  obtain ⟨h1, h2⟩ := Bool.and_eq_true_iff.1 hn
  refine ⟨noL_all, TG n m T U C D k (vw n m C D k), ?_, by rw [vw_vv]; exact TG_le n m T U C D k _⟩
  have h : evF Try.prog (gK n m T U C D) noL 20 8 44 (A2 n m k) (H2 n m T U C D) = some (TG n m T U C D k (vw n m C D k), obG n m T U (okH n T C) (okH m U D) (okH n T C) (okH m U D)) := by kernel_rfl
  rw [obG_true n m T U (okH_true h1 T C) (okH_true h2 U D) (okH_true h1 T C) (okH_true h2 U D)] at h
  exact h

noncomputable def lawK (n m : Nat) (T U : Nat → Int) (C D : Nat → Nat → Int) (k : Nat → Option Nat) : CallerT := addK 30 (byB (Nat.beq 0) (selRun (runTo n T C)) (selRun (runTo m U D))) (addK 32 (byB (Nat.beq 6) (selRun (runEqS n T C)) (selRun (runEqS m U D)))
  (addK 43 (runG n m T U C D k) (addK 44 (runG n m T U C D k) extK)))
theorem lawK_ok (n m : Nat) (T U : Nat → Int) (C D : Nat → Nat → Int) (k : Nat → Option Nat) : CallerTOk Try.prog (lawK n m T U C D k) := addK_ok (byB_ok (to_ok n T C) (to_ok m U D)) (addK_ok (byB_ok (eq_ok n T C) (eq_ok m U D)) (addK_ok (sumGS n m T U C D k) (addK_ok (sumGI n m T U C D k) extK_ok)))
noncomputable def eqG (b w : Nat → Int) (k : Nat → Option Nat) (d : Option Nat) : Bool := cond (!eqc (w16 b)) false (cond (!eqc (w16 w)) false (cond (!sfL (k16 k)) false (cond (!sf d) false true)))
theorem eqG_true (b w : Nat → Int) (k : Nat → Option Nat) (d : Option Nat) : eqG b w k d = true := by unfold eqG; rw [eqc_true, eqc_true, sfL_true, sf_true]; rfl
noncomputable def ne (c : Int) (b w : Nat → Int) (k : Nat → Option Nat) : Bool := impB (c == c) (!eqG (fun i => cond (c == 0) (b i) 0) (fun i => cond (c == 0) (w i) 0) (fun i => cond (c == 0) (k i) (some 0)) (some 0))
theorem ne_false (c : Int) (b w : Nat → Int) (k : Nat → Option Nat) : ne c b w k = false := by unfold ne; rw [eqG_true]; simp [impB]
def lft2 (n m : Nat) : Int := cond (decide (IntKind.i64.wrap (lft n - (m : Int)) < 0)) (-1) (IntKind.i64.wrap (lft n - (m : Int)))
def lw (n m : Nat) : Bool := decide (lft2 n m < 0)
theorem lw_or {n m : Nat} (hn : n ≤ 9223372036854775807) (hm : m ≤ 9223372036854775807) : lv n = true ∨ lw n m = true ∨ (Nat.ble n few = true ∧ Nat.ble m few = true) := by
  have hf : few = 1099511627776 := rfl
  by_cases h1 : n ≤ 1048576
  · right
    have e : lft n = 1048576 - (n : Int) := by
      unfold lft
      rw [wrap_i64 (by omega) (by omega), decide_eq_false (show ¬ (1048576 : Int) - n < 0 by omega)]
      rfl
    by_cases h2 : m ≤ 1048576
    · right
      exact ⟨Nat.ble_eq_true_of_le (by omega), Nat.ble_eq_true_of_le (by omega)⟩
    · left
      unfold lw lft2
      rw [e, wrap_i64 (by omega) (by omega), decide_eq_true (show (1048576 : Int) - n - m < 0 by omega)]
      rfl
  · left
    unfold lv lft
    rw [wrap_i64 (by omega) (by omega), decide_eq_true (show (1048576 : Int) - n < 0 by omega)]
    rfl
theorem imp_f (x : Bool) : impB false x = true := by cases x <;> rfl
theorem imp_tt (x : Bool) : impB x true = true := rfl

theorem law (n0 : Nat) (ln0 : n0 ≤ 9223372036854775807) (f0 : Nat → List AV) (tf0 : ∀ i, i < n0 → Typed sks (f0 i)) (n1 : Nat) (ln1 : n1 ≤ 9223372036854775807) (f1 : Nat → List AV) (tf1 : ∀ i, i < n1 → Typed sks (f1 i)) (l2 : List AV) (t2 : Typed (List.replicate 16 (.flt .f32)) l2) :
    ∃ K, CallerTOk Try.prog K ∧ ∃ t, evF Try.prog K noL lawN lawD 13 [.slc 0 0 n0, .slc 1 0 n1, .agg l2] [.rows false n0 17 (fun i => canonR sks 0 (f0 i)), .rows false n1 17 (fun i => canonR sks 0 (f1 i))] = some (t, true) ∧ delit t.get.1 = .bool true := by
  rw [canon_row, canon_row]
  generalize Tf f0 = T
  generalize Cf f0 = C
  generalize Tf f1 = U
  generalize Cf f1 = D
  obtain ⟨_, _, rfl, ⟨x0, rfl, x0K⟩, t2⟩ := t2
  obtain ⟨_, _, rfl, ⟨x1, rfl, x1K⟩, t2⟩ := t2
  obtain ⟨_, _, rfl, ⟨x2, rfl, x2K⟩, t2⟩ := t2
  obtain ⟨_, _, rfl, ⟨x3, rfl, x3K⟩, t2⟩ := t2
  obtain ⟨_, _, rfl, ⟨x4, rfl, x4K⟩, t2⟩ := t2
  obtain ⟨_, _, rfl, ⟨x5, rfl, x5K⟩, t2⟩ := t2
  obtain ⟨_, _, rfl, ⟨x6, rfl, x6K⟩, t2⟩ := t2
  obtain ⟨_, _, rfl, ⟨x7, rfl, x7K⟩, t2⟩ := t2
  obtain ⟨_, _, rfl, ⟨x8, rfl, x8K⟩, t2⟩ := t2
  obtain ⟨_, _, rfl, ⟨x9, rfl, x9K⟩, t2⟩ := t2
  obtain ⟨_, _, rfl, ⟨x10, rfl, x10K⟩, t2⟩ := t2
  obtain ⟨_, _, rfl, ⟨x11, rfl, x11K⟩, t2⟩ := t2
  obtain ⟨_, _, rfl, ⟨x12, rfl, x12K⟩, t2⟩ := t2
  obtain ⟨_, _, rfl, ⟨x13, rfl, x13K⟩, t2⟩ := t2
  obtain ⟨_, _, rfl, ⟨x14, rfl, x14K⟩, t2⟩ := t2
  obtain ⟨_, _, rfl, ⟨x15, rfl, x15K⟩, t2⟩ := t2
  have t2 := (t2 : _ = [])
  subst t2
  obtain ⟨k, hk⟩ : ∃ k : Nat → Option Nat, [x0, x1, x2, x3, x4, x5, x6, x7, x8, x9, x10, x11, x12, x13, x14, x15] = k16 k := ⟨fun i => [x0, x1, x2, x3, x4, x5, x6, x7, x8, x9, x10, x11, x12, x13, x14, x15].getD i none, rfl⟩
  have hl : AV.agg [.flt .f32 x0, .flt .f32 x1, .flt .f32 x2, .flt .f32 x3, .flt .f32 x4, .flt .f32 x5, .flt .f32 x6, .flt .f32 x7, .flt .f32 x8, .flt .f32 x9, .flt .f32 x10, .flt .f32 x11, .flt .f32 x12, .flt .f32 x13, .flt .f32 x14, .flt .f32 x15] = kA k := by unfold kA; rw [← hk]; rfl
  rw [hl]
  refine ⟨lawK n0 n1 T U C D k, lawK_ok n0 n1 T U C D k, .leaf (.bool (cond (lv n0) true (impB (ne (gc n0 n1 T U C D (vv n0 n1 C D k)) (mn n0 C) (mn n1 D) k) (lw n0 n1))), none), ?_, ?_⟩
  · have h : evF Try.prog (lawK n0 n1 T U C D k) noL lawN lawD 13 [.slc 0 0 n0, .slc 1 0 n1, kA k] (H2 n0 n1 T U C D) = some (.leaf (.bool (cond (lv n0) true (impB (ne (gc n0 n1 T U C D (vv n0 n1 C D k)) (mn n0 C) (mn n1 D) k) (lw n0 n1))), none),
      impB (!lv n0) (impB (!lw n0 n1) (andB (andB (okH n0 T C) (andB (okH n1 U D) (andB (andB (deq (A2 n0 n1 k) (A2 n0 n1 k)) (andB (deqH (H2 n0 n1 T U C D) (H2 n0 n1 T U C D)) (Nat.ble n0 few && Nat.ble n1 few))) true)))
        (andB (okH n0 T C) (andB (okH n1 U D) (andB (andB (deq (A2 n0 n1 k) (A2 n0 n1 k)) (andB (deqH (H2 n0 n1 T U C D) (H2 n0 n1 T U C D)) (Nat.ble n0 few && Nat.ble n1 few)))
          (impB (!ne (gc n0 n1 T U C D (vv n0 n1 C D k)) (mn n0 C) (mn n1 D) k) (andB (okH n0 T C) (andB (okE n0 T C) (andB (andB (okH n1 U D) (andB (okE n1 U D) true)) true)))))))))) := by kernel_rfl
    rw [ne_false] at h ⊢
    rw [deq_self, deqH_self] at h
    refine h.trans ?_
    rcases lw_or ln0 ln1 with h1 | h1 | ⟨h1, h2⟩
    · simp only [h1, Bool.not_true, imp_f]
    · simp only [h1, Bool.not_true, imp_f, imp_tt]
    · rw [okH_true h1, okH_true h2, okE_true h1, okE_true h2, h1, h2]
      cases lv n0 <;> cases lw n0 n1 <;> rfl
  · rw [ne_false]
    cases lv n0 <;> cases lw n0 n1 <;> rfl

set_option maxRecDepth 100000 in
theorem lifted (os : Os) (started : os.Started) (H : Type) (enc : TypeId × Value → H) :
    ReturnsInHanded {} Try.checked os 13 .any (Rows.fnExactGaugeOfSpec.pre6 enc Try.prog Try.f13 Rows.fnExactGaugeOfRow.domain false) (Rows.fnExactGaugeOfSpec.post enc Try.prog Try.f13 false true false false) := by
  refine returnsInHanded_of_change (C := Try.checked) sxOwn started (by kernel_rfl) Try.func13
    (ChangeSpec.witness6 (enc := enc) (C := Try.checked) false ⟨#[], #[.slice none 0 0, .slice none 0 0, .agg #[.float .f32 0, .float .f32 0, .float .f32 0, .float .f32 0, .float .f32 0, .float .f32 0, .float .f32 0, .float .f32 0, .float .f32 0, .float .f32 0, .float .f32 0, .float .f32 0, .float .f32 0, .float .f32 0, .float .f32 0, .float .f32 0]], []⟩ 8 (by kernel_rfl) (by kernel_rfl) (by kernel_rfl) (by kernel_rfl)) ?_
  intro W base args ds gs before hval0 hW hcnd _
  have hval : ∀ (j : Nat) t v, Try.f13.params[j]? = some t → args[j]? = some v → Value.okWide Try.prog W .any base t v := hval0
  have hW' := hW
  obtain ⟨p, q, hA0, hV, rfl, hfz, hnd⟩ := hW
  have hA : DataW.TrodAll enc Try.prog W 0 (fun _ => true) true Try.f13.params.toList args.toList ds p := hA0
  rw [Try.params13] at hA hval
  obtain ⟨v0, vs0, d0, ds0, p0, q0, hargs, rfl, rfl, h0, r0⟩ := trodAll_cons hA
  obtain ⟨v1, vs1, d1, ds1, p1, q1, rfl, rfl, rfl, h1, r1⟩ := trodAll_cons r0
  obtain ⟨v2, vs2, d2, ds2, p2, q2, rfl, rfl, rfl, h2, r2⟩ := trodAll_cons r1
  obtain ⟨rfl, rfl, rfl⟩ := trodAll_nil r2
  obtain rfl : args = #[v0, v1, v2] := by cases args; simp_all
  obtain ⟨rfl, rfl⟩ := trodVars_none hV
  have hrel0 : HRel [] [] W := ⟨rfl, fun b x p h => by simp at h, fun b c x y p q _ h => by simp at h⟩
  have hro0 := ro_nil
  obtain ⟨n0, f0, pl0, ln0, tf0, hr0, ev0⟩ := arg_slice (e := 86) (D := 8) (ks := [.int .i64, .int .i16, .int .i16, .int .i16, .int .i16, .int .i16, .int .i16, .int .i16, .int .i16, .int .i16, .int .i16, .int .i16, .int .i16, .int .i16, .int .i16, .int .i16, .int .i16]) (hval 0 47 v0 rfl rfl) h0 (by kernel_rfl) (by kernel_rfl) (by kernel_rfl) (of_decide_eq_true (by kernel_rfl)) hrel0 hro0
  have hrel1 := HRel.canon hr0 (ro_app hro0) tf0
  have hro1 := ro_app (n := n0) (sz := 17) (f := fun i => canonR [.int .i64, .int .i16, .int .i16, .int .i16, .int .i16, .int .i16, .int .i16, .int .i16, .int .i16, .int .i16, .int .i16, .int .i16, .int .i16, .int .i16, .int .i16, .int .i16, .int .i16] 0 (f0 i)) hro0
  obtain ⟨n1, f1, pl1, ln1, tf1, hr1, ev1⟩ := arg_slice (e := 86) (D := 8) (ks := [.int .i64, .int .i16, .int .i16, .int .i16, .int .i16, .int .i16, .int .i16, .int .i16, .int .i16, .int .i16, .int .i16, .int .i16, .int .i16, .int .i16, .int .i16, .int .i16, .int .i16]) (hval 1 47 v1 rfl rfl) h1 (by kernel_rfl) (by kernel_rfl) (by kernel_rfl) (of_decide_eq_true (by kernel_rfl)) hrel1 hro1
  have hrel2 := HRel.canon hr1 (ro_app hro1) tf1
  have hro2 := ro_app (n := n1) (sz := 17) (f := fun i => canonR [.int .i64, .int .i16, .int .i16, .int .i16, .int .i16, .int .i16, .int .i16, .int .i16, .int .i16, .int .i16, .int .i16, .int .i16, .int .i16, .int .i16, .int .i16, .int .i16, .int .i16] 0 (f1 i)) hro1
  have e0 : VRel [pl0, pl1] (.slc 0 0 n0) v0 := VRel.ext (fun b p hp => by revert hp; rcases b with _ | _ | _ | _ <;> simp) ev0
  have e1 : VRel [pl0, pl1] (.slc 1 0 n1) v1 := VRel.ext (fun b p hp => by revert hp; rcases b with _ | _ | _ | _ <;> simp) ev1
  obtain ⟨l2, t2, e2⟩ := arg_agg (ρ := [pl0, pl1]) (ts := [22, 22, 22, 22, 22, 22, 22, 22, 22, 22, 22, 22, 22, 22, 22, 22]) (ks := [.flt .f32, .flt .f32, .flt .f32, .flt .f32, .flt .f32, .flt .f32, .flt .f32, .flt .f32, .flt .f32, .flt .f32, .flt .f32, .flt .f32, .flt .f32, .flt .f32, .flt .f32, .flt .f32]) (hval 2 27 v2 rfl rfl) (by kernel_rfl) (by kernel_rfl) (by kernel_rfl) (by kernel_rfl)
  have k0 := h0
  have lt0 : ∀ x ∈ p0, x.block < W.heap.size := by obtain ⟨m, hm⟩ := k0; exact DataW.trod_lt m _ _ _ hm
  have k1 := h1
  have lt1 : ∀ x ∈ p1, x.block < W.heap.size := by obtain ⟨m, hm⟩ := k1; exact DataW.trod_lt m _ _ _ hm
  have k2 := h2
  have lt2 : ∀ x ∈ p2, x.block < W.heap.size := by obtain ⟨m, hm⟩ := k2; exact DataW.trod_lt m _ _ _ hm
  have hargs : VRels [pl0, pl1] [.slc 0 0 n0, .slc 1 0 n1, .agg l2] [v0, v1, v2] := by
    simp only [VRels]
    exact ⟨v0, _, rfl, e0, ⟨v1, _, rfl, e1, ⟨v2, _, rfl, e2, rfl⟩⟩⟩
  obtain ⟨lawK, lawK_ok, hlaw⟩ := law n0 ln0 f0 tf0 n1 ln1 f1 tf1 l2 t2
  refine (evF_true (K := lawK) (L := noL) (N := lawN) (d := lawD) sxApart sxMixed lawK_ok (fun _ _ _ _ => noL_ok) hlaw hrel2 hro2 hargs).mono fun e W' ⟨he, bel⟩ => ?_
  subst he
  exact ⟨_, rfl, _, _, _, [], _, [], hW', trodAll_mk1 (shut_bool Try.underlying4 _), (trodAll_cons_mk (Below.trod sxLaid (by kernel_rfl) (of_decide_eq_true (by kernel_rfl)) k0 bel lt0) (trodAll_cons_mk (Below.trod sxLaid (by kernel_rfl) (of_decide_eq_true (by kernel_rfl)) k1 bel lt1) (trodAll_cons_mk (Below.trod sxLaid (by kernel_rfl) (of_decide_eq_true (by kernel_rfl)) k2 bel lt2) trodAll_mk0))), rfl, bel.frame _, fun h => by cases h⟩

theorem over : Rows.fnExactGaugeOfRow.holds Try.pinned (OpenSpec.ofChange Rows.fnExactGaugeOfSpec) :=
  OpenClaim.holds_of_wide 13 Try.f13 rfl rfl rfl rfl rfl rfl rfl ⟨rfl, rfl, rfl, rfl, rfl⟩ rfl rfl rfl rfl rfl (by kernel_rfl) Try.func13 (by kernel_rfl)
    (of_decide_eq_true (by kernel_rfl)) (by unfold Func.isWrapper; first | (rw [if_pos (by decide +kernel)]; kernel_rfl) | (rw [if_neg (by decide +kernel)]; exact ⟨rfl, rfl⟩))
    (fun os started H enc _ => lifted os started H enc)

/-- The statement. -/
theorem proved : Rows.FnExactGaugeOfSaid := over
#print axioms proved
end Go.Proofs.Ytodbpecmaiidpaa.lawGaugeOf
