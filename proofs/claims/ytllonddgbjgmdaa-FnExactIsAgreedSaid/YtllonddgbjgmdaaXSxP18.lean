/- Texts of one claim, put together. -/
import Derived.Test.YtllonddgbjgmdaaG9
import Derived.Test.YtllonddgbjgmdaaXSxP16
set_option linter.unusedVariables false
set_option linter.unusedSimpArgs false
set_option maxRecDepth 100000
namespace Go.Proofs.Ytllonddgbjgmdaa.P18
open Go.Sx Go.Sx.R0 Go.RowKit Go.Proofs.Ytllonddgbjgmdaa.W1 Go.Proofs.Ytllonddgbjgmdaa.W3 Go.Proofs.Ytllonddgbjgmdaa.W5 Go.Proofs.Ytllonddgbjgmdaa.W9 Go.Proofs.Ytllonddgbjgmdaa.W10 Go.Proofs.Ytllonddgbjgmdaa.P1 Go.Proofs.Ytllonddgbjgmdaa.P2 Go.Proofs.Ytllonddgbjgmdaa.P3 Go.Proofs.Ytllonddgbjgmdaa.P4 Go.Proofs.Ytllonddgbjgmdaa.P5 Go.Proofs.Ytllonddgbjgmdaa.P6 Go.Proofs.Ytllonddgbjgmdaa.P7 Go.Proofs.Ytllonddgbjgmdaa.P8 Go.Proofs.Ytllonddgbjgmdaa.P9 Go.Proofs.Ytllonddgbjgmdaa.P10 Go.Proofs.Ytllonddgbjgmdaa.P11 Go.Proofs.Ytllonddgbjgmdaa.P12 Go.Proofs.Ytllonddgbjgmdaa.P13 Go.Proofs.Ytllonddgbjgmdaa.P14 Go.Proofs.Ytllonddgbjgmdaa.P15 Go.Proofs.Ytllonddgbjgmdaa.P16 Go.Proofs.Ytllonddgbjgmdaa.P17

noncomputable def KAS (r : Int) (R n m : Nat) (c : Bt) (d : Dd) : CallerT := addK 66 (runG r n m c d) (addK 67 (runPS R n m c d) (addK 74 (selRunR (refX R) (runAg R)) extK))
noncomputable def KAI (r : Int) (R n m : Nat) (c : Bt) (d : Dd) : CallerT := addK 68 (runC r n m c d) (addK 73 (runAf R n m c d) (addK 118 (runIx (mOf c n) (sq (enS R n c) R d m).kn) extK))
theorem KAS_ok (r : Int) {R : Nat} (h1 : 1 ≤ R) (h2 : R ≤ 4) (n m : Nat) (c : Bt) (d : Dd) : CallerTOk Try.prog (KAS r R n m c d) := addK_ok (gS r n m c d) (addK_ok (playS h1 h2 n m c d) (addK_ok (agS R) extK_ok))
theorem KAI_ok (r : Int) {R : Nat} (h1 : 1 ≤ R) (h2 : R ≤ 4) (n m : Nat) (c : Bt) (d : Dd) : CallerTOk Try.prog (KAI r R n m c d) := addK_ok (cI r n m c d) (addK_ok (afI h1 h2 n m c d) (addK_ok (ixI _ _) extK_ok))
def m0A (R : Nat) : List Nat := [3, 2, 5, 6, 7, 8, 9, 10, 0] ++ rl 11 R
def bfA (R M : Nat) (i : Nat) : List AV := renVL (idxP (m0A R)) (renVL (fwd [2, 1, 0] 3) (canT 11 M R i))
noncomputable def qAg (r : Int) (R n : Nat) (c : Bt) (F : Fl) : Bool := pB (isAg ((memS (eT n (mOf c n) c (tsOf c n)) R (bfA R (mOf c n)) F).set 1 (.one true [.int .i64 r, .slc 8 0 n])) R)
theorem qAg_true (R : Nat) {n : Nat} (hn : n ≤ 1000) (c : Bt) (F : Fl) : qAg (Int.ofNat R) R n c F = true := pB_true ⟨n, mOf c n, c, tsOf c n, F, rfl, by have := mOf_le c n; have := few_eq; omega⟩
noncomputable def agV (R n m : Nat) (c : Bt) (d : Dd) : Bool := allB (mOf c n) fun k => !!(sq (enS R n c) R d m).kn k
noncomputable def ixV (R n m : Nat) (c : Bt) (d : Dd) : Int := cond (allB (mOf c n) fun k => !(false == (sq (enS R n c) R d m).kn k)) (-1) (Int.ofNat (fb (fun k => !(false == (sq (enS R n c) R d m).kn k)) (mOf c n)))
noncomputable def TAX (r : Int) (n m : Nat) (c : Bt) (d : Dd) (v : Bool) : Tr (AV × Option (List Blk)) := .node (!(gv r n c m d == 0)) (.leaf (.tup [.lit (.bool false), .int .i64 (gv r n c m d)], none)) (.leaf (.tup [.bool v, z0], none))
noncomputable def oAS (r : Int) (R n m : Nat) (c : Bt) (d : Dd) : Bool := andB (okG r n m c d) (impB (!!(gv r n c m d == 0)) (andB (okP' r R n m c d) (andB (qAg r R n c (sq (enS R n c) R d m)) true)))
noncomputable def oAI (r : Int) (R n m : Nat) (c : Bt) (d : Dd) : Bool := andB (W10.okC r n m c d) (impB (!!(gv r n c m d == 0)) (andB (okAf' r R n m c d) (andB (andB (andB (okIx (mOf c n) (sq (enS R n c) R d m).kn) true) true) true)))
theorem aS1 (r : Int) (n m : Nat) (c : Bt) (d : Dd) : evF Try.prog (KAS r 1 n m c d) noL 20 8 39 (A2 r n m) (H2 n m c d) = some (TAX r n m c d (agV 1 n m c d), oAS r 1 n m c d) := by kernel_rfl
theorem aI1 (r : Int) (n m : Nat) (c : Bt) (d : Dd) : evF Try.prog (KAI r 1 n m c d) noL 20 8 40 (A2 r n m) (H2 n m c d) = some (TAX r n m c d (!(decide (ixV 1 n m c d ≥ 0))), oAI r 1 n m c d) := by kernel_rfl
theorem aS2 (r : Int) (n m : Nat) (c : Bt) (d : Dd) : evF Try.prog (KAS r 2 n m c d) noL 20 8 39 (A2 r n m) (H2 n m c d) = some (TAX r n m c d (agV 2 n m c d), oAS r 2 n m c d) := by kernel_rfl
theorem aI2 (r : Int) (n m : Nat) (c : Bt) (d : Dd) : evF Try.prog (KAI r 2 n m c d) noL 20 8 40 (A2 r n m) (H2 n m c d) = some (TAX r n m c d (!(decide (ixV 2 n m c d ≥ 0))), oAI r 2 n m c d) := by kernel_rfl
theorem aS3 (r : Int) (n m : Nat) (c : Bt) (d : Dd) : evF Try.prog (KAS r 3 n m c d) noL 20 8 39 (A2 r n m) (H2 n m c d) = some (TAX r n m c d (agV 3 n m c d), oAS r 3 n m c d) := by kernel_rfl
theorem aI3 (r : Int) (n m : Nat) (c : Bt) (d : Dd) : evF Try.prog (KAI r 3 n m c d) noL 20 8 40 (A2 r n m) (H2 n m c d) = some (TAX r n m c d (!(decide (ixV 3 n m c d ≥ 0))), oAI r 3 n m c d) := by kernel_rfl
theorem aS4 (r : Int) (n m : Nat) (c : Bt) (d : Dd) : evF Try.prog (KAS r 4 n m c d) noL 20 8 39 (A2 r n m) (H2 n m c d) = some (TAX r n m c d (agV 4 n m c d), oAS r 4 n m c d) := by kernel_rfl
theorem aI4 (r : Int) (n m : Nat) (c : Bt) (d : Dd) : evF Try.prog (KAI r 4 n m c d) noL 20 8 40 (A2 r n m) (H2 n m c d) = some (TAX r n m c d (!(decide (ixV 4 n m c d ≥ 0))), oAI r 4 n m c d) := by kernel_rfl
theorem ixV_eq (R n m : Nat) (c : Bt) (d : Dd) : (!(decide (ixV R n m c d ≥ 0))) = agV R n m c d := by
  unfold ixV agV
  have e : (fun k => !(false == (sq (enS R n c) R d m).kn k)) = fun k => !!(sq (enS R n c) R d m).kn k := by
    funext k
    cases (sq (enS R n c) R d m).kn k <;> rfl
  rw [e]
  cases allB (mOf c n) fun k => !!(sq (enS R n c) R d m).kn k with
  | true => rfl
  | false =>
    simp only [cond_false]
    rw [decide_eq_true (show Int.ofNat _ ≥ 0 from Int.natCast_nonneg _)]
    rfl
def lfA (v : Bool) (e : Int) : AV × Option (List Blk) := (.tup [.bool v, .int .i64 e], none)
noncomputable def runIA (r : Int) (n m : Nat) (c : Bt) (d : Dd) (v : Bool) (e : Int) (g : Bool) : List AV → List Blk → Option Lf := selRun (runAtH (A2 r n m) (H2 n m c d) (.leaf (lfA v e)) g)
theorem aSX (r : Int) (n m : Nat) (c : Bt) (d : Dd) : SumOk Try.prog 39 (runIA r n m c d false (gv r n c m d) (gX r n m c d)) := sum_atH sxApart sxMixed (KAS_ok r (R := 1) (by omega) (by omega) n m c d) noL (N := 20) (d := 8) fun hg => by
  obtain ⟨h1, hg⟩ := andB_true hg
  obtain ⟨h2, hg⟩ := andB_true hg
  obtain ⟨h3, h4⟩ := andB_true hg
  have h := aS1 r n m c d
  have ho : oAS r 1 n m c d = true := by
    unfold oAS
    rw [okG_true r (Nat.le_of_ble_eq_true h1) (Nat.le_of_ble_eq_true h2) (pB_of h3), h4]
    cases (andB (okP' r 1 n m c d) (andB (qAg r 1 n c (sq (enS 1 n c) 1 d m)) true)) <;> rfl
  rw [ho] at h
  refine ⟨noL_all, _, h, ?_⟩
  unfold TAX
  rw [h4]
  exact LLe.of rfl rfl rfl
theorem aIX (r : Int) (n m : Nat) (c : Bt) (d : Dd) : SumOk Try.prog 40 (runIA r n m c d false (gv r n c m d) (gX r n m c d)) := sum_atH sxApart sxMixed (KAI_ok r (R := 1) (by omega) (by omega) n m c d) noL (N := 20) (d := 8) fun hg => by
  obtain ⟨h1, hg⟩ := andB_true hg
  obtain ⟨h2, hg⟩ := andB_true hg
  obtain ⟨h3, h4⟩ := andB_true hg
  have h := aI1 r n m c d
  have ho : oAI r 1 n m c d = true := by
    unfold oAI
    rw [W10.okC_true r (Nat.le_of_ble_eq_true h1) (Nat.le_of_ble_eq_true h2) (pB_of h3), h4]
    cases (andB (okAf' r 1 n m c d) (andB (andB (andB (okIx (mOf c n) (sq (enS 1 n c) 1 d m).kn) true) true) true)) <;> rfl
  rw [ho] at h
  refine ⟨noL_all, _, h, ?_⟩
  unfold TAX
  rw [h4]
  exact LLe.of rfl rfl rfl
theorem aSV1 {n m : Nat} (c : Bt) (d : Dd) : SumOk Try.prog 39 (runIA (Int.ofNat 1) n m c d (agV 1 n m c d) 0 (gV (Int.ofNat 1) n m c d)) := sum_atH sxApart sxMixed (KAS_ok (Int.ofNat 1) (R := 1) (by omega) (by omega) n m c d) noL (N := 20) (d := 8) fun hg => by
  obtain ⟨h3, h4⟩ := andB_true hg
  have h0 : gv (Int.ofNat 1) n c m d = 0 := by simpa using h4
  obtain ⟨_, hn, hd, hm⟩ := gv_zero h0
  have hf := few_eq
  have h := aS1 (Int.ofNat 1) n m c d
  have ho : oAS (Int.ofNat 1) 1 n m c d = true := by
    unfold oAS okP'
    rw [okG_true _ (by omega) (by omega) (pB_of h3), h4, deq_self, show deqH (W10.hg (Int.ofNat 1) n m c d) (hP 1 n m c d) = true from deqH_self _, Nat.ble_eq_true_of_le (show n ≤ 1000 by omega), pB_true hd, qAg_true _ (by omega)]
    rfl
  rw [ho] at h
  refine ⟨noL_all, _, h, ?_⟩
  unfold TAX
  rw [h4]
  exact LLe.of rfl rfl rfl
theorem aIV1 {n m : Nat} (c : Bt) (d : Dd) : SumOk Try.prog 40 (runIA (Int.ofNat 1) n m c d (agV 1 n m c d) 0 (gV (Int.ofNat 1) n m c d)) := sum_atH sxApart sxMixed (KAI_ok (Int.ofNat 1) (R := 1) (by omega) (by omega) n m c d) noL (N := 20) (d := 8) fun hg => by
  obtain ⟨h3, h4⟩ := andB_true hg
  have h0 : gv (Int.ofNat 1) n c m d = 0 := by simpa using h4
  obtain ⟨_, hn, hd, hm⟩ := gv_zero h0
  have hf := few_eq
  have hM := mOf_le c n
  have h := aI1 (Int.ofNat 1) n m c d
  have ho : oAI (Int.ofNat 1) 1 n m c d = true := by
    unfold oAI okAf'
    rw [W10.okC_true _ (by omega) (by omega) (pB_of h3), h4, deq_self, deqH_self, Nat.ble_eq_true_of_le (show n ≤ 1000 by omega), pB_true hd, okIx_true (by omega)]
    rfl
  rw [ho, ixV_eq] at h
  refine ⟨noL_all, _, h, ?_⟩
  unfold TAX
  rw [h4]
  exact LLe.of rfl rfl rfl
theorem aSV2 {n m : Nat} (c : Bt) (d : Dd) : SumOk Try.prog 39 (runIA (Int.ofNat 2) n m c d (agV 2 n m c d) 0 (gV (Int.ofNat 2) n m c d)) := sum_atH sxApart sxMixed (KAS_ok (Int.ofNat 2) (R := 2) (by omega) (by omega) n m c d) noL (N := 20) (d := 8) fun hg => by
  obtain ⟨h3, h4⟩ := andB_true hg
  have h0 : gv (Int.ofNat 2) n c m d = 0 := by simpa using h4
  obtain ⟨_, hn, hd, hm⟩ := gv_zero h0
  have hf := few_eq
  have h := aS2 (Int.ofNat 2) n m c d
  have ho : oAS (Int.ofNat 2) 2 n m c d = true := by
    unfold oAS okP'
    rw [okG_true _ (by omega) (by omega) (pB_of h3), h4, deq_self, show deqH (W10.hg (Int.ofNat 2) n m c d) (hP 2 n m c d) = true from deqH_self _, Nat.ble_eq_true_of_le (show n ≤ 1000 by omega), pB_true hd, qAg_true _ (by omega)]
    rfl
  rw [ho] at h
  refine ⟨noL_all, _, h, ?_⟩
  unfold TAX
  rw [h4]
  exact LLe.of rfl rfl rfl
theorem aIV2 {n m : Nat} (c : Bt) (d : Dd) : SumOk Try.prog 40 (runIA (Int.ofNat 2) n m c d (agV 2 n m c d) 0 (gV (Int.ofNat 2) n m c d)) := sum_atH sxApart sxMixed (KAI_ok (Int.ofNat 2) (R := 2) (by omega) (by omega) n m c d) noL (N := 20) (d := 8) fun hg => by
  obtain ⟨h3, h4⟩ := andB_true hg
  have h0 : gv (Int.ofNat 2) n c m d = 0 := by simpa using h4
  obtain ⟨_, hn, hd, hm⟩ := gv_zero h0
  have hf := few_eq
  have hM := mOf_le c n
  have h := aI2 (Int.ofNat 2) n m c d
  have ho : oAI (Int.ofNat 2) 2 n m c d = true := by
    unfold oAI okAf'
    rw [W10.okC_true _ (by omega) (by omega) (pB_of h3), h4, deq_self, deqH_self, Nat.ble_eq_true_of_le (show n ≤ 1000 by omega), pB_true hd, okIx_true (by omega)]
    rfl
  rw [ho, ixV_eq] at h
  refine ⟨noL_all, _, h, ?_⟩
  unfold TAX
  rw [h4]
  exact LLe.of rfl rfl rfl
theorem aSV3 {n m : Nat} (c : Bt) (d : Dd) : SumOk Try.prog 39 (runIA (Int.ofNat 3) n m c d (agV 3 n m c d) 0 (gV (Int.ofNat 3) n m c d)) := sum_atH sxApart sxMixed (KAS_ok (Int.ofNat 3) (R := 3) (by omega) (by omega) n m c d) noL (N := 20) (d := 8) fun hg => by
  obtain ⟨h3, h4⟩ := andB_true hg
  have h0 : gv (Int.ofNat 3) n c m d = 0 := by simpa using h4
  obtain ⟨_, hn, hd, hm⟩ := gv_zero h0
  have hf := few_eq
  have h := aS3 (Int.ofNat 3) n m c d
  have ho : oAS (Int.ofNat 3) 3 n m c d = true := by
    unfold oAS okP'
    rw [okG_true _ (by omega) (by omega) (pB_of h3), h4, deq_self, show deqH (W10.hg (Int.ofNat 3) n m c d) (hP 3 n m c d) = true from deqH_self _, Nat.ble_eq_true_of_le (show n ≤ 1000 by omega), pB_true hd, qAg_true _ (by omega)]
    rfl
  rw [ho] at h
  refine ⟨noL_all, _, h, ?_⟩
  unfold TAX
  rw [h4]
  exact LLe.of rfl rfl rfl
theorem aIV3 {n m : Nat} (c : Bt) (d : Dd) : SumOk Try.prog 40 (runIA (Int.ofNat 3) n m c d (agV 3 n m c d) 0 (gV (Int.ofNat 3) n m c d)) := sum_atH sxApart sxMixed (KAI_ok (Int.ofNat 3) (R := 3) (by omega) (by omega) n m c d) noL (N := 20) (d := 8) fun hg => by
  obtain ⟨h3, h4⟩ := andB_true hg
  have h0 : gv (Int.ofNat 3) n c m d = 0 := by simpa using h4
  obtain ⟨_, hn, hd, hm⟩ := gv_zero h0
  have hf := few_eq
  have hM := mOf_le c n
  have h := aI3 (Int.ofNat 3) n m c d
  have ho : oAI (Int.ofNat 3) 3 n m c d = true := by
    unfold oAI okAf'
    rw [W10.okC_true _ (by omega) (by omega) (pB_of h3), h4, deq_self, deqH_self, Nat.ble_eq_true_of_le (show n ≤ 1000 by omega), pB_true hd, okIx_true (by omega)]
    rfl
  rw [ho, ixV_eq] at h
  refine ⟨noL_all, _, h, ?_⟩
  unfold TAX
  rw [h4]
  exact LLe.of rfl rfl rfl
theorem aSV4 {n m : Nat} (c : Bt) (d : Dd) : SumOk Try.prog 39 (runIA (Int.ofNat 4) n m c d (agV 4 n m c d) 0 (gV (Int.ofNat 4) n m c d)) := sum_atH sxApart sxMixed (KAS_ok (Int.ofNat 4) (R := 4) (by omega) (by omega) n m c d) noL (N := 20) (d := 8) fun hg => by
  obtain ⟨h3, h4⟩ := andB_true hg
  have h0 : gv (Int.ofNat 4) n c m d = 0 := by simpa using h4
  obtain ⟨_, hn, hd, hm⟩ := gv_zero h0
  have hf := few_eq
  have h := aS4 (Int.ofNat 4) n m c d
  have ho : oAS (Int.ofNat 4) 4 n m c d = true := by
    unfold oAS okP'
    rw [okG_true _ (by omega) (by omega) (pB_of h3), h4, deq_self, show deqH (W10.hg (Int.ofNat 4) n m c d) (hP 4 n m c d) = true from deqH_self _, Nat.ble_eq_true_of_le (show n ≤ 1000 by omega), pB_true hd, qAg_true _ (by omega)]
    rfl
  rw [ho] at h
  refine ⟨noL_all, _, h, ?_⟩
  unfold TAX
  rw [h4]
  exact LLe.of rfl rfl rfl
theorem aIV4 {n m : Nat} (c : Bt) (d : Dd) : SumOk Try.prog 40 (runIA (Int.ofNat 4) n m c d (agV 4 n m c d) 0 (gV (Int.ofNat 4) n m c d)) := sum_atH sxApart sxMixed (KAI_ok (Int.ofNat 4) (R := 4) (by omega) (by omega) n m c d) noL (N := 20) (d := 8) fun hg => by
  obtain ⟨h3, h4⟩ := andB_true hg
  have h0 : gv (Int.ofNat 4) n c m d = 0 := by simpa using h4
  obtain ⟨_, hn, hd, hm⟩ := gv_zero h0
  have hf := few_eq
  have hM := mOf_le c n
  have h := aI4 (Int.ofNat 4) n m c d
  have ho : oAI (Int.ofNat 4) 4 n m c d = true := by
    unfold oAI okAf'
    rw [W10.okC_true _ (by omega) (by omega) (pB_of h3), h4, deq_self, deqH_self, Nat.ble_eq_true_of_le (show n ≤ 1000 by omega), pB_true hd, okIx_true (by omega)]
    rfl
  rw [ho, ixV_eq] at h
  refine ⟨noL_all, _, h, ?_⟩
  unfold TAX
  rw [h4]
  exact LLe.of rfl rfl rfl
theorem both (r : Int) {n m : Nat} {c : Bt} (d : Dd) (hn : n ≤ few) (hm : m ≤ few) (hc : NmOk n c) : ∃ v e g, SumOk Try.prog 39 (runIA r n m c d v e g) ∧ SumOk Try.prog 40 (runIA r n m c d v e g) ∧ g = true := by
  cases h : (gv r n c m d == 0) with
  | false => exact ⟨_, _, _, aSX r n m c d, aIX r n m c d, gX_true hn hm hc h⟩
  | true =>
    obtain ⟨⟨R, h1, h2, rfl⟩, _⟩ := gv_zero (show gv r n c m d = 0 by simpa using h)
    have hR : R = 1 ∨ R = 2 ∨ R = 3 ∨ R = 4 := by omega
    rcases hR with rfl | rfl | rfl | rfl
    · exact ⟨_, _, _, aSV1 c d, aIV1 c d, gV_true hc h⟩
    · exact ⟨_, _, _, aSV2 c d, aIV2 c d, gV_true hc h⟩
    · exact ⟨_, _, _, aSV3 c d, aIV3 c d, gV_true hc h⟩
    · exact ⟨_, _, _, aSV4 c d, aIV4 c d, gV_true hc h⟩
end Go.Proofs.Ytllonddgbjgmdaa.P18
