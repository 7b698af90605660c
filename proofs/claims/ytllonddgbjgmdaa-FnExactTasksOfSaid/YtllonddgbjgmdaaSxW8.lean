/- Tasks of works: the two functions, in the two cases. -/
import Derived.Test.YtllonddgbjgmdaaSxW7
set_option linter.unusedVariables false
set_option linter.unusedSimpArgs false
set_option maxRecDepth 100000
namespace Go.Proofs.Ytllonddgbjgmdaa.W8
open Go.Sx Go.Sx.R0 Go.RowKit Go.Proofs.Ytllonddgbjgmdaa.W1 Go.Proofs.Ytllonddgbjgmdaa.W2 Go.Proofs.Ytllonddgbjgmdaa.W3 Go.Proofs.Ytllonddgbjgmdaa.W5

noncomputable def TS (r : Int) (n : Nat) (c : Bt) : Tr (AV × Option (List Blk)) := .node (!vW r n c) (.leaf (.tup [.slc 2 0 0, .lit (.int .i64 1)], some (Bt.ro1 n c ++ [.one true [.int .i64 r, .slc 0 0 n], zR3]))) (.leaf (.tup [.slc 2 0 (outL c n).length, .lit (.int .i64 0)], some (Bt.ro1 n c ++ [.one true [.int .i64 r, .slc 0 0 n], tl (outL c n)])))
noncomputable def runSx (r : Int) (n : Nat) (c : Bt) : List AV → List Blk → Option Lf := selRun (runAtH (AV1 r n) (Bt.ro1 n c) (.leaf (.tup [.slc 2 0 0, .int .i64 1], some (Bt.ro1 n c ++ [.one true [.int .i64 r, .slc 0 0 n], tl []]))) (andB (Nat.ble n few) (andB (pB (NmOk n c)) (!vW r n c))))
noncomputable def runSt (r : Int) (n : Nat) (c : Bt) : List AV → List Blk → Option Lf := selRun (runAtH (AV1 r n) (Bt.ro1 n c) (.leaf (.tup [.slc 2 0 (outL c n).length, .int .i64 0], some (Bt.ro1 n c ++ [.one true [.int .i64 r, .slc 0 0 n], tl (outL c n)]))) (andB (Nat.ble n 1000) (andB (pB (NmOk n c)) (vW r n c))))
theorem evS (r : Int) (n : Nat) (c : Bt) : evF Try.prog (addK 57 (runVp r n c) (addK 62 (runTa r n c) extK)) noL 20 8 26 (AV1 r n) (Bt.ro1 n c) = some (TS r n c, andB (okVp r n c) (impB (!!vW r n c) (andB (okTa r n c) true))) := by kernel_rfl
theorem okSx (r : Int) (n : Nat) (c : Bt) : SumOk Try.prog 26 (runSx r n c) := sum_atH sxApart sxMixed (addK_ok (vpS r n c) (addK_ok (taS r n c) extK_ok)) noL (N := 20) (d := 8) fun hg => by
  obtain ⟨h1, h2⟩ := andB_true hg
  obtain ⟨h2, h3⟩ := andB_true h2
  have hn := Nat.le_of_ble_eq_true h1
  have hv : vW r n c = false := by simpa using h3
  refine ⟨noL_all, TS r n c, ?_, ?_⟩
  · have h := evS r n c
    rw [okVp_true r hn (pB_of h2), show impB (!!vW r n c) (andB (okTa r n c) true) = true from by rw [hv]; exact Go.Sx.R0.imp_f (andB (okTa r n c) true)] at h
    exact h
  · unfold TS
    rw [hv]
    exact ⟨rfl, BLe.refl _, BLe.refl _, BLe.rows fun i hi => absurd hi (Nat.not_lt_zero i), trivial⟩
theorem okSt (r : Int) (n : Nat) (c : Bt) : SumOk Try.prog 26 (runSt r n c) := sum_atH sxApart sxMixed (addK_ok (vpS r n c) (addK_ok (taS r n c) extK_ok)) noL (N := 20) (d := 8) fun hg => by
  obtain ⟨h1, h2⟩ := andB_true hg
  obtain ⟨h2, hv⟩ := andB_true h2
  have hn := Nat.le_of_ble_eq_true h1
  refine ⟨noL_all, TS r n c, ?_, ?_⟩
  · have h := evS r n c
    rw [okVp_true r (by rw [few_eq]; omega) (pB_of h2), okTa_true r hn c] at h
    rw [show andB true (impB (!!vW r n c) (andB true true)) = true from by rw [hv]; rfl] at h
    exact h
  · unfold TS
    rw [hv]
    exact ⟨rfl, HLe.refl _⟩
noncomputable def TI (r : Int) (n : Nat) (c : Bt) : Tr (AV × Option (List Blk)) := .node (!vW r n c) (.leaf (.tup [.nils, .lit (.int .i64 1)], none)) (.leaf (.tup [.slc 3 0 (outL c n).length, .lit (.int .i64 0)], some (Bt.ro1 n c ++ [.one true [.int .i64 r, .slc 0 0 n], .one true [.int .i64 r, .slc 0 0 n], tl (outL c n)])))
noncomputable def LI (r : Int) (n : Nat) (c : Bt) : AV × Option (List Blk) := bif vW r n c then (.tup [.slc 3 0 (outL c n).length, .int .i64 0], some (Bt.ro1 n c ++ [.one true [.int .i64 r, .slc 0 0 n], .one true [.int .i64 r, .slc 0 0 n], tl (outL c n)])) else (.tup [.nils, .int .i64 1], none)
theorem TI_le (r : Int) (n : Nat) (c : Bt) : LLe (TI r n c).get (LI r n c) := by
  unfold TI LI
  cases vW r n c with
  | true => exact ⟨rfl, HLe.refl _⟩
  | false => exact LLe.of rfl rfl rfl
noncomputable def runIx (r : Int) (n : Nat) (c : Bt) : List AV → List Blk → Option Lf := selRun (runAtH (AV1 r n) (Bt.ro1 n c) (.leaf (.tup [.nils, .int .i64 1], none)) (andB (Nat.ble n few) (andB (pB (NmOk n c)) (!vW r n c))))
noncomputable def runIt (r : Int) (n : Nat) (c : Bt) : List AV → List Blk → Option Lf := selRun (runAtH (AV1 r n) (Bt.ro1 n c) (.leaf (.tup [.slc 3 0 (outL c n).length, .int .i64 0], some (Bt.ro1 n c ++ [.one true [.int .i64 r, .slc 0 0 n], .one true [.int .i64 r, .slc 0 0 n], tl (outL c n)]))) (andB (Nat.ble n 1000) (andB (pB (NmOk n c)) (vW r n c))))
theorem evI (r : Int) (n : Nat) (c : Bt) : evF Try.prog (addK 22 (runV r n c) (addK 63 (runTb r n c) extK)) noL 20 8 27 (AV1 r n) (Bt.ro1 n c) = some (TI r n c, andB (okV r n c) (impB (!!vW r n c) (andB (okTb r n c) true))) := by kernel_rfl
theorem okIx (r : Int) (n : Nat) (c : Bt) : SumOk Try.prog 27 (runIx r n c) := sum_atH sxApart sxMixed (addK_ok (vI r n c) (addK_ok (tbI r n c) extK_ok)) noL (N := 20) (d := 8) fun hg => by
  obtain ⟨h1, h2⟩ := andB_true hg
  obtain ⟨h2, h3⟩ := andB_true h2
  have hn := Nat.le_of_ble_eq_true h1
  have hv : vW r n c = false := by simpa using h3
  refine ⟨noL_all, TI r n c, ?_, ?_⟩
  · have h := evI r n c
    rw [okV_true r hn (pB_of h2), show impB (!!vW r n c) (andB (okTb r n c) true) = true from by rw [hv]; exact Go.Sx.R0.imp_f (andB (okTb r n c) true)] at h
    exact h
  · have := TI_le r n c
    unfold LI at this
    rw [hv] at this
    exact this
theorem okIt (r : Int) (n : Nat) (c : Bt) : SumOk Try.prog 27 (runIt r n c) := sum_atH sxApart sxMixed (addK_ok (vI r n c) (addK_ok (tbI r n c) extK_ok)) noL (N := 20) (d := 8) fun hg => by
  obtain ⟨h1, h2⟩ := andB_true hg
  obtain ⟨h2, hv⟩ := andB_true h2
  have hn := Nat.le_of_ble_eq_true h1
  refine ⟨noL_all, TI r n c, ?_, ?_⟩
  · have h := evI r n c
    rw [okV_true r (by rw [few_eq]; omega) (pB_of h2), okTb_true r hn c] at h
    rw [show andB true (impB (!!vW r n c) (andB true true)) = true from by rw [hv]; rfl] at h
    exact h
  · have := TI_le r n c
    unfold LI at this
    rw [hv] at this
    exact this
theorem vW_few {r : Int} {n : Nat} {c : Bt} (h : vW r n c = true) : n ≤ 6 := by
  unfold vW at h
  by_cases h2 : (n : Int) ≤ 6
  · omega
  · rw [decide_eq_false h2] at h
    simp at h
-- what the calls owe
noncomputable def okCX (r : Int) (n : Nat) (c : Bt) : Bool := andB (deq (AV1 r n) (AV1 r n)) (andB (deqH (Bt.ro1 n c) (Bt.ro1 n c)) (andB (Nat.ble n few) (andB (pB (NmOk n c)) (!vW r n c))))
noncomputable def okCV (r : Int) (n : Nat) (c : Bt) : Bool := andB (deq (AV1 r n) (AV1 r n)) (andB (deqH (Bt.ro1 n c) (Bt.ro1 n c)) (andB (Nat.ble n 1000) (andB (pB (NmOk n c)) (vW r n c))))
theorem okCX_true {r : Int} {n : Nat} {c : Bt} (hn : n ≤ few) (hc : NmOk n c) (hv : vW r n c = false) : okCX r n c = true := by unfold okCX; rw [deq_self, deqH_self, Nat.ble_eq_true_of_le hn, pB_true hc, hv]; rfl
theorem okCV_true {r : Int} {n : Nat} {c : Bt} (hc : NmOk n c) (hv : vW r n c = true) : okCV r n c = true := by unfold okCV; rw [deq_self, deqH_self, Nat.ble_eq_true_of_le (show n ≤ 1000 by have := vW_few hv; omega), pB_true hc, hv]; rfl
end Go.Proofs.Ytllonddgbjgmdaa.W8
