/- Valid works: contracts of the reference's function and of the program's. -/
import Derived.Test.YtllonddgbjgmdaaSxW2
set_option linter.unusedVariables false
set_option linter.unusedSimpArgs false
set_option maxRecDepth 100000
namespace Go.Proofs.Ytllonddgbjgmdaa.W3
open Go.Sx Go.Sx.R0 Go.RowKit Go.Proofs.Ytllonddgbjgmdaa.W1 Go.Proofs.Ytllonddgbjgmdaa.W2

noncomputable def vK (n : Nat) (c : Bt) : CallerT := addK 94 runNm (addK 59 runNm (addK 95 (runFn n c) (addK 61 (runFn n c) (addK 96 runDr (addK 60 runDr extK)))))
theorem vK_ok (n : Nat) (c : Bt) : CallerTOk Try.prog (vK n c) := addK_ok nmS (addK_ok nmI (addK_ok (fnS n c) (addK_ok (fnI n c) (addK_ok drS (addK_ok drIo extK_ok)))))
def dk (c : Bt) (k : Nat) : Nat → Int := fun j => c.d j k
def badS (c : Bt) (k : Nat) : Bool := cond (cond (!nm (c.n k)) true (decide (fnd c (c.n k) k ≥ 0))) true (!drV (dk c k))
def badI (n : Nat) (c : Bt) (k : Nat) : Bool := cond (cond (!nm (c.n k)) true (!drV (dk c k))) true (fnd c (c.n k) n != Int.ofNat k)
def bx (r : Int) (n : Nat) (c : Bt) : List Blk := [.one false [.int .i64 r, .slc 1 0 n], .rows false n 9 c.row]
def by' (r : Int) (n : Nat) (c : Bt) : List Blk := [.rows false n 9 c.row, .one true [.int .i64 r, .slc 0 0 n]]
def Va (r : Int) (n : Nat) (c : Bt) (k : Int) : St := ⟨[.ptr 0 0 0, .junk, .junk, .int .i64 k] ++ junks 64, bx r n c⟩
def VaR (r : Int) (n : Nat) (c : Bt) : St := ⟨junks 2 ++ [.bool false] ++ junks 65, bx r n c⟩
def VaE (r : Int) (n : Nat) (c : Bt) : St := ⟨junks 68, bx r n c⟩
def ik (n k : Nat) (q : Bool) : Bool := andB (inB (Int.ofNat k) n) (andB (Nat.blt k n) (andB q true))
theorem ik_true {n k : Nat} (h : k < n) {q : Bool} (hq : q = true) : ik n k q = true := by unfold ik; rw [inB_nat h, blt_lt h, hq]; rfl
def sl (n k : Nat) : Bool := decide (Int.ofNat k ≤ (n : Int)) || decide (((0 : Nat) : Int) + Int.ofNat k ≤ (n : Int))
theorem sl_true {n k : Nat} (h : k < n) : sl n k = true := by unfold sl; rw [decide_eq_true (show Int.ofNat k ≤ (n : Int) by simp; omega)]; rfl
noncomputable def obA (n : Nat) (c : Bt) (k : Nat) : Bool := andB (andB (inB (Int.ofNat k) n) (andB (Nat.blt k n) (andB (okNm (c.n k)) (andB (impB (!!nm (c.n k)) (andB (sl n k) (ik n k (okFn n c k (c.n k))))) (andB (impB (!(cond (!nm (c.n k)) true (decide (fnd c (c.n k) k ≥ 0)))) (ik n k (okDr (dk c k)))) true))))) true
theorem obA_true {n : Nat} {c : Bt} (hn : n ≤ few) (hc : NmOk n c) (k : Nat) (h : k < n) : obA n c k = true := by
  unfold obA
  rw [inB_nat h, blt_lt h, okNm_true (by have := hc k h; omega), sl_true h, ik_true h (okFn_true (by omega) hn c _), ik_true h (okDr_true _), show andB true true = true from rfl, imp_t rfl, imp_t rfl]
  rfl
theorem stepVa (r : Int) (n : Nat) (c : Bt) (k : Nat) : evC JS Try.prog (callF Try.prog (vK n c) 20 8) noL 20 (loopN Try.prog 57 5) (Va r n c (Int.ofNat k)) (kG 2 [0, 3] [2] none none) =
    some (.node (decide (Int.ofNat k < (n : Int))) (.node (badS c k) (.leaf (.ret, VaR r n c)) (.leaf (.nrm, Va r n c (IntKind.i64.wrap (Int.ofNat k + 1))))) (.leaf (.ext 0, VaE r n c)), andB (impB (decide (Int.ofNat k < (n : Int))) (obA n c k)) true) := by kernel_rfl
noncomputable def tVa (r : Int) (n : Nat) (c : Bt) : Tr (AX × St) := .node (allB n fun k => !badS c k) (.leaf (.ext 0, VaE r n c)) (.leaf (.ret, VaR r n c))
theorem loopVa (r : Int) {n : Nat} (hn : n ≤ few) {c : Bt} (hc : NmOk n c) : LoopOk Try.prog 2 (loopN Try.prog 57 5) (Va r n c 0) (tVa r n c) :=
  loopF (callF_ok sxApart sxMixed (vK_ok n c) (N := 20) 8) sxMixed [0, 3] [2] none none (fun k => Va r n c (Int.ofNat k)) (fun k => Va r n c (IntKind.i64.wrap (Int.ofNat k + 1))) n (by have := few_eq; omega) (badS c) (fun _ => (.ret, VaR r n c)) (.ext 0, VaE r n c) (obA n c) (fun _ h => by cases h) (fun h => by cases h) (stepVa r n c) (obA_true hn hc) fun k _ _ hw => by rw [hw]; exact SLe.refl _
-- the program
def Vb (r : Int) (n : Nat) (c : Bt) (k : Int) : St := ⟨[.junk, .ptr 1 0 0] ++ junks 15 ++ [.slc 0 0 n, .int .i64 n, .int .i64 k] ++ junks 24, by' r n c⟩
def VbR (r : Int) (n : Nat) (c : Bt) : St := ⟨junks 2 ++ [.bool false] ++ junks 41, by' r n c⟩
def VbE (r : Int) (n : Nat) (c : Bt) : St := ⟨junks 44, by' r n c⟩
noncomputable def obB (n : Nat) (c : Bt) (k : Nat) : Bool := andB (inB (Int.ofNat k) n) (andB (Nat.blt k n) (andB (okNm (c.n k)) (andB (impB (!!nm (c.n k)) (andB (okDr (dk c k)) true)) (andB (impB (!(cond (!nm (c.n k)) true (!drV (dk c k)))) (andB (okFn n c n (c.n k)) true)) true))))
theorem obB_true {n : Nat} {c : Bt} (hn : n ≤ few) (hc : NmOk n c) (k : Nat) (h : k < n) : obB n c k = true := by
  unfold obB
  rw [inB_nat h, blt_lt h, okNm_true (by have := hc k h; omega), okFn_true (Nat.le_refl n) hn c _, okDr_true, show andB true true = true from rfl, imp_t rfl, imp_t rfl]
  rfl
theorem stepVb (r : Int) (n : Nat) (c : Bt) (k : Nat) : evC JS Try.prog (callF Try.prog (vK n c) 20 8) noL 20 (loopN Try.prog 22 5) (Vb r n c (Int.ofNat k)) (kG 1 [1, 17, 18, 19] [2] (some [0, 1]) (some [0, 1])) =
    some (.node (decide (Int.ofNat k < (n : Int))) (.node (badI n c k) (.leaf (.ret, VbR r n c)) (.leaf (.nrm, Vb r n c (IntKind.i64.wrap (Int.ofNat k + 1))))) (.leaf (.ext 0, VbE r n c)), andB (impB (decide (Int.ofNat k < (n : Int))) (obB n c k)) true) := by kernel_rfl
noncomputable def tVb (r : Int) (n : Nat) (c : Bt) : Tr (AX × St) := .node (allB n fun k => !badI n c k) (.leaf (.ext 0, VbE r n c)) (.leaf (.ret, VbR r n c))
theorem loopVb (r : Int) {n : Nat} (hn : n ≤ few) {c : Bt} (hc : NmOk n c) : LoopOk Try.prog 1 (loopN Try.prog 22 5) (Vb r n c 0) (tVb r n c) :=
  loopF (callF_ok sxApart sxMixed (vK_ok n c) (N := 20) 8) sxMixed [1, 17, 18, 19] [2] (some [0, 1]) (some [0, 1]) (fun k => Vb r n c (Int.ofNat k)) (fun k => Vb r n c (IntKind.i64.wrap (Int.ofNat k + 1))) n (by have := few_eq; omega) (badI n c) (fun _ => (.ret, VbR r n c)) (.ext 0, VbE r n c) (obB n c) (fun _ h => by cases h) (fun h => by cases h) (stepVb r n c) (obB_true hn hc) fun k _ _ hw => by rw [hw]; exact SLe.refl _

-- both ask the same
theorem first_bad {ok : Nat → Bool} : ∀ {i : Nat}, allB i ok = false → ∃ k, k < i ∧ allB k ok = true ∧ ok k = false
  | 0, h => by simp [allB] at h
  | i + 1, h => by
    cases hi : allB i ok with
    | false => obtain ⟨k, h1, h2, h3⟩ := first_bad hi; exact ⟨k, by omega, h2, h3⟩
    | true =>
      cases hk : ok i with
      | false => exact ⟨i, by omega, hi, hk⟩
      | true =>
        have : allB (i + 1) ok = true := allB_true.2 fun j hj => by
          rcases Nat.lt_or_ge j i with h' | h'
          · exact allB_true.1 hi j h'
          · have : j = i := by omega
            subst this; exact hk
        rw [this] at h; cases h
theorem fnd_eq (n : Nat) (c : Bt) (k : Nat) (hk : k < n) : decide (fnd c (c.n k) k ≥ 0) = (fnd c (c.n k) n != Int.ofNat k) := by
  have hself : (fun j => !hit c (c.n k) j) k = false := by simp [hit]
  cases ha : allB k (fun j => !hit c (c.n k) j) with
  | true =>
    unfold fnd
    rw [ha, allB_false hk hself, fb_eq ha hself n hk]
    simp
  | false =>
    obtain ⟨k0, h1, h2, h3⟩ := first_bad ha
    unfold fnd
    rw [ha, allB_false (show k0 < n by omega) h3, fb_eq h2 h3 k h1, fb_eq h2 h3 n (by omega)]
    simp only [cond_false]
    have e1 : Int.ofNat k0 ≥ 0 := Int.natCast_nonneg k0
    have e2 : Int.ofNat k0 ≠ Int.ofNat k := fun e => by simp at e; omega
    rw [decide_eq_true e1]
    exact (bne_iff_ne.2 e2).symm
theorem allB_congr {n : Nat} {p q : Nat → Bool} (h : ∀ k, k < n → p k = q k) : allB n p = allB n q := by
  cases hq : allB n q with
  | true => exact allB_true.2 fun k hk => by rw [h k hk]; exact allB_true.1 hq k hk
  | false =>
    obtain ⟨k, h1, _, h3⟩ := first_bad hq
    exact allB_false h1 (by rw [h k h1]; exact h3)
theorem bad_eq (n : Nat) (c : Bt) : (allB n fun k => !badI n c k) = allB n fun k => !badS c k := allB_congr fun k hk => by
  unfold badI badS
  rw [fnd_eq n c k hk]
  cases nm (c.n k) <;> cases drV (dk c k) <;> cases (fnd c (c.n k) n != Int.ofNat k) <;> rfl
/-- are works valid -/
def vW (r : Int) (n : Nat) (c : Bt) : Bool := cond (cond (!cond (decide (1 ≤ r)) (decide (r ≤ 4)) false) true (!cond (decide (1 ≤ (n : Int))) (decide ((n : Int) ≤ 6)) false)) false (cond (allB n fun k => !badS c k) true false)
noncomputable def runVp (r : Int) (n : Nat) (c : Bt) : List AV → List Blk → Option Lf := selRun (runAtH [.ptr 0 0 0] (bx r n c) (.leaf (.bool (vW r n c), none)) (andB (Nat.ble n few) (pB (NmOk n c))))
noncomputable def okVp (r : Int) (n : Nat) (c : Bt) : Bool := andB (deq [.ptr 0 0 0] [.ptr 0 0 0]) (andB (deqH (bx r n c) (bx r n c)) (andB (Nat.ble n few) (pB (NmOk n c))))
theorem okVp_true (r : Int) {n : Nat} (hn : n ≤ few) {c : Bt} (hc : NmOk n c) : okVp r n c = true := by unfold okVp; rw [deq_self, deqH_self, Nat.ble_eq_true_of_le hn, pB_true hc]; rfl
theorem vpS (r : Int) (n : Nat) (c : Bt) : SumOk Try.prog 57 (runVp r n c) := sum_atH sxApart sxMixed (vK_ok n c) (loopAt 5 [0, 3] (Va r n c 0) (tVa r n c) noL) (N := 20) (d := 8) fun hg => by
  obtain ⟨h1, h2⟩ := andB_true hg
  refine ⟨loopAt_all (B := 2) (by decide +kernel) (loopVa r (Nat.le_of_ble_eq_true h1) (pB_of h2)) noL_all, _, ?_, LLe.refl _⟩
  have h : evF Try.prog (vK n c) (loopAt 5 [0, 3] (Va r n c 0) (tVa r n c) noL) 20 8 57 [.ptr 0 0 0] (bx r n c) = some (.leaf (.bool (vW r n c), none), impB (!cond (!cond (decide (1 ≤ r)) (decide (r ≤ 4)) false) true (!cond (decide (1 ≤ (n : Int))) (decide ((n : Int) ≤ 6)) false)) (andB (deqS (Va r n c 0) (Va r n c 0)) true)) := by kernel_rfl
  rw [deqS_self, show andB true true = true from rfl, imp_t rfl] at h
  exact h
def AV1 (r : Int) (n : Nat) : List AV := [.agg [.int .i64 r, .slc 0 0 n]]
noncomputable def runV (r : Int) (n : Nat) (c : Bt) : List AV → List Blk → Option Lf := selRun (runAtH (AV1 r n) (Bt.ro1 n c) (.leaf (.bool (vW r n c), none)) (andB (Nat.ble n few) (pB (NmOk n c))))
noncomputable def okV (r : Int) (n : Nat) (c : Bt) : Bool := andB (deq (AV1 r n) (AV1 r n)) (andB (deqH (Bt.ro1 n c) (Bt.ro1 n c)) (andB (Nat.ble n few) (pB (NmOk n c))))
theorem okV_true (r : Int) {n : Nat} (hn : n ≤ few) {c : Bt} (hc : NmOk n c) : okV r n c = true := by unfold okV; rw [deq_self, deqH_self, Nat.ble_eq_true_of_le hn, pB_true hc]; rfl
theorem vI (r : Int) (n : Nat) (c : Bt) : SumOk Try.prog 22 (runV r n c) := sum_atH sxApart sxMixed (vK_ok n c) (loopAt 5 [1, 17, 18, 19] (Vb r n c 0) (tVb r n c) noL) (N := 20) (d := 8) fun hg => by
  obtain ⟨h1, h2⟩ := andB_true hg
  refine ⟨loopAt_all (B := 1) (by decide +kernel) (loopVb r (Nat.le_of_ble_eq_true h1) (pB_of h2)) noL_all, .leaf (.bool (cond (cond (!cond (decide (1 ≤ r)) (decide (r ≤ 4)) false) true (!cond (decide (1 ≤ (n : Int))) (decide ((n : Int) ≤ 6)) false)) false (cond (allB n fun k => !badI n c k) true false)), none), ?_, ?_⟩
  · have h : evF Try.prog (vK n c) (loopAt 5 [1, 17, 18, 19] (Vb r n c 0) (tVb r n c) noL) 20 8 22 (AV1 r n) (Bt.ro1 n c) = some (.leaf (.bool (cond (cond (!cond (decide (1 ≤ r)) (decide (r ≤ 4)) false) true (!cond (decide (1 ≤ (n : Int))) (decide ((n : Int) ≤ 6)) false)) false (cond (allB n fun k => !badI n c k) true false)), none), impB (!cond (!cond (decide (1 ≤ r)) (decide (r ≤ 4)) false) true (!cond (decide (1 ≤ (n : Int))) (decide ((n : Int) ≤ 6)) false)) (andB (deqS (Vb r n c 0) (Vb r n c 0)) true)) := by kernel_rfl
    rw [deqS_self, show andB true true = true from rfl, imp_t rfl] at h
    exact h
  · rw [bad_eq]; exact LLe.refl _
theorem vS (r : Int) (n : Nat) (c : Bt) : SumOk Try.prog 21 (runV r n c) := sum_atH sxApart sxMixed (addK_ok (vpS r n c) extK_ok) noL (N := 20) (d := 8) fun hg => by
  refine ⟨noL_all, _, ?_, LLe.refl _⟩
  have h : evF Try.prog (addK 57 (runVp r n c) extK) noL 20 8 21 (AV1 r n) (Bt.ro1 n c) = some (.leaf (.bool (vW r n c), none), andB (okVp r n c) true) := by kernel_rfl
  rw [h]
  obtain ⟨h1, h2⟩ := andB_true hg
  rw [okVp_true r (Nat.le_of_ble_eq_true h1) (pB_of h2)]; rfl
end Go.Proofs.Ytllonddgbjgmdaa.W3
