/- Texts of one claim, put together. -/
import Derived.Test.YtllonddgbjgmdaaG2
set_option linter.unusedVariables false
set_option linter.unusedSimpArgs false
set_option maxRecDepth 100000
namespace Go.Proofs.Ytllonddgbjgmdaa.W9
open Go.Sx Go.Sx.R0 Go.RowKit Go.Proofs.Ytllonddgbjgmdaa.W1 Go.Proofs.Ytllonddgbjgmdaa.W2 Go.Proofs.Ytllonddgbjgmdaa.W3 Go.Proofs.Ytllonddgbjgmdaa.W5

-- marks
/-- a row that holds the numbers from one on -/
def Dd.mrow (z : Int) : List AV := [(.int .i64 z), (.int .i64 (z + 1))]
def Dd.mkr (f : Nat → List AV) (k : Nat) (z : Int) : Nat → List AV := let f1 := Sx.upd f k (pt (f k) 0 (.int .i64 z)); let f2 := Sx.upd f1 k (pt (f1 k) 1 (.int .i64 (IntKind.i64.wrap (z + 1)))); f2
def Dd.Sm (n : Nat) (f : Nat → List AV) (z k : Int) : St := ⟨[.slc 0 0 n, .int .i64 z, .junk, .junk, .junk, .int .i64 k] ++ junks 21, [.rows true n 2 f]⟩
def Dd.Em (n : Nat) (f : Nat → List AV) (z : Int) : St := ⟨[.junk, .int .i64 z] ++ junks 25, [.rows true n 2 f]⟩
def Dd.obm (n k : Nat) : Bool := andB (inB (Int.ofNat k) n) (andB (Nat.blt k n) (andB (inB (Int.ofNat k) n) (andB (Nat.blt k n) (true))))
theorem Dd.obm_true {n k : Nat} (h : k < n) : Dd.obm n k = true := by unfold Dd.obm; rw [inB_nat h, blt_lt h]; rfl
theorem Dd.stepm (n : Nat) (c : Dd) (z : Int) (k : Nat) : evC JS Try.prog (callF Try.prog extK 20 8) noL 20 (loopN Try.prog 43 3) (Dd.Sm n c.row z (Int.ofNat k)) (kA 1 [0, 1, 5] [1]) =
    some (.node (decide (Int.ofNat k < (n : Int))) (.leaf (.nrm, Dd.Sm n (Dd.mkr c.row k z) (IntKind.i64.wrap ((IntKind.i64.wrap (z + 1)) + 1)) (IntKind.i64.wrap (Int.ofNat k + 1)))) (.leaf (.ext 0, Dd.Em n c.row z)), andB (impB (decide (Int.ofNat k < (n : Int))) (Dd.obm n k)) true) := by kernel_rfl
theorem Dd.mk_at (c : Dd) (k : Nat) (z : Int) : Dd.mkr c.row k z k = [(.int .i64 z), (.int .i64 (IntKind.i64.wrap (z + 1)))] := by
  unfold Dd.mkr
  simp only [upd_at]
  rfl
theorem Dd.mk_ne (c : Dd) {i k : Nat} (h : i ≠ k) (z : Int) : Dd.mkr c.row k z i = c.row i := by
  unfold Dd.mkr
  simp only [upd_ne h]
  rfl
theorem Dd.wraps {z : Int} (h0 : 0 ≤ z) (h1 : z ≤ 4611686018427387000) : (IntKind.i64.wrap (z + 1)) = z + 1 ∧ (IntKind.i64.wrap ((IntKind.i64.wrap (z + 1)) + 1)) = z + 2 := by
  have w1 : (IntKind.i64.wrap (z + 1)) = z + 1 := by rw [i64_small (by omega) (by omega)] <;> omega
  have w2 : (IntKind.i64.wrap ((IntKind.i64.wrap (z + 1)) + 1)) = z + 2 := by rw [w1, i64_small (by omega) (by omega)] <;> omega
  exact ⟨w1, w2⟩
def Dd.cm (c : Dd) (z : Int) (k : Nat) : Dd := ⟨fun t => cond (Nat.blt t k) (z + 2 * (t : Int)) (c.k t), fun t => cond (Nat.blt t k) (z + 2 * (t : Int) + 1) (c.a t)⟩
def Dd.mz (z : Int) : Dd := ⟨fun t => z + 2 * (t : Int), fun t => z + 2 * (t : Int) + 1⟩
theorem Dd.mz_row (z : Int) (t : Nat) : (Dd.mz z).row t = Dd.mrow (z + 2 * (t : Int)) := rfl
theorem Dd.cm_lt (c : Dd) (z : Int) {k t : Nat} (h : t < k) : (c.cm z k).row t = (Dd.mz z).row t := by simp only [Dd.cm, Dd.mz, Dd.row, blt_lt h, cond_true]
theorem Dd.cm_ge (c : Dd) (z : Int) {k t : Nat} (h : k ≤ t) : (c.cm z k).row t = c.row t := by simp only [Dd.cm, Dd.row, blt_ge h, cond_false]
theorem Dd.loopm (n : Nat) (hn : n ≤ few) (c : Dd) (z : Int) (h0 : 0 ≤ z) (h1 : z ≤ 1099511627776) : LoopOk Try.prog 1 (loopN Try.prog 43 3) (Dd.Sm n c.row z 0) (.leaf (.ext 0, Dd.Em n (Dd.mz z).row (z + 2 * (n : Int)))) := by
  have hf := few_eq
  have key := loop_allH (callF_ok sxApart sxMixed extK_ok (N := 20) 8) sxMixed (N := 20) (L := noL) (B := 1) (body := loopN Try.prog 43 3) (fun _ _ _ _ h => by cases h) [0, 1, 5] [1] (gA 1 [0, 1, 5] [1]) (fun k => Dd.Sm n (c.cm z k).row (z + 2 * (k : Int)) (Int.ofNat k)) n (.ext 0, Dd.Em n (Dd.mz z).row (z + 2 * (n : Int))) (fun h => by cases h)
    (fun k hk => by
      obtain ⟨w1, w2⟩ := Dd.wraps (z := z + 2 * (k : Int)) (by omega) (by omega)
      refine ⟨_, by rw [show kH 1 [0, 1, 5] [1] (gA 1 [0, 1, 5] [1]) = kA 1 [0, 1, 5] [1] from rfl, Dd.stepm, Dd.obm_true hk, ofNat_lt, decide_eq_true hk]; rfl, ?_⟩
      refine ⟨rfl, ?_, ⟨BLe.rows fun t ht => ?_, trivial⟩⟩
      · simp only [Tr.get, cond_true, Dd.Sm]
        rw [w2, wrap_i64 (n := Int.ofNat k + 1) (by simp only [Int.ofNat_eq_natCast]; omega) (by simp only [Int.ofNat_eq_natCast]; omega), show z + 2 * (k : Int) + 2 = z + 2 * ((k + 1 : Nat) : Int) by omega]
        rfl
      · by_cases hkt : t = k
        · subst hkt
          rw [Dd.mk_at, Dd.cm_lt c z (Nat.lt_succ_self t), w1]
          rfl
        · rw [Dd.mk_ne _ hkt]
          rcases Nat.lt_or_ge t k with h | h
          · rw [Dd.cm_lt c z h, Dd.cm_lt c z (show t < k + 1 by omega)]
          · rw [Dd.cm_ge c z h, Dd.cm_ge c z (show k + 1 ≤ t by omega)])
    (by
      refine ⟨_, by rw [show kH 1 [0, 1, 5] [1] (gA 1 [0, 1, 5] [1]) = kA 1 [0, 1, 5] [1] from rfl, Dd.stepm, ofNat_lt, decide_eq_false (Nat.lt_irrefl n), imp_ff], ?_⟩
      refine ⟨rfl, rfl, ⟨BLe.rows fun t ht => ?_, trivial⟩⟩
      rw [Dd.cm_lt c z ht])
  refine key.from ⟨?_, ⟨BLe.rows fun t _ => ?_, trivial⟩⟩
  · simp only [Dd.Sm, Int.natCast_zero, Int.mul_zero, Int.add_zero]
    rfl
  · rw [Dd.cm_ge c z (Nat.zero_le t)]
noncomputable def Dd.runMark : List AV → List Blk → Option Lf := fun args H => match args.map delit with
  | [.slc 0 0 n, .int .i64 z] => some (.leaf (.int .i64 (z + 2 * (n : Int)), some [.rows true n 2 (Dd.mz z).row]), andB (pB (∃ c : Dd, H = [.rows true n 2 c.row])) (andB (Nat.ble n few) (andB (decide (0 ≤ z)) (decide (z ≤ 1099511627776)))))
  | _ => none
theorem Dd.mark_ok : SumOk Try.prog 43 (selRunM Dd.runMark) := sum_selMG sxApart sxMixed fun args H t hr _ => by
  unfold Dd.runMark at hr
  split at hr
  case h_2 => cases hr
  rename_i n z hargs
  simp only [Option.some.injEq, Prod.mk.injEq] at hr
  obtain ⟨rfl, hr⟩ := hr
  obtain ⟨g1, hr⟩ := andB_true hr
  obtain ⟨g2, hr⟩ := andB_true hr
  obtain ⟨g3, g4⟩ := andB_true hr
  obtain ⟨c, rfl⟩ := pB_of g1
  have g3 := of_decide_eq_true g3
  have g4 := of_decide_eq_true g4
  refine ⟨extK, loopAt 3 [0, 1, 5] (Dd.Sm n c.row z 0) (.leaf (.ext 0, Dd.Em n (Dd.mz z).row (z + 2 * (n : Int)))) noL, 20, 8, _, [.slc 0 0 n, .int .i64 z], extK_ok, loopAt_all (B := 1) (by decide +kernel) (Dd.loopm n (Nat.le_of_ble_eq_true g2) c z g3 g4) noL_all, fun ρ vals hv => by rw [← hargs]; exact delits_rel hv, ?_, LLe.refl _⟩
  have h : evM Try.prog extK (loopAt 3 [0, 1, 5] (Dd.Sm n c.row z 0) (.leaf (.ext 0, Dd.Em n (Dd.mz z).row (z + 2 * (n : Int)))) noL) 20 8 43 [.slc 0 0 n, .int .i64 z] [.rows true n 2 c.row] = some (.leaf (.int .i64 (z + 2 * (n : Int)), some [.rows true n 2 (Dd.mz z).row]), andB (deqS (Dd.Sm n c.row z 0) (Dd.Sm n c.row z 0)) true) := by kernel_rfl
  rw [deqS_self] at h
  exact h
noncomputable def Dd.okM (n : Nat) (c : Dd) (z : Int) : Bool := andB (pB (∃ c0 : Dd, [Blk.rows true n 2 c.row] = [.rows true n 2 c0.row])) (andB (Nat.ble n few) (andB (decide (0 ≤ z)) (decide (z ≤ 1099511627776))))
theorem Dd.okM_true {n : Nat} (hn : Nat.ble n few = true) (c : Dd) {z : Int} (h0 : 0 ≤ z) (h1 : z ≤ 1099511627776) : Dd.okM n c z = true := by unfold Dd.okM; rw [pB_true ⟨c, rfl⟩, hn, decide_eq_true h0, decide_eq_true h1]; rfl
-- are they held
def Dd.Sh (n : Nat) (c : Dd) (z k : Int) : St := ⟨[.slc 0 0 n, .int .i64 z, .junk, .junk, .junk, .int .i64 k] ++ junks 25, [.rows false n 2 c.row]⟩
def Dd.Eh (n : Nat) (c : Dd) (z : Int) : St := ⟨[.junk, .int .i64 z] ++ junks 29, [.rows false n 2 c.row]⟩
def Dd.Rh (n : Nat) (c : Dd) (z : Int) : St := ⟨[.junk, .int .i64 z, .junk, .junk, .int .i64 (-1)] ++ junks (26), [.rows false n 2 c.row]⟩
theorem Dd.steph (n : Nat) (c : Dd) (z : Int) (k : Nat) : evC JS Try.prog (callF Try.prog extK 20 8) noL 20 (loopN Try.prog 44 3) (Dd.Sh n c z (Int.ofNat k)) (kA 1 [0, 1, 5] [1, 4]) =
    some (.node (decide (Int.ofNat k < (n : Int))) (.node (!(c.k k == z)) (.leaf (.ret, Dd.Rh n c z)) (.node (!(c.a k == (IntKind.i64.wrap (z + 1)))) (.leaf (.ret, Dd.Rh n c (IntKind.i64.wrap (z + 1)))) (.leaf (.nrm, Dd.Sh n c (IntKind.i64.wrap ((IntKind.i64.wrap (z + 1)) + 1)) (IntKind.i64.wrap (Int.ofNat k + 1)))))) (.leaf (.ext 0, Dd.Eh n c z)), andB (impB (decide (Int.ofNat k < (n : Int))) (andB (inB (Int.ofNat k) n) (andB (Nat.blt k n) (impB (!(!(c.k k == z))) (andB (inB (Int.ofNat k) n) (andB (Nat.blt k n) true)))))) true) := by kernel_rfl
theorem Dd.looph (n : Nat) (hn : n ≤ few) (z : Int) (h0 : 0 ≤ z) (h1 : z ≤ 1099511627776) : LoopOk Try.prog 1 (loopN Try.prog 44 3) (Dd.Sh n (Dd.mz z) z 0) (.leaf (.ext 0, Dd.Eh n (Dd.mz z) (z + 2 * (n : Int)))) := by
  have hf := few_eq
  have key := loop_allH (callF_ok sxApart sxMixed extK_ok (N := 20) 8) sxMixed (N := 20) (L := noL) (B := 1) (body := loopN Try.prog 44 3) (fun _ _ _ _ h => by cases h) [0, 1, 5] [1, 4] (gA 1 [0, 1, 5] [1, 4]) (fun k => Dd.Sh n (Dd.mz z) (z + 2 * (k : Int)) (Int.ofNat k)) n (.ext 0, Dd.Eh n (Dd.mz z) (z + 2 * (n : Int))) (fun h => by cases h)
    (fun k hk => by
      obtain ⟨w1, w2⟩ := Dd.wraps (z := z + 2 * (k : Int)) (by omega) (by omega)
      have c0 : (!((Dd.mz z).k k == (z + 2 * (k : Int)))) = false := by
        have e : (Dd.mz z).k k = (z + 2 * (k : Int)) := by rfl
        rw [e]; simp
      have c1 : (!((Dd.mz z).a k == (IntKind.i64.wrap ((z + 2 * (k : Int)) + 1)))) = false := by
        have e : (Dd.mz z).a k = (IntKind.i64.wrap ((z + 2 * (k : Int)) + 1)) := by rw [w1]; rfl
        rw [e]; simp
      refine ⟨_, by rw [show kH 1 [0, 1, 5] [1, 4] (gA 1 [0, 1, 5] [1, 4]) = kA 1 [0, 1, 5] [1, 4] from rfl, Dd.steph, inB_nat hk, blt_lt hk, ofNat_lt, decide_eq_true hk, c0, c1]; rfl, ?_⟩
      simp only [Tr.get, cond_true, cond_false]
      rw [w2, wrap_i64 (n := Int.ofNat k + 1) (by simp only [Int.ofNat_eq_natCast]; omega) (by simp only [Int.ofNat_eq_natCast]; omega), show z + 2 * (k : Int) + 2 = z + 2 * ((k + 1 : Nat) : Int) by omega]
      exact XLe.refl _)
    (by
      refine ⟨_, by rw [show kH 1 [0, 1, 5] [1, 4] (gA 1 [0, 1, 5] [1, 4]) = kA 1 [0, 1, 5] [1, 4] from rfl, Dd.steph, ofNat_lt, decide_eq_false (Nat.lt_irrefl n), imp_ff], XLe.refl _⟩)
  refine key.from ⟨?_, HLe.refl _⟩
  simp only [Dd.Sh, Int.natCast_zero, Int.mul_zero, Int.add_zero]
  rfl
noncomputable def Dd.runHeld : List AV → List Blk → Option Lf := fun args H => match args.map delit with
  | [.slc 0 0 n, .int .i64 z] => some (.leaf (.int .i64 (z + 2 * (n : Int)), none), andB (pB (H = Dd.ro1 n (Dd.mz z))) (andB (Nat.ble n few) (andB (decide (0 ≤ z)) (decide (z ≤ 1099511627776)))))
  | _ => none
theorem Dd.held_ok : SumOk Try.prog 44 (selRun Dd.runHeld) := sum_selG sxApart sxMixed fun args H t hr _ => by
  unfold Dd.runHeld at hr
  split at hr
  case h_2 => cases hr
  rename_i n z hargs
  simp only [Option.some.injEq, Prod.mk.injEq] at hr
  obtain ⟨rfl, hr⟩ := hr
  obtain ⟨g1, hr⟩ := andB_true hr
  obtain ⟨g2, hr⟩ := andB_true hr
  obtain ⟨g3, g4⟩ := andB_true hr
  obtain rfl := pB_of g1
  have g3 := of_decide_eq_true g3
  have g4 := of_decide_eq_true g4
  refine ⟨extK, loopAt 3 [0, 1, 5] (Dd.Sh n (Dd.mz z) z 0) (.leaf (.ext 0, Dd.Eh n (Dd.mz z) (z + 2 * (n : Int)))) noL, 20, 8, _, [.slc 0 0 n, .int .i64 z], extK_ok, loopAt_all (B := 1) (by decide +kernel) (Dd.looph n (Nat.le_of_ble_eq_true g2) z g3 g4) noL_all, fun ρ vals hv => by rw [← hargs]; exact delits_rel hv, ?_, LLe.refl _⟩
  have h : evF Try.prog extK (loopAt 3 [0, 1, 5] (Dd.Sh n (Dd.mz z) z 0) (.leaf (.ext 0, Dd.Eh n (Dd.mz z) (z + 2 * (n : Int)))) noL) 20 8 44 [.slc 0 0 n, .int .i64 z] (Dd.ro1 n (Dd.mz z)) = some (.leaf (.int .i64 (z + 2 * (n : Int)), none), andB (deqS (Dd.Sh n (Dd.mz z) z 0) (Dd.Sh n (Dd.mz z) z 0)) true) := by kernel_rfl
  rw [deqS_self] at h
  exact h
noncomputable def Dd.okH (n : Nat) (z : Int) : Bool := andB (pB (Dd.ro1 n (Dd.mz z) = Dd.ro1 n (Dd.mz z))) (andB (Nat.ble n few) (andB (decide (0 ≤ z)) (decide (z ≤ 1099511627776))))
theorem Dd.okH_true {n : Nat} (hn : Nat.ble n few = true) {z : Int} (h0 : 0 ≤ z) (h1 : z ≤ 1099511627776) : Dd.okH n z = true := by unfold Dd.okH; rw [pB_true rfl, hn, decide_eq_true h0, decide_eq_true h1]; rfl
end Go.Proofs.Ytllonddgbjgmdaa.W9
