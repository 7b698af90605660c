/- Tasks: marks, and how the laws compare them. -/
import Derived.Test.YtllonddgbjgmdaaSxW5
set_option linter.unusedVariables false
set_option linter.unusedSimpArgs false
set_option maxRecDepth 100000
namespace Go.Proofs.Ytllonddgbjgmdaa.W5
open Go.Sx Go.Sx.R0 Go.RowKit Go.Proofs.Ytllonddgbjgmdaa.W1 Go.Proofs.Ytllonddgbjgmdaa.W2 Go.Proofs.Ytllonddgbjgmdaa.W3

noncomputable def Tk.okT (n : Nat) (c : Tk) : Bool := andB (pB (∃ c0 : Tk, Tk.ro1 n c = Tk.ro1 n c0)) (Nat.ble n few)
theorem Tk.okT_true {n : Nat} (hn : Nat.ble n few = true) (c : Tk) : Tk.okT n c = true := by unfold Tk.okT; rw [pB_true ⟨c, rfl⟩, hn]; rfl
noncomputable def Tk.okE (n : Nat) (c : Tk) : Bool := andB (pB (∃ c0 : Tk, n = n ∧ Tk.ro2 n c = Tk.ro2 n c0)) (Nat.ble n few)
theorem Tk.okE_true {n : Nat} (hn : Nat.ble n few = true) (c : Tk) : Tk.okE n c = true := by unfold Tk.okE; rw [pB_true ⟨c, rfl, rfl⟩, hn]; rfl

def Tk.St2 (n : Nat) (c : Tk) (k : Int) : St := ⟨[.slc 0 0 n, .slc 1 0 n, .junk, .junk, .junk, .int .i64 k] ++ junks 21, Tk.ro2 n c⟩
def Tk.Rt2 (n : Nat) (c : Tk) (b : Bool) : St := ⟨[.junk, .junk, .junk, .junk, .bool b, .junk] ++ junks 21, Tk.ro2 n c⟩
def Tk.Ex2 (n : Nat) (c : Tk) : St := ⟨junks 27, Tk.ro2 n c⟩
/-- a row compared with itself -/
noncomputable def Tk.runEq : List AV → List Blk → Option Lf := fun args _ => some (.leaf (.bool true, none), pB (∃ (c : Tk) (i : Nat), args = [.agg (c.row i), .agg (c.row i)]))
theorem Tk.eq1_ok : SumOk Try.prog 64 Tk.runEq := sum_pure0 sxApart sxMixed extK_ok (N := 20) (d := 8) fun args H t hr => by
  unfold Tk.runEq at hr
  simp only [Option.some.injEq, Prod.mk.injEq] at hr
  obtain ⟨rfl, hr⟩ := hr
  obtain ⟨c, i, rfl⟩ := pB_of hr
  refine ⟨rfl, rfl, rfl, noL, fun _ _ _ _ => noL_ok, ?_⟩
  have h : evF Try.prog extK noL 20 8 64 [.agg (c.row i), .agg (c.row i)] [] = some (.leaf (.bool (cond (c.b i != c.b i) false (cond (c.j i != c.j i) false (cond (c.n i != c.n i) false true))), none), true) := by kernel_rfl
  refine ⟨_, h, ?_⟩
  simp [Tr.get, delitD, delit]
noncomputable def Tk.eqK : CallerT := addK 64 Tk.runEq extK
theorem Tk.eqK_ok : CallerTOk Try.prog Tk.eqK := addK_ok Tk.eq1_ok extK_ok
theorem Tk.step2 (n : Nat) (c : Tk) (k : Nat) :
    evC JS Try.prog (callF Try.prog Tk.eqK 20 8) noL 20 (loopN Try.prog 28 5) (Tk.St2 n c (Int.ofNat k)) (kG 2 [0, 1, 5] [4] none none) =
      some (.node (decide (Int.ofNat k < (n : Int))) (.node false (.leaf (.ret, Tk.Rt2 n c false)) (.leaf (.nrm, Tk.St2 n c (IntKind.i64.wrap (Int.ofNat k + 1))))) (.leaf (.ext 0, Tk.Ex2 n c)),
        ob2 (decide (Int.ofNat k < (n : Int))) (andB (andB (inB (Int.ofNat k) n) (andB (Nat.blt k n) (andB (inB (Int.ofNat k) n) (andB (Nat.blt k n) (andB (pB (∃ (c0 : Tk) (i0 : Nat), [AV.agg (c.row k), AV.agg (c.row k)] = [.agg (c0.row i0), .agg (c0.row i0)])) true))))) true) true) := by kernel_rfl
theorem Tk.loop2 (n : Nat) (hn : n ≤ few) (c : Tk) : LoopOk Try.prog 2 (loopN Try.prog 28 5) (Tk.St2 n c 0) (.leaf (.ext 0, Tk.Ex2 n c)) := by
  have hf : few = 1099511627776 := rfl
  exact loop_all (callF_ok sxApart sxMixed Tk.eqK_ok (N := 20) 8) sxMixed (body := loopN Try.prog 28 5) (L := noL) (N := 20) (B := 2) (fun _ _ _ _ h => by cases h) [0, 1, 5] [4] none none
    (fun k => Tk.St2 n c (Int.ofNat k)) n (.ext 0, Tk.Ex2 n c) (fun h => by cases h)
    (fun k hk => by
      have hp : pB (∃ (c0 : Tk) (i0 : Nat), [AV.agg (c.row k), AV.agg (c.row k)] = [.agg (c0.row i0), .agg (c0.row i0)]) = true := pB_true ⟨c, k, rfl⟩
      refine ⟨_, by rw [Tk.step2, hp, ofNat_lt, inB_nat hk, blt_lt hk, decide_eq_true hk]; rfl, rfl, ?_, HLe.refl _⟩
      simp only [Tr.get, Tk.St2]
      rw [wrap_i64 (by simp only [Int.ofNat_eq_natCast]; omega) (by simp only [Int.ofNat_eq_natCast]; omega)]
      rfl)
    (by
      refine ⟨_, by rw [Tk.step2, ofNat_lt, decide_eq_false (Nat.lt_irrefl n), ob2_f], rfl, rfl, ?_⟩
      exact HLe.refl _)

/-- rows compared with themselves -/
noncomputable def Tk.runEqS : List AV → List Blk → Option Lf := fun args H => match args with
  | [.slc 0 0 n, .slc 1 0 m] => some (.leaf (.bool true, none), andB (pB (∃ c : Tk, m = n ∧ H = Tk.ro2 n c)) (Nat.ble n few))
  | _ => none
theorem Tk.eq_ok : SumOk Try.prog 28 (selRun Tk.runEqS) := sum_sel sxApart sxMixed fun args H t hr => by
  unfold Tk.runEqS at hr
  split at hr
  case h_2 => cases hr
  rename_i n m
  simp only [Option.some.injEq, Prod.mk.injEq] at hr
  obtain ⟨rfl, hr⟩ := hr
  obtain ⟨h1, hn⟩ := andB_true hr
  obtain ⟨c, h2, rfl⟩ := pB_of h1
  have h2 := h2.symm
  subst h2
  rw [Nat.ble_eq] at hn
  refine ⟨Tk.eqK, loopAt 5 [0, 1, 5] (Tk.St2 n c 0) (.leaf (.ext 0, Tk.Ex2 n c)) noL, 20, 8, .leaf (.bool (cond (cond ((n : Int) == (n : Int)) false true) false true), none), Tk.eqK_ok,
    loopAt_all (B := 2) (by decide +kernel) (Tk.loop2 n hn c) noL_all, ?_, ?_⟩
  · have h : evF Try.prog Tk.eqK (loopAt 5 [0, 1, 5] (Tk.St2 n c 0) (.leaf (.ext 0, Tk.Ex2 n c)) noL) 20 8 28 [.slc 0 0 n, .slc 1 0 n] (Tk.ro2 n c) =
      some (.leaf (.bool (cond (cond ((n : Int) == (n : Int)) false true) false true), none), ob2 (cond ((n : Int) == (n : Int)) false true) true (andB (deqS (Tk.St2 n c 0) (Tk.St2 n c 0)) true)) := by kernel_rfl
    rw [deqS_self] at h
    rw [h]
    simp [ob2, impB, andB]
  · simp only [BEq.rfl, cond_true, cond_false]
    exact LLe.refl _

-- marks
/-- a row that holds the numbers from one on -/
def Tk.mrow (z : Int) : List AV := [(.int .i64 z), (.int .i64 (z + 1)), (.int .i64 (z + 2))]
def Tk.mkr (f : Nat → List AV) (k : Nat) (z : Int) : Nat → List AV := let f1 := Sx.upd f k (pt (f k) 0 (.int .i64 z)); let f2 := Sx.upd f1 k (pt (f1 k) 1 (.int .i64 (IntKind.i64.wrap (z + 1)))); let f3 := Sx.upd f2 k (pt (f2 k) 2 (.int .i64 (IntKind.i64.wrap ((IntKind.i64.wrap (z + 1)) + 1)))); f3
def Tk.Sm (n : Nat) (f : Nat → List AV) (z k : Int) : St := ⟨[.slc 0 0 n, .int .i64 z, .junk, .junk, .junk, .int .i64 k] ++ junks 28, [.rows true n 3 f]⟩
def Tk.Em (n : Nat) (f : Nat → List AV) (z : Int) : St := ⟨[.junk, .int .i64 z] ++ junks 32, [.rows true n 3 f]⟩
def Tk.obm (n k : Nat) : Bool := andB (inB (Int.ofNat k) n) (andB (Nat.blt k n) (andB (inB (Int.ofNat k) n) (andB (Nat.blt k n) (andB (inB (Int.ofNat k) n) (andB (Nat.blt k n) (true))))))
theorem Tk.obm_true {n k : Nat} (h : k < n) : Tk.obm n k = true := by unfold Tk.obm; rw [inB_nat h, blt_lt h]; rfl
theorem Tk.stepm (n : Nat) (c : Tk) (z : Int) (k : Nat) : evC JS Try.prog (callF Try.prog extK 20 8) noL 20 (loopN Try.prog 30 3) (Tk.Sm n c.row z (Int.ofNat k)) (kA 1 [0, 1, 5] [1]) =
    some (.node (decide (Int.ofNat k < (n : Int))) (.leaf (.nrm, Tk.Sm n (Tk.mkr c.row k z) (IntKind.i64.wrap ((IntKind.i64.wrap ((IntKind.i64.wrap (z + 1)) + 1)) + 1)) (IntKind.i64.wrap (Int.ofNat k + 1)))) (.leaf (.ext 0, Tk.Em n c.row z)), andB (impB (decide (Int.ofNat k < (n : Int))) (Tk.obm n k)) true) := by kernel_rfl
theorem Tk.mk_at (c : Tk) (k : Nat) (z : Int) : Tk.mkr c.row k z k = [(.int .i64 z), (.int .i64 (IntKind.i64.wrap (z + 1))), (.int .i64 (IntKind.i64.wrap ((IntKind.i64.wrap (z + 1)) + 1)))] := by
  unfold Tk.mkr
  simp only [upd_at]
  rfl
theorem Tk.mk_ne (c : Tk) {i k : Nat} (h : i ≠ k) (z : Int) : Tk.mkr c.row k z i = c.row i := by
  unfold Tk.mkr
  simp only [upd_ne h]
  rfl
theorem Tk.wraps {z : Int} (h0 : 0 ≤ z) (h1 : z ≤ 4611686018427387000) : (IntKind.i64.wrap (z + 1)) = z + 1 ∧ (IntKind.i64.wrap ((IntKind.i64.wrap (z + 1)) + 1)) = z + 2 ∧ (IntKind.i64.wrap ((IntKind.i64.wrap ((IntKind.i64.wrap (z + 1)) + 1)) + 1)) = z + 3 := by
  have w1 : (IntKind.i64.wrap (z + 1)) = z + 1 := by rw [i64_small (by omega) (by omega)] <;> omega
  have w2 : (IntKind.i64.wrap ((IntKind.i64.wrap (z + 1)) + 1)) = z + 2 := by rw [w1, i64_small (by omega) (by omega)] <;> omega
  have w3 : (IntKind.i64.wrap ((IntKind.i64.wrap ((IntKind.i64.wrap (z + 1)) + 1)) + 1)) = z + 3 := by rw [w2, i64_small (by omega) (by omega)] <;> omega
  exact ⟨w1, w2, w3⟩
def Tk.cm (c : Tk) (z : Int) (k : Nat) : Tk := ⟨fun t => cond (Nat.blt t k) (z + 3 * (t : Int)) (c.b t), fun t => cond (Nat.blt t k) (z + 3 * (t : Int) + 1) (c.j t), fun t => cond (Nat.blt t k) (z + 3 * (t : Int) + 2) (c.n t)⟩
def Tk.mz (z : Int) : Tk := ⟨fun t => z + 3 * (t : Int), fun t => z + 3 * (t : Int) + 1, fun t => z + 3 * (t : Int) + 2⟩
theorem Tk.mz_row (z : Int) (t : Nat) : (Tk.mz z).row t = Tk.mrow (z + 3 * (t : Int)) := rfl
theorem Tk.cm_lt (c : Tk) (z : Int) {k t : Nat} (h : t < k) : (c.cm z k).row t = (Tk.mz z).row t := by simp only [Tk.cm, Tk.mz, Tk.row, blt_lt h, cond_true]
theorem Tk.cm_ge (c : Tk) (z : Int) {k t : Nat} (h : k ≤ t) : (c.cm z k).row t = c.row t := by simp only [Tk.cm, Tk.row, blt_ge h, cond_false]
theorem Tk.loopm (n : Nat) (hn : n ≤ few) (c : Tk) (z : Int) (h0 : 0 ≤ z) (h1 : z ≤ 1099511627776) : LoopOk Try.prog 1 (loopN Try.prog 30 3) (Tk.Sm n c.row z 0) (.leaf (.ext 0, Tk.Em n (Tk.mz z).row (z + 3 * (n : Int)))) := by
  have hf := few_eq
  have key := loop_allH (callF_ok sxApart sxMixed extK_ok (N := 20) 8) sxMixed (N := 20) (L := noL) (B := 1) (body := loopN Try.prog 30 3) (fun _ _ _ _ h => by cases h) [0, 1, 5] [1] (gA 1 [0, 1, 5] [1]) (fun k => Tk.Sm n (c.cm z k).row (z + 3 * (k : Int)) (Int.ofNat k)) n (.ext 0, Tk.Em n (Tk.mz z).row (z + 3 * (n : Int))) (fun h => by cases h)
    (fun k hk => by
      obtain ⟨w1, w2, w3⟩ := Tk.wraps (z := z + 3 * (k : Int)) (by omega) (by omega)
      refine ⟨_, by rw [show kH 1 [0, 1, 5] [1] (gA 1 [0, 1, 5] [1]) = kA 1 [0, 1, 5] [1] from rfl, Tk.stepm, Tk.obm_true hk, ofNat_lt, decide_eq_true hk]; rfl, ?_⟩
      refine ⟨rfl, ?_, ⟨BLe.rows fun t ht => ?_, trivial⟩⟩
      · simp only [Tr.get, cond_true, Tk.Sm]
        rw [w3, wrap_i64 (n := Int.ofNat k + 1) (by simp only [Int.ofNat_eq_natCast]; omega) (by simp only [Int.ofNat_eq_natCast]; omega), show z + 3 * (k : Int) + 3 = z + 3 * ((k + 1 : Nat) : Int) by omega]
        rfl
      · by_cases hkt : t = k
        · subst hkt
          rw [Tk.mk_at, Tk.cm_lt c z (Nat.lt_succ_self t), w2, w1]
          rfl
        · rw [Tk.mk_ne _ hkt]
          rcases Nat.lt_or_ge t k with h | h
          · rw [Tk.cm_lt c z h, Tk.cm_lt c z (show t < k + 1 by omega)]
          · rw [Tk.cm_ge c z h, Tk.cm_ge c z (show k + 1 ≤ t by omega)])
    (by
      refine ⟨_, by rw [show kH 1 [0, 1, 5] [1] (gA 1 [0, 1, 5] [1]) = kA 1 [0, 1, 5] [1] from rfl, Tk.stepm, ofNat_lt, decide_eq_false (Nat.lt_irrefl n), imp_ff], ?_⟩
      refine ⟨rfl, rfl, ⟨BLe.rows fun t ht => ?_, trivial⟩⟩
      rw [Tk.cm_lt c z ht])
  refine key.from ⟨?_, ⟨BLe.rows fun t _ => ?_, trivial⟩⟩
  · simp only [Tk.Sm, Int.natCast_zero, Int.mul_zero, Int.add_zero]
    rfl
  · rw [Tk.cm_ge c z (Nat.zero_le t)]
noncomputable def Tk.runMark : List AV → List Blk → Option Lf := fun args H => match args.map delit with
  | [.slc 0 0 n, .int .i64 z] => some (.leaf (.int .i64 (z + 3 * (n : Int)), some [.rows true n 3 (Tk.mz z).row]), andB (pB (∃ c : Tk, H = [.rows true n 3 c.row])) (andB (Nat.ble n few) (andB (decide (0 ≤ z)) (decide (z ≤ 1099511627776)))))
  | _ => none
theorem Tk.mark_ok : SumOk Try.prog 30 (selRunM Tk.runMark) := sum_selMG sxApart sxMixed fun args H t hr _ => by
  unfold Tk.runMark at hr
  split at hr
  case h_2 => cases hr
  rename_i n z hargs
  simp only [Option.some.injEq, Prod.mk.injEq] at hr
  obtain ⟨rfl, hr⟩ := hr
  obtain ⟨g1, hr⟩ := andB_true hr
  obtain ⟨g2, hr⟩ := andB_true hr
  obtain ⟨g3, g4⟩ := andB_true hr
  obtain ⟨c, rfl⟩ := pB_of g1
  have g3 := of_decide_eq_true g3
  have g4 := of_decide_eq_true g4
  refine ⟨extK, loopAt 3 [0, 1, 5] (Tk.Sm n c.row z 0) (.leaf (.ext 0, Tk.Em n (Tk.mz z).row (z + 3 * (n : Int)))) noL, 20, 8, _, [.slc 0 0 n, .int .i64 z], extK_ok, loopAt_all (B := 1) (by decide +kernel) (Tk.loopm n (Nat.le_of_ble_eq_true g2) c z g3 g4) noL_all, fun ρ vals hv => by rw [← hargs]; exact delits_rel hv, ?_, LLe.refl _⟩
  have h : evM Try.prog extK (loopAt 3 [0, 1, 5] (Tk.Sm n c.row z 0) (.leaf (.ext 0, Tk.Em n (Tk.mz z).row (z + 3 * (n : Int)))) noL) 20 8 30 [.slc 0 0 n, .int .i64 z] [.rows true n 3 c.row] = some (.leaf (.int .i64 (z + 3 * (n : Int)), some [.rows true n 3 (Tk.mz z).row]), andB (deqS (Tk.Sm n c.row z 0) (Tk.Sm n c.row z 0)) true) := by kernel_rfl
  rw [deqS_self] at h
  exact h
noncomputable def Tk.okM (n : Nat) (c : Tk) (z : Int) : Bool := andB (pB (∃ c0 : Tk, [Blk.rows true n 3 c.row] = [.rows true n 3 c0.row])) (andB (Nat.ble n few) (andB (decide (0 ≤ z)) (decide (z ≤ 1099511627776))))
theorem Tk.okM_true {n : Nat} (hn : Nat.ble n few = true) (c : Tk) {z : Int} (h0 : 0 ≤ z) (h1 : z ≤ 1099511627776) : Tk.okM n c z = true := by unfold Tk.okM; rw [pB_true ⟨c, rfl⟩, hn, decide_eq_true h0, decide_eq_true h1]; rfl
-- are they held
def Tk.Sh (n : Nat) (c : Tk) (z k : Int) : St := ⟨[.slc 0 0 n, .int .i64 z, .junk, .junk, .junk, .int .i64 k] ++ junks 34, [.rows false n 3 c.row]⟩
def Tk.Eh (n : Nat) (c : Tk) (z : Int) : St := ⟨[.junk, .int .i64 z] ++ junks 38, [.rows false n 3 c.row]⟩
def Tk.Rh (n : Nat) (c : Tk) (z : Int) : St := ⟨[.junk, .int .i64 z, .junk, .junk, .int .i64 (-1)] ++ junks (35), [.rows false n 3 c.row]⟩
theorem Tk.steph (n : Nat) (c : Tk) (z : Int) (k : Nat) : evC JS Try.prog (callF Try.prog extK 20 8) noL 20 (loopN Try.prog 31 3) (Tk.Sh n c z (Int.ofNat k)) (kA 1 [0, 1, 5] [1, 4]) =
    some (.node (decide (Int.ofNat k < (n : Int))) (.node (!(c.b k == z)) (.leaf (.ret, Tk.Rh n c z)) (.node (!(c.j k == (IntKind.i64.wrap (z + 1)))) (.leaf (.ret, Tk.Rh n c (IntKind.i64.wrap (z + 1)))) (.node (!(c.n k == (IntKind.i64.wrap ((IntKind.i64.wrap (z + 1)) + 1)))) (.leaf (.ret, Tk.Rh n c (IntKind.i64.wrap ((IntKind.i64.wrap (z + 1)) + 1)))) (.leaf (.nrm, Tk.Sh n c (IntKind.i64.wrap ((IntKind.i64.wrap ((IntKind.i64.wrap (z + 1)) + 1)) + 1)) (IntKind.i64.wrap (Int.ofNat k + 1))))))) (.leaf (.ext 0, Tk.Eh n c z)), andB (impB (decide (Int.ofNat k < (n : Int))) (andB (inB (Int.ofNat k) n) (andB (Nat.blt k n) (impB (!(!(c.b k == z))) (andB (inB (Int.ofNat k) n) (andB (Nat.blt k n) (impB (!(!(c.j k == (IntKind.i64.wrap (z + 1))))) (andB (inB (Int.ofNat k) n) (andB (Nat.blt k n) true))))))))) true) := by kernel_rfl
theorem Tk.looph (n : Nat) (hn : n ≤ few) (z : Int) (h0 : 0 ≤ z) (h1 : z ≤ 1099511627776) : LoopOk Try.prog 1 (loopN Try.prog 31 3) (Tk.Sh n (Tk.mz z) z 0) (.leaf (.ext 0, Tk.Eh n (Tk.mz z) (z + 3 * (n : Int)))) := by
  have hf := few_eq
  have key := loop_allH (callF_ok sxApart sxMixed extK_ok (N := 20) 8) sxMixed (N := 20) (L := noL) (B := 1) (body := loopN Try.prog 31 3) (fun _ _ _ _ h => by cases h) [0, 1, 5] [1, 4] (gA 1 [0, 1, 5] [1, 4]) (fun k => Tk.Sh n (Tk.mz z) (z + 3 * (k : Int)) (Int.ofNat k)) n (.ext 0, Tk.Eh n (Tk.mz z) (z + 3 * (n : Int))) (fun h => by cases h)
    (fun k hk => by
      obtain ⟨w1, w2, w3⟩ := Tk.wraps (z := z + 3 * (k : Int)) (by omega) (by omega)
      have c0 : (!((Tk.mz z).b k == (z + 3 * (k : Int)))) = false := by
        have e : (Tk.mz z).b k = (z + 3 * (k : Int)) := by rfl
        rw [e]; simp
      have c1 : (!((Tk.mz z).j k == (IntKind.i64.wrap ((z + 3 * (k : Int)) + 1)))) = false := by
        have e : (Tk.mz z).j k = (IntKind.i64.wrap ((z + 3 * (k : Int)) + 1)) := by rw [w1]; rfl
        rw [e]; simp
      have c2 : (!((Tk.mz z).n k == (IntKind.i64.wrap ((IntKind.i64.wrap ((z + 3 * (k : Int)) + 1)) + 1)))) = false := by
        have e : (Tk.mz z).n k = (IntKind.i64.wrap ((IntKind.i64.wrap ((z + 3 * (k : Int)) + 1)) + 1)) := by rw [w2]; rfl
        rw [e]; simp
      refine ⟨_, by rw [show kH 1 [0, 1, 5] [1, 4] (gA 1 [0, 1, 5] [1, 4]) = kA 1 [0, 1, 5] [1, 4] from rfl, Tk.steph, inB_nat hk, blt_lt hk, ofNat_lt, decide_eq_true hk, c0, c1, c2]; rfl, ?_⟩
      simp only [Tr.get, cond_true, cond_false]
      rw [w3, wrap_i64 (n := Int.ofNat k + 1) (by simp only [Int.ofNat_eq_natCast]; omega) (by simp only [Int.ofNat_eq_natCast]; omega), show z + 3 * (k : Int) + 3 = z + 3 * ((k + 1 : Nat) : Int) by omega]
      exact XLe.refl _)
    (by
      refine ⟨_, by rw [show kH 1 [0, 1, 5] [1, 4] (gA 1 [0, 1, 5] [1, 4]) = kA 1 [0, 1, 5] [1, 4] from rfl, Tk.steph, ofNat_lt, decide_eq_false (Nat.lt_irrefl n), imp_ff], XLe.refl _⟩)
  refine key.from ⟨?_, HLe.refl _⟩
  simp only [Tk.Sh, Int.natCast_zero, Int.mul_zero, Int.add_zero]
  rfl
noncomputable def Tk.runHeld : List AV → List Blk → Option Lf := fun args H => match args.map delit with
  | [.slc 0 0 n, .int .i64 z] => some (.leaf (.int .i64 (z + 3 * (n : Int)), none), andB (pB (H = Tk.ro1 n (Tk.mz z))) (andB (Nat.ble n few) (andB (decide (0 ≤ z)) (decide (z ≤ 1099511627776)))))
  | _ => none
theorem Tk.held_ok : SumOk Try.prog 31 (selRun Tk.runHeld) := sum_selG sxApart sxMixed fun args H t hr _ => by
  unfold Tk.runHeld at hr
  split at hr
  case h_2 => cases hr
  rename_i n z hargs
  simp only [Option.some.injEq, Prod.mk.injEq] at hr
  obtain ⟨rfl, hr⟩ := hr
  obtain ⟨g1, hr⟩ := andB_true hr
  obtain ⟨g2, hr⟩ := andB_true hr
  obtain ⟨g3, g4⟩ := andB_true hr
  obtain rfl := pB_of g1
  have g3 := of_decide_eq_true g3
  have g4 := of_decide_eq_true g4
  refine ⟨extK, loopAt 3 [0, 1, 5] (Tk.Sh n (Tk.mz z) z 0) (.leaf (.ext 0, Tk.Eh n (Tk.mz z) (z + 3 * (n : Int)))) noL, 20, 8, _, [.slc 0 0 n, .int .i64 z], extK_ok, loopAt_all (B := 1) (by decide +kernel) (Tk.looph n (Nat.le_of_ble_eq_true g2) z g3 g4) noL_all, fun ρ vals hv => by rw [← hargs]; exact delits_rel hv, ?_, LLe.refl _⟩
  have h : evF Try.prog extK (loopAt 3 [0, 1, 5] (Tk.Sh n (Tk.mz z) z 0) (.leaf (.ext 0, Tk.Eh n (Tk.mz z) (z + 3 * (n : Int)))) noL) 20 8 31 [.slc 0 0 n, .int .i64 z] (Tk.ro1 n (Tk.mz z)) = some (.leaf (.int .i64 (z + 3 * (n : Int)), none), andB (deqS (Tk.Sh n (Tk.mz z) z 0) (Tk.Sh n (Tk.mz z) z 0)) true) := by kernel_rfl
  rw [deqS_self] at h
  exact h
noncomputable def Tk.okH (n : Nat) (z : Int) : Bool := andB (pB (Tk.ro1 n (Tk.mz z) = Tk.ro1 n (Tk.mz z))) (andB (Nat.ble n few) (andB (decide (0 ≤ z)) (decide (z ≤ 1099511627776))))
theorem Tk.okH_true {n : Nat} (hn : Nat.ble n few = true) {z : Int} (h0 : 0 ≤ z) (h1 : z ≤ 1099511627776) : Tk.okH n z = true := by unfold Tk.okH; rw [pB_true rfl, hn, decide_eq_true h0, decide_eq_true h1]; rfl
end Go.Proofs.Ytllonddgbjgmdaa.W5
