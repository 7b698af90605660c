/- Works: their copies, and how the laws compare them. -/
import Derived.Test.YtllonddgbjgmdaaSxR0
set_option linter.unusedVariables false
set_option linter.unusedSimpArgs false
set_option maxRecDepth 100000
namespace Go.Proofs.Ytllonddgbjgmdaa.W1
open Go.Sx Go.Sx.R0 Go.RowKit

structure Bt where
  n : Nat → List UInt8
  d : Nat → Nat → Int
def Bt.row (c : Bt) (i : Nat) : List AV := [.str (c.n i), .int .i64 (c.d 0 i), .int .i64 (c.d 1 i), .int .i64 (c.d 2 i), .int .i64 (c.d 3 i), .int .i64 (c.d 4 i), .int .i64 (c.d 5 i), .int .i64 (c.d 6 i), .int .i64 (c.d 7 i)]
def Bt.upd (c : Bt) (k : Nat) (c' : Bt) : Bt := ⟨fun i => cond (Nat.beq i k) (c.n k) (c'.n i), fun j i => cond (Nat.beq i k) (c.d j k) (c'.d j i)⟩
def Bt.upto (c : Bt) (k : Nat) : Bt := ⟨fun i => cond (Nat.blt i k) (c.n i) [], fun j i => cond (Nat.blt i k) (c.d j i) 0⟩
def Bt.zero : Bt := ⟨fun _ => [], fun _ _ => 0⟩
def Bt.ro1 (n : Nat) (c : Bt) : List Blk := [.rows false n 9 c.row]
def Bt.ro2 (n : Nat) (c : Bt) : List Blk := [.rows false n 9 c.row, .rows false n 9 c.row]
noncomputable def Bt.okT (n : Nat) (c : Bt) : Bool := andB (pB (∃ c0 : Bt, Bt.ro1 n c = Bt.ro1 n c0)) (Nat.ble n few)
theorem Bt.okT_true {n : Nat} (hn : Nat.ble n few = true) (c : Bt) : Bt.okT n c = true := by unfold Bt.okT; rw [pB_true ⟨c, rfl⟩, hn]; rfl
noncomputable def Bt.okE (n : Nat) (c : Bt) : Bool := andB (pB (∃ c0 : Bt, n = n ∧ Bt.ro2 n c = Bt.ro2 n c0)) (Nat.ble n few)
theorem Bt.okE_true {n : Nat} (hn : Nat.ble n few = true) (c : Bt) : Bt.okE n c = true := by unfold Bt.okE; rw [pB_true ⟨c, rfl, rfl⟩, hn]; rfl

def Bt.St1 (n : Nat) (c : Bt) (k : Int) (c' : Bt) : St := ⟨[.slc 0 0 n, .junk, .junk, .slc 1 0 n, .int .i64 k] ++ junks 18, [.rows false n 9 c.row, .rows true n 9 c'.row]⟩
def Bt.Ex1 (n : Nat) (c : Bt) (c' : Bt) : St := ⟨[.junk, .junk, .junk, .slc 1 0 n] ++ junks 19, [.rows false n 9 c.row, .rows true n 9 c'.row]⟩
theorem Bt.step1 (n : Nat) (c : Bt) (k : Nat) (c' : Bt) :
    evC JS Try.prog (callF Try.prog extK 20 8) noL 20 (loopN Try.prog 54 4) (Bt.St1 n c (Int.ofNat k) c') (kG 1 [0, 3, 4] [3] none none) =
      some (.node (decide (Int.ofNat k < (n : Int))) (.leaf (.nrm, Bt.St1 n c (IntKind.i64.wrap (Int.ofNat k + 1)) (c.upd k c'))) (.leaf (.ext 0, Bt.Ex1 n c c')),
        ob2 (decide (Int.ofNat k < (n : Int))) (andB (inB (Int.ofNat k) n) (andB (Nat.blt k n) (andB (inB (Int.ofNat k) n) (andB (Nat.blt k n) true)))) true) := by kernel_rfl
theorem Bt.loop1 (n : Nat) (hn : n ≤ few) (c : Bt) : LoopOk Try.prog 1 (loopN Try.prog 54 4) (Bt.St1 n c 0 Bt.zero) (.leaf (.ext 0, Bt.Ex1 n c c)) := by
  have hf : few = 1099511627776 := rfl
  have key := loop_all (callF_ok sxApart sxMixed extK_ok (N := 20) 8) sxMixed (body := loopN Try.prog 54 4) (L := noL) (N := 20) (B := 1) (fun _ _ _ _ h => by cases h) [0, 3, 4] [3] none none
    (fun k => Bt.St1 n c (Int.ofNat k) (c.upto k)) n (.ext 0, Bt.Ex1 n c c) (fun h => by cases h)
    (fun k hk => by
      refine ⟨_, by rw [Bt.step1, ofNat_lt, inB_nat hk, blt_lt hk, decide_eq_true hk]; rfl, ?_⟩
      refine ⟨rfl, ?_, ⟨BLe.refl _, BLe.rows fun i hi => ?_, trivial⟩⟩
      · simp only [Tr.get, Bt.St1]
        rw [wrap_i64 (by simp only [Int.ofNat_eq_natCast]; omega) (by simp only [Int.ofNat_eq_natCast]; omega)]
        rfl
      · simp only [Bt.row, Bt.upd, Bt.upto, col])
    (by
      refine ⟨_, by rw [Bt.step1, ofNat_lt, decide_eq_false (Nat.lt_irrefl n), ob2_f], rfl, rfl, ?_⟩
      refine ⟨BLe.refl _, BLe.rows fun i hi => ?_, trivial⟩
      simp only [Bt.row, Bt.upto, blt_lt hi, cond_true])
  exact key.from ⟨rfl, ⟨BLe.refl _, BLe.rows fun i hi => by simp only [Bt.row, Bt.upto, Bt.zero, blt_ge (Nat.zero_le i), cond_false], trivial⟩⟩
/-- the copy of what came in -/
noncomputable def Bt.runTo : List AV → List Blk → Option Lf := fun args H => match args, H with
  | [.slc 0 0 n], [.rows _ _ _ f] => some (.leaf (.slc 1 0 n, some [.rows false n 9 f, .rows true n 9 f]), andB (pB (∃ c : Bt, H = Bt.ro1 n c)) (Nat.ble n few))
  | _, _ => none
theorem Bt.to_ok : SumOk Try.prog 54 (selRun Bt.runTo) := sum_sel sxApart sxMixed fun args H t hr => by
  unfold Bt.runTo at hr
  split at hr
  case h_2 => cases hr
  rename_i n w m sz f
  simp only [Option.some.injEq, Prod.mk.injEq] at hr
  obtain ⟨rfl, hr⟩ := hr
  obtain ⟨h1, hn⟩ := andB_true hr
  obtain ⟨c, h1⟩ := pB_of h1
  unfold Bt.ro1 at h1
  simp only [List.cons.injEq, Blk.rows.injEq, and_true] at h1
  obtain ⟨rfl, h2, rfl, rfl⟩ := h1
  have h2 := h2.symm
  subst h2
  rw [Nat.ble_eq] at hn
  refine ⟨extK, loopAt 4 [0, 3, 4] (Bt.St1 n c 0 Bt.zero) (.leaf (.ext 0, Bt.Ex1 n c c)) noL, 20, 8, .leaf (.slc 1 0 n, some [.rows false n 9 c.row, .rows true n 9 c.row]), extK_ok,
    loopAt_all (B := 1) (by decide +kernel) (Bt.loop1 n hn c) noL_all, ?_, LLe.refl _⟩
  have h : evF Try.prog extK (loopAt 4 [0, 3, 4] (Bt.St1 n c 0 Bt.zero) (.leaf (.ext 0, Bt.Ex1 n c c)) noL) 20 8 54 [.slc 0 0 n] (Bt.ro1 n c) =
    some (.leaf (.slc 1 0 n, some [.rows false n 9 c.row, .rows true n 9 c.row]), andB (decide (0 ≤ (n : Int)) && decide ((n : Int) ≤ (n : Int)) && decide ((n : Int) ≤ (few : Int))) (andB (deqS (Bt.St1 n c 0 Bt.zero) (Bt.St1 n c 0 Bt.zero)) true)) := by kernel_rfl
  rw [deqS_self, decide_eq_true (show (0 : Int) ≤ n by omega), decide_eq_true (Int.le_refl _), decide_eq_true (show (n : Int) ≤ (few : Int) by omega)] at h
  exact h

def Bt.St2 (n : Nat) (c : Bt) (k : Int) : St := ⟨[.slc 0 0 n, .slc 1 0 n, .junk, .junk, .junk, .int .i64 k] ++ junks 21, Bt.ro2 n c⟩
def Bt.Rt2 (n : Nat) (c : Bt) (b : Bool) : St := ⟨[.junk, .junk, .junk, .junk, .bool b, .junk] ++ junks 21, Bt.ro2 n c⟩
def Bt.Ex2 (n : Nat) (c : Bt) : St := ⟨junks 27, Bt.ro2 n c⟩
/-- a row compared with itself -/
noncomputable def Bt.runEq : List AV → List Blk → Option Lf := fun args _ => some (.leaf (.bool true, none), pB (∃ (c : Bt) (i : Nat), args = [.agg (c.row i), .agg (c.row i)]))
theorem Bt.eq1_ok : SumOk Try.prog 93 Bt.runEq := sum_pure0 sxApart sxMixed extK_ok (N := 20) (d := 8) fun args H t hr => by
  unfold Bt.runEq at hr
  simp only [Option.some.injEq, Prod.mk.injEq] at hr
  obtain ⟨rfl, hr⟩ := hr
  obtain ⟨c, i, rfl⟩ := pB_of hr
  refine ⟨rfl, rfl, rfl, noL, fun _ _ _ _ => noL_ok, ?_⟩
  have h : evF Try.prog extK noL 20 8 93 [.agg (c.row i), .agg (c.row i)] [] = some (.leaf (.bool (cond (c.n i != c.n i) false (cond (!(cond (c.d 0 i != c.d 0 i) false (cond (c.d 1 i != c.d 1 i) false (cond (c.d 2 i != c.d 2 i) false (cond (c.d 3 i != c.d 3 i) false (cond (c.d 4 i != c.d 4 i) false (cond (c.d 5 i != c.d 5 i) false (cond (c.d 6 i != c.d 6 i) false (cond (c.d 7 i != c.d 7 i) false true))))))))) false true)), none), true) := by kernel_rfl
  refine ⟨_, h, ?_⟩
  simp [Tr.get, delitD, delit]
noncomputable def Bt.eqK : CallerT := addK 93 Bt.runEq extK
theorem Bt.eqK_ok : CallerTOk Try.prog Bt.eqK := addK_ok Bt.eq1_ok extK_ok
theorem Bt.step2 (n : Nat) (c : Bt) (k : Nat) :
    evC JS Try.prog (callF Try.prog Bt.eqK 20 8) noL 20 (loopN Try.prog 56 5) (Bt.St2 n c (Int.ofNat k)) (kG 2 [0, 1, 5] [4] none none) =
      some (.node (decide (Int.ofNat k < (n : Int))) (.node false (.leaf (.ret, Bt.Rt2 n c false)) (.leaf (.nrm, Bt.St2 n c (IntKind.i64.wrap (Int.ofNat k + 1))))) (.leaf (.ext 0, Bt.Ex2 n c)),
        ob2 (decide (Int.ofNat k < (n : Int))) (andB (andB (inB (Int.ofNat k) n) (andB (Nat.blt k n) (andB (inB (Int.ofNat k) n) (andB (Nat.blt k n) (andB (pB (∃ (c0 : Bt) (i0 : Nat), [AV.agg (c.row k), AV.agg (c.row k)] = [.agg (c0.row i0), .agg (c0.row i0)])) true))))) true) true) := by kernel_rfl
theorem Bt.loop2 (n : Nat) (hn : n ≤ few) (c : Bt) : LoopOk Try.prog 2 (loopN Try.prog 56 5) (Bt.St2 n c 0) (.leaf (.ext 0, Bt.Ex2 n c)) := by
  have hf : few = 1099511627776 := rfl
  exact loop_all (callF_ok sxApart sxMixed Bt.eqK_ok (N := 20) 8) sxMixed (body := loopN Try.prog 56 5) (L := noL) (N := 20) (B := 2) (fun _ _ _ _ h => by cases h) [0, 1, 5] [4] none none
    (fun k => Bt.St2 n c (Int.ofNat k)) n (.ext 0, Bt.Ex2 n c) (fun h => by cases h)
    (fun k hk => by
      have hp : pB (∃ (c0 : Bt) (i0 : Nat), [AV.agg (c.row k), AV.agg (c.row k)] = [.agg (c0.row i0), .agg (c0.row i0)]) = true := pB_true ⟨c, k, rfl⟩
      refine ⟨_, by rw [Bt.step2, hp, ofNat_lt, inB_nat hk, blt_lt hk, decide_eq_true hk]; rfl, rfl, ?_, HLe.refl _⟩
      simp only [Tr.get, Bt.St2]
      rw [wrap_i64 (by simp only [Int.ofNat_eq_natCast]; omega) (by simp only [Int.ofNat_eq_natCast]; omega)]
      rfl)
    (by
      refine ⟨_, by rw [Bt.step2, ofNat_lt, decide_eq_false (Nat.lt_irrefl n), ob2_f], rfl, rfl, ?_⟩
      exact HLe.refl _)

/-- rows compared with themselves -/
noncomputable def Bt.runEqS : List AV → List Blk → Option Lf := fun args H => match args with
  | [.slc 0 0 n, .slc 1 0 m] => some (.leaf (.bool true, none), andB (pB (∃ c : Bt, m = n ∧ H = Bt.ro2 n c)) (Nat.ble n few))
  | _ => none
theorem Bt.eq_ok : SumOk Try.prog 56 (selRun Bt.runEqS) := sum_sel sxApart sxMixed fun args H t hr => by
  unfold Bt.runEqS at hr
  split at hr
  case h_2 => cases hr
  rename_i n m
  simp only [Option.some.injEq, Prod.mk.injEq] at hr
  obtain ⟨rfl, hr⟩ := hr
  obtain ⟨h1, hn⟩ := andB_true hr
  obtain ⟨c, h2, rfl⟩ := pB_of h1
  have h2 := h2.symm
  subst h2
  rw [Nat.ble_eq] at hn
  refine ⟨Bt.eqK, loopAt 5 [0, 1, 5] (Bt.St2 n c 0) (.leaf (.ext 0, Bt.Ex2 n c)) noL, 20, 8, .leaf (.bool (cond (cond ((n : Int) == (n : Int)) false true) false true), none), Bt.eqK_ok,
    loopAt_all (B := 2) (by decide +kernel) (Bt.loop2 n hn c) noL_all, ?_, ?_⟩
  · have h : evF Try.prog Bt.eqK (loopAt 5 [0, 1, 5] (Bt.St2 n c 0) (.leaf (.ext 0, Bt.Ex2 n c)) noL) 20 8 56 [.slc 0 0 n, .slc 1 0 n] (Bt.ro2 n c) =
      some (.leaf (.bool (cond (cond ((n : Int) == (n : Int)) false true) false true), none), ob2 (cond ((n : Int) == (n : Int)) false true) true (andB (deqS (Bt.St2 n c 0) (Bt.St2 n c 0)) true)) := by kernel_rfl
    rw [deqS_self] at h
    rw [h]
    simp [ob2, impB, andB]
  · simp only [BEq.rfl, cond_true, cond_false]
    exact LLe.refl _

-- how much room they take
def szF (c : Bt) (l : Int) : Nat → Int
  | 0 => l
  | k + 1 => cond (decide (IntKind.i64.wrap (szF c l k - ((c.n k).length : Int)) < 0)) (-1) (IntKind.i64.wrap (szF c l k - ((c.n k).length : Int)))
def szOk (c : Bt) (l : Int) (k : Nat) : Bool := !decide (szF c l (k + 1) < 0)
def Sz (n : Nat) (c : Bt) (l k : Int) : St := ⟨[.slc 0 0 n, .int .i64 l, .junk, .junk, .junk, .int .i64 k] ++ junks 21, Bt.ro1 n c⟩
def SzE (n : Nat) (c : Bt) (l : Int) : St := ⟨[.junk, .int .i64 l] ++ junks 25, Bt.ro1 n c⟩
def SzR (n : Nat) (c : Bt) (l : Int) : St := ⟨[.junk, .int .i64 l, .junk, .junk, .int .i64 (-1)] ++ junks 22, Bt.ro1 n c⟩
theorem stepSz (n : Nat) (c : Bt) (l0 : Int) (k : Nat) :
    evC JS Try.prog (callF Try.prog extK 20 8) noL 20 (loopN Try.prog 52 6) (Sz n c (szF c l0 k) (Int.ofNat k)) (kG 1 [0, 1, 5] [1, 4] (some [0]) (some [0])) =
      some (.node (decide (Int.ofNat k < (n : Int))) (.node (decide (szF c l0 (k + 1) < 0)) (.leaf (.ret, SzR n c (szF c l0 (k + 1)))) (.leaf (.nrm, Sz n c (szF c l0 (k + 1)) (IntKind.i64.wrap (Int.ofNat k + 1))))) (.leaf (.ext 0, SzE n c (szF c l0 k))),
        ob2 (decide (Int.ofNat k < (n : Int))) (andB (inB (Int.ofNat k) n) (andB (Nat.blt k n) true)) true) := by kernel_rfl
theorem loopSz (n : Nat) (hn : n ≤ 9223372036854775807) (c : Bt) (l0 : Int) : LoopOk Try.prog 1 (loopN Try.prog 52 6) (Sz n c l0 0) (.node (allB n (szOk c l0)) (.leaf (.ext 0, SzE n c (szF c l0 n))) (.leaf (.ret, SzR n c (szF c l0 (fb (szOk c l0) n + 1))))) := by
  exact loop_forE (callF_ok sxApart sxMixed extK_ok (N := 20) 8) sxMixed (body := loopN Try.prog 52 6) (L := noL) (N := 20) (B := 1) (fun _ _ _ _ h => by cases h) [0, 1, 5] [1, 4] (some [0]) (some [0])
    (fun k => Sz n c (szF c l0 k) (Int.ofNat k)) n (szOk c l0) (fun k => (.ret, SzR n c (szF c l0 (k + 1)))) (.ext 0, SzE n c (szF c l0 n)) (fun _ h => by cases h) (fun h => by cases h)
    (fun k hk _ => by
      refine ⟨_, by rw [stepSz, ofNat_lt, inB_nat hk, blt_lt hk, decide_eq_true hk]; rfl, fun hp => ?_, fun hp => ?_⟩
      · have hp : decide (szF c l0 (k + 1) < 0) = false := by simpa [szOk] using hp
        rw [hp, wrap_i64 (n := Int.ofNat k + 1) (by simp only [Int.ofNat_eq_natCast]; omega) (by simp only [Int.ofNat_eq_natCast]; omega)]
        exact XLe.refl _
      · have hp : decide (szF c l0 (k + 1) < 0) = true := by simpa [szOk] using hp
        rw [hp]
        exact XLe.refl _)
    (fun _ => by
      refine ⟨_, by rw [stepSz, ofNat_lt, decide_eq_false (Nat.lt_irrefl n), ob2_f], XLe.refl _⟩)
noncomputable def szB (n : Nat) (c : Bt) (l : Int) : Int := cond (decide (IntKind.i64.wrap (l - (n : Int)) < 0)) (-1) (cond (allB n (szOk c (IntKind.i64.wrap (l - (n : Int))))) (szF c (IntKind.i64.wrap (l - (n : Int))) n) (-1))
def selL : List AV → Option Int
  | [_, .lit (.int .i64 l)] => some l
  | [_, .int .i64 l] => some l
  | _ => none
noncomputable def tSz (n : Nat) (c : Bt) (l0 : Int) : Tr (AX × St) := .node (allB n (szOk c l0)) (.leaf (.ext 0, SzE n c (szF c l0 n))) (.leaf (.ret, SzR n c (szF c l0 (fb (szOk c l0) n + 1))))
noncomputable def runSz (n : Nat) (c : Bt) : List AV → List Blk → Option Lf := famK selL fun l => selRun (runAtD [.slc 0 0 n, .int .i64 l] (Bt.ro1 n c) (.leaf (.int .i64 (szB n c l), none)) (Nat.ble n 9223372036854775807))
theorem sumSz (n : Nat) (c : Bt) : SumOk Try.prog 52 (runSz n c) := famK_ok fun l => by
  refine sum_atD sxApart sxMixed extK_ok (loopAt 6 [0, 1, 5] (Sz n c (IntKind.i64.wrap (l - (n : Int))) 0) (tSz n c (IntKind.i64.wrap (l - (n : Int)))) noL) (N := 20) (d := 8) fun hn => ?_
  refine ⟨loopAt_all (B := 1) (by decide +kernel) (loopSz n (Nat.le_of_ble_eq_true hn) c _) noL_all, .leaf (.int .i64 (szB n c l), none), ?_, LLe.refl _⟩
  have h : evF Try.prog extK (loopAt 6 [0, 1, 5] (Sz n c (IntKind.i64.wrap (l - (n : Int))) 0) (tSz n c (IntKind.i64.wrap (l - (n : Int)))) noL) 20 8 52 [.slc 0 0 n, .int .i64 l] (Bt.ro1 n c) =
    some (.leaf (.int .i64 (szB n c l), none), ob2 (decide (IntKind.i64.wrap (l - (n : Int)) < 0)) true (andB (deqS (Sz n c (IntKind.i64.wrap (l - (n : Int))) 0) (Sz n c (IntKind.i64.wrap (l - (n : Int))) 0)) true)) := by kernel_rfl
  rw [deqS_self] at h
  rw [h]
  cases decide (IntKind.i64.wrap (l - (n : Int)) < 0) <;> rfl
noncomputable def okSz (n : Nat) (c : Bt) (l : Int) : Bool := andB (deq [.slc 0 0 n, .int .i64 l] [.slc 0 0 n, .int .i64 l]) (andB (deqH (Bt.ro1 n c) (Bt.ro1 n c)) (Nat.ble n 9223372036854775807))
theorem okSz_true {n : Nat} (hn : n ≤ 9223372036854775807) (c : Bt) (l : Int) : okSz n c l = true := by unfold okSz; rw [deq_self, deqH_self, Nat.ble_eq_true_of_le hn]; rfl
/-- names as they may come in -/
def NmOk (n : Nat) (c : Bt) : Prop := ∀ k, k < n → ((c.n k).length : Int) ≤ 9223372036854775807
theorem szF_le {n : Nat} {c : Bt} (h : NmOk n c) {l : Int} (h1 : -1 ≤ l) (h2 : l ≤ 1048576) : ∀ k, k ≤ n → -1 ≤ szF c l k ∧ szF c l k ≤ l ∧ szF c l k ≤ 1048576
  | 0, _ => ⟨h1, Int.le_refl l, h2⟩
  | k + 1, hk => by
    obtain ⟨g1, g2, g3⟩ := szF_le h h1 h2 k (by omega)
    have hl := h k (by omega)
    simp only [szF]
    rw [wrap_i64 (by omega) (by omega)]
    by_cases hc : szF c l k - ((c.n k).length : Int) < 0
    · rw [decide_eq_true hc]; simp only [cond_true]; omega
    · rw [decide_eq_false hc]; simp only [cond_false]; omega
theorem szB_few {n : Nat} (hn : n ≤ 9223372036854775807) {c : Bt} (h : NmOk n c) {l : Int} (h1 : 0 ≤ l) (h2 : l ≤ 1048576) (hb : decide (szB n c l < 0) = false) : n ≤ 1048576 ∧ 0 ≤ szB n c l ∧ szB n c l ≤ 1048576 := by
  have hb := of_decide_eq_false hb
  unfold szB at *
  rw [wrap_i64 (by omega) (by omega)] at *
  by_cases hc : l - (n : Int) < 0
  · rw [decide_eq_true hc] at hb; simp only [cond_true] at hb; omega
  · rw [decide_eq_false hc] at *
    simp only [cond_false] at *
    cases ha : allB n (szOk c (l - (n : Int))) with
    | false => rw [ha] at hb; simp only [cond_false] at hb; omega
    | true =>
      rw [ha] at hb
      have := szF_le h (l := l - (n : Int)) (by omega) (by omega) n (Nat.le_refl n)
      simp only [cond_true] at *
      omega
def Ln (x : Int) : Int := bif decide (x < 0) then -1 else x
theorem Ln_neg (x : Int) : decide (Ln x < 0) = decide (x < 0) := by
  unfold Ln
  by_cases h : x < 0
  · rw [decide_eq_true h]; rfl
  · rw [decide_eq_false h]; simp only [cond_false]; exact decide_eq_false h
theorem Ln_pos {x : Int} (h : decide (x < 0) = false) : Ln x = x := by unfold Ln; rw [h]; rfl
/-- a slice of batches that came in -/
def bks : List LK := [.str, .int .i64, .int .i64, .int .i64, .int .i64, .int .i64, .int .i64, .int .i64, .int .i64]
def cOf (f : Nat → List AV) : Bt := ⟨fun i => getS (gt (f i) 0), fun j i => getI (gt (f i) (j + 1))⟩
theorem canon (f : Nat → List AV) : (fun i => canonR bks 0 (f i)) = (cOf f).row := rfl
theorem nmOk {n : Nat} {f : Nat → List AV} (h : ∀ i, i < n → Typed bks (f i)) : NmOk n (cOf f) := fun k hk => by
  obtain ⟨s, hs, hl⟩ := typed_get (h k hk) 0 .str rfl
  show ((getS (gt (f k) 0)).length : Int) ≤ _
  rw [hs]
  exact hl
end Go.Proofs.Ytllonddgbjgmdaa.W1
