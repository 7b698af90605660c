/- Texts of one claim, put together. -/
import Derived.Test.YtllonddgbjgmdaaG1
set_option linter.unusedVariables false
set_option linter.unusedSimpArgs false
set_option maxRecDepth 100000
namespace Go.Proofs.Ytllonddgbjgmdaa.W9
open Go.Sx Go.Sx.R0 Go.RowKit Go.Proofs.Ytllonddgbjgmdaa.W1 Go.Proofs.Ytllonddgbjgmdaa.W2 Go.Proofs.Ytllonddgbjgmdaa.W3 Go.Proofs.Ytllonddgbjgmdaa.W5

structure Dd where
  k : Nat → Int
  a : Nat → Int
def Dd.row (c : Dd) (i : Nat) : List AV := [.int .i64 (c.k i), .int .i64 (c.a i)]
def Dd.upd (c : Dd) (k : Nat) (c' : Dd) : Dd := ⟨fun i => cond (Nat.beq i k) (c.k k) (c'.k i), fun i => cond (Nat.beq i k) (c.a k) (c'.a i)⟩
def Dd.upto (c : Dd) (k : Nat) : Dd := ⟨fun i => cond (Nat.blt i k) (c.k i) 0, fun i => cond (Nat.blt i k) (c.a i) 0⟩
def Dd.zero : Dd := ⟨fun _ => 0, fun _ => 0⟩
def Dd.ro1 (n : Nat) (c : Dd) : List Blk := [.rows false n 2 c.row]
def Dd.ro2 (n : Nat) (c : Dd) : List Blk := [.rows false n 2 c.row, .rows false n 2 c.row]
noncomputable def Dd.okT (n : Nat) (c : Dd) : Bool := andB (pB (∃ c0 : Dd, Dd.ro1 n c = Dd.ro1 n c0)) (Nat.ble n few)
theorem Dd.okT_true {n : Nat} (hn : Nat.ble n few = true) (c : Dd) : Dd.okT n c = true := by unfold Dd.okT; rw [pB_true ⟨c, rfl⟩, hn]; rfl
noncomputable def Dd.okE (n : Nat) (c : Dd) : Bool := andB (pB (∃ c0 : Dd, n = n ∧ Dd.ro2 n c = Dd.ro2 n c0)) (Nat.ble n few)
theorem Dd.okE_true {n : Nat} (hn : Nat.ble n few = true) (c : Dd) : Dd.okE n c = true := by unfold Dd.okE; rw [pB_true ⟨c, rfl, rfl⟩, hn]; rfl

def Dd.St1 (n : Nat) (c : Dd) (k : Int) (c' : Dd) : St := ⟨[.slc 0 0 n, .junk, .junk, .slc 1 0 n, .int .i64 k] ++ junks 18, [.rows false n 2 c.row, .rows true n 2 c'.row]⟩
def Dd.Ex1 (n : Nat) (c : Dd) (c' : Dd) : St := ⟨[.junk, .junk, .junk, .slc 1 0 n] ++ junks 19, [.rows false n 2 c.row, .rows true n 2 c'.row]⟩
theorem Dd.step1 (n : Nat) (c : Dd) (k : Nat) (c' : Dd) :
    evC JS Try.prog (callF Try.prog extK 20 8) noL 20 (loopN Try.prog 34 4) (Dd.St1 n c (Int.ofNat k) c') (kG 1 [0, 3, 4] [3] none none) =
      some (.node (decide (Int.ofNat k < (n : Int))) (.leaf (.nrm, Dd.St1 n c (IntKind.i64.wrap (Int.ofNat k + 1)) (c.upd k c'))) (.leaf (.ext 0, Dd.Ex1 n c c')),
        ob2 (decide (Int.ofNat k < (n : Int))) (andB (inB (Int.ofNat k) n) (andB (Nat.blt k n) (andB (inB (Int.ofNat k) n) (andB (Nat.blt k n) true)))) true) := by kernel_rfl
theorem Dd.loop1 (n : Nat) (hn : n ≤ few) (c : Dd) : LoopOk Try.prog 1 (loopN Try.prog 34 4) (Dd.St1 n c 0 Dd.zero) (.leaf (.ext 0, Dd.Ex1 n c c)) := by
  have hf : few = 1099511627776 := rfl
  have key := loop_all (callF_ok sxApart sxMixed extK_ok (N := 20) 8) sxMixed (body := loopN Try.prog 34 4) (L := noL) (N := 20) (B := 1) (fun _ _ _ _ h => by cases h) [0, 3, 4] [3] none none
    (fun k => Dd.St1 n c (Int.ofNat k) (c.upto k)) n (.ext 0, Dd.Ex1 n c c) (fun h => by cases h)
    (fun k hk => by
      refine ⟨_, by rw [Dd.step1, ofNat_lt, inB_nat hk, blt_lt hk, decide_eq_true hk]; rfl, ?_⟩
      refine ⟨rfl, ?_, ⟨BLe.refl _, BLe.rows fun i hi => ?_, trivial⟩⟩
      · simp only [Tr.get, Dd.St1]
        rw [wrap_i64 (by simp only [Int.ofNat_eq_natCast]; omega) (by simp only [Int.ofNat_eq_natCast]; omega)]
        rfl
      · simp only [Dd.row, Dd.upd, Dd.upto, col])
    (by
      refine ⟨_, by rw [Dd.step1, ofNat_lt, decide_eq_false (Nat.lt_irrefl n), ob2_f], rfl, rfl, ?_⟩
      refine ⟨BLe.refl _, BLe.rows fun i hi => ?_, trivial⟩
      simp only [Dd.row, Dd.upto, blt_lt hi, cond_true])
  exact key.from ⟨rfl, ⟨BLe.refl _, BLe.rows fun i hi => by simp only [Dd.row, Dd.upto, Dd.zero, blt_ge (Nat.zero_le i), cond_false], trivial⟩⟩
/-- the copy of what came in -/
noncomputable def Dd.runTo : List AV → List Blk → Option Lf := fun args H => match args, H with
  | [.slc 0 0 n], [.rows _ _ _ f] => some (.leaf (.slc 1 0 n, some [.rows false n 2 f, .rows true n 2 f]), andB (pB (∃ c : Dd, H = Dd.ro1 n c)) (Nat.ble n few))
  | _, _ => none
theorem Dd.to_ok : SumOk Try.prog 34 (selRun Dd.runTo) := sum_sel sxApart sxMixed fun args H t hr => by
  unfold Dd.runTo at hr
  split at hr
  case h_2 => cases hr
  rename_i n w m sz f
  simp only [Option.some.injEq, Prod.mk.injEq] at hr
  obtain ⟨rfl, hr⟩ := hr
  obtain ⟨h1, hn⟩ := andB_true hr
  obtain ⟨c, h1⟩ := pB_of h1
  unfold Dd.ro1 at h1
  simp only [List.cons.injEq, Blk.rows.injEq, and_true] at h1
  obtain ⟨rfl, h2, rfl, rfl⟩ := h1
  have h2 := h2.symm
  subst h2
  rw [Nat.ble_eq] at hn
  refine ⟨extK, loopAt 4 [0, 3, 4] (Dd.St1 n c 0 Dd.zero) (.leaf (.ext 0, Dd.Ex1 n c c)) noL, 20, 8, .leaf (.slc 1 0 n, some [.rows false n 2 c.row, .rows true n 2 c.row]), extK_ok,
    loopAt_all (B := 1) (by decide +kernel) (Dd.loop1 n hn c) noL_all, ?_, LLe.refl _⟩
  have h : evF Try.prog extK (loopAt 4 [0, 3, 4] (Dd.St1 n c 0 Dd.zero) (.leaf (.ext 0, Dd.Ex1 n c c)) noL) 20 8 34 [.slc 0 0 n] (Dd.ro1 n c) =
    some (.leaf (.slc 1 0 n, some [.rows false n 2 c.row, .rows true n 2 c.row]), andB (decide (0 ≤ (n : Int)) && decide ((n : Int) ≤ (n : Int)) && decide ((n : Int) ≤ (few : Int))) (andB (deqS (Dd.St1 n c 0 Dd.zero) (Dd.St1 n c 0 Dd.zero)) true)) := by kernel_rfl
  rw [deqS_self, decide_eq_true (show (0 : Int) ≤ n by omega), decide_eq_true (Int.le_refl _), decide_eq_true (show (n : Int) ≤ (few : Int) by omega)] at h
  exact h

def Dd.St2 (n : Nat) (c : Dd) (k : Int) : St := ⟨[.slc 0 0 n, .slc 1 0 n, .junk, .junk, .junk, .int .i64 k] ++ junks 21, Dd.ro2 n c⟩
def Dd.Rt2 (n : Nat) (c : Dd) (b : Bool) : St := ⟨[.junk, .junk, .junk, .junk, .bool b, .junk] ++ junks 21, Dd.ro2 n c⟩
def Dd.Ex2 (n : Nat) (c : Dd) : St := ⟨junks 27, Dd.ro2 n c⟩
/-- a row compared with itself -/
noncomputable def Dd.runEq : List AV → List Blk → Option Lf := fun args _ => some (.leaf (.bool true, none), pB (∃ (c : Dd) (i : Nat), args = [.agg (c.row i), .agg (c.row i)]))
theorem Dd.eq1_ok : SumOk Try.prog 71 Dd.runEq := sum_pure0 sxApart sxMixed extK_ok (N := 20) (d := 8) fun args H t hr => by
  unfold Dd.runEq at hr
  simp only [Option.some.injEq, Prod.mk.injEq] at hr
  obtain ⟨rfl, hr⟩ := hr
  obtain ⟨c, i, rfl⟩ := pB_of hr
  refine ⟨rfl, rfl, rfl, noL, fun _ _ _ _ => noL_ok, ?_⟩
  have h : evF Try.prog extK noL 20 8 71 [.agg (c.row i), .agg (c.row i)] [] = some (.leaf (.bool (cond (c.k i != c.k i) false (cond (c.a i != c.a i) false true)), none), true) := by kernel_rfl
  refine ⟨_, h, ?_⟩
  simp [Tr.get, delitD, delit]
noncomputable def Dd.eqK : CallerT := addK 71 Dd.runEq extK
theorem Dd.eqK_ok : CallerTOk Try.prog Dd.eqK := addK_ok Dd.eq1_ok extK_ok
theorem Dd.step2 (n : Nat) (c : Dd) (k : Nat) :
    evC JS Try.prog (callF Try.prog Dd.eqK 20 8) noL 20 (loopN Try.prog 36 5) (Dd.St2 n c (Int.ofNat k)) (kG 2 [0, 1, 5] [4] none none) =
      some (.node (decide (Int.ofNat k < (n : Int))) (.node false (.leaf (.ret, Dd.Rt2 n c false)) (.leaf (.nrm, Dd.St2 n c (IntKind.i64.wrap (Int.ofNat k + 1))))) (.leaf (.ext 0, Dd.Ex2 n c)),
        ob2 (decide (Int.ofNat k < (n : Int))) (andB (andB (inB (Int.ofNat k) n) (andB (Nat.blt k n) (andB (inB (Int.ofNat k) n) (andB (Nat.blt k n) (andB (pB (∃ (c0 : Dd) (i0 : Nat), [AV.agg (c.row k), AV.agg (c.row k)] = [.agg (c0.row i0), .agg (c0.row i0)])) true))))) true) true) := by kernel_rfl
theorem Dd.loop2 (n : Nat) (hn : n ≤ few) (c : Dd) : LoopOk Try.prog 2 (loopN Try.prog 36 5) (Dd.St2 n c 0) (.leaf (.ext 0, Dd.Ex2 n c)) := by
  have hf : few = 1099511627776 := rfl
  exact loop_all (callF_ok sxApart sxMixed Dd.eqK_ok (N := 20) 8) sxMixed (body := loopN Try.prog 36 5) (L := noL) (N := 20) (B := 2) (fun _ _ _ _ h => by cases h) [0, 1, 5] [4] none none
    (fun k => Dd.St2 n c (Int.ofNat k)) n (.ext 0, Dd.Ex2 n c) (fun h => by cases h)
    (fun k hk => by
      have hp : pB (∃ (c0 : Dd) (i0 : Nat), [AV.agg (c.row k), AV.agg (c.row k)] = [.agg (c0.row i0), .agg (c0.row i0)]) = true := pB_true ⟨c, k, rfl⟩
      refine ⟨_, by rw [Dd.step2, hp, ofNat_lt, inB_nat hk, blt_lt hk, decide_eq_true hk]; rfl, rfl, ?_, HLe.refl _⟩
      simp only [Tr.get, Dd.St2]
      rw [wrap_i64 (by simp only [Int.ofNat_eq_natCast]; omega) (by simp only [Int.ofNat_eq_natCast]; omega)]
      rfl)
    (by
      refine ⟨_, by rw [Dd.step2, ofNat_lt, decide_eq_false (Nat.lt_irrefl n), ob2_f], rfl, rfl, ?_⟩
      exact HLe.refl _)

/-- rows compared with themselves -/
noncomputable def Dd.runEqS : List AV → List Blk → Option Lf := fun args H => match args with
  | [.slc 0 0 n, .slc 1 0 m] => some (.leaf (.bool true, none), andB (pB (∃ c : Dd, m = n ∧ H = Dd.ro2 n c)) (Nat.ble n few))
  | _ => none
theorem Dd.eq_ok : SumOk Try.prog 36 (selRun Dd.runEqS) := sum_sel sxApart sxMixed fun args H t hr => by
  unfold Dd.runEqS at hr
  split at hr
  case h_2 => cases hr
  rename_i n m
  simp only [Option.some.injEq, Prod.mk.injEq] at hr
  obtain ⟨rfl, hr⟩ := hr
  obtain ⟨h1, hn⟩ := andB_true hr
  obtain ⟨c, h2, rfl⟩ := pB_of h1
  have h2 := h2.symm
  subst h2
  rw [Nat.ble_eq] at hn
  refine ⟨Dd.eqK, loopAt 5 [0, 1, 5] (Dd.St2 n c 0) (.leaf (.ext 0, Dd.Ex2 n c)) noL, 20, 8, .leaf (.bool (cond (cond ((n : Int) == (n : Int)) false true) false true), none), Dd.eqK_ok,
    loopAt_all (B := 2) (by decide +kernel) (Dd.loop2 n hn c) noL_all, ?_, ?_⟩
  · have h : evF Try.prog Dd.eqK (loopAt 5 [0, 1, 5] (Dd.St2 n c 0) (.leaf (.ext 0, Dd.Ex2 n c)) noL) 20 8 36 [.slc 0 0 n, .slc 1 0 n] (Dd.ro2 n c) =
      some (.leaf (.bool (cond (cond ((n : Int) == (n : Int)) false true) false true), none), ob2 (cond ((n : Int) == (n : Int)) false true) true (andB (deqS (Dd.St2 n c 0) (Dd.St2 n c 0)) true)) := by kernel_rfl
    rw [deqS_self] at h
    rw [h]
    simp [ob2, impB, andB]
  · simp only [BEq.rfl, cond_true, cond_false]
    exact LLe.refl _
-- what a valid deed is
def inA (a : Int) : Bool := cond (decide (a ≥ 0)) (decide (a ≤ 999)) false
def VS (n : Nat) (a : Int) : Bool := cond (!inA a) false (cond (Nat.blt n 5) true (a == 0))
def vD (k a : Int) : Bool := cond (cond (cond (decide (1 ≤ k)) (decide (k ≤ 6)) false) (cond (decide (0 ≤ a)) (decide (a ≤ 999)) false) false) (cond (decide (k < 5)) true (a == 0)) false
def aD (k a : Int) : List AV := [.agg [.int .i64 k, .int .i64 a]]
theorem s1 (a : Int) : evF Try.prog extK noL 20 8 50 (aD 1 a) [] = some (.leaf (.bool (VS 1 a), none), true) := by kernel_rfl
theorem s2 (a : Int) : evF Try.prog extK noL 20 8 50 (aD 2 a) [] = some (.leaf (.bool (VS 2 a), none), true) := by kernel_rfl
theorem s3 (a : Int) : evF Try.prog extK noL 20 8 50 (aD 3 a) [] = some (.leaf (.bool (VS 3 a), none), true) := by kernel_rfl
theorem s4 (a : Int) : evF Try.prog extK noL 20 8 50 (aD 4 a) [] = some (.leaf (.bool (VS 4 a), none), true) := by kernel_rfl
theorem s5 (a : Int) : evF Try.prog extK noL 20 8 50 (aD 5 a) [] = some (.leaf (.bool (VS 5 a), none), true) := by kernel_rfl
theorem s6 (a : Int) : evF Try.prog extK noL 20 8 50 (aD 6 a) [] = some (.leaf (.bool (VS 6 a), none), true) := by kernel_rfl
theorem hI (k a : Int) : evF Try.prog extK noL 20 8 15 (aD k a) [] = some (.leaf (.bool (vD k a), none), true) := by kernel_rfl
def runIn (k : Int) : List AV → List Blk → Option Lf := fun args _ => match args with
  | [.int .i64 x, .lit (.int .i64 1), .lit (.int .i64 6)] => some (.leaf (.lit (.bool false), none), x == k)
  | _ => none
theorem inS {k : Int} (h : (cond (decide (k ≥ 1)) (decide (k ≤ 6)) false) = false) : SumOk Try.prog 72 (runIn k) := by
  have h1 : evF Try.prog extK noL 20 8 72 [.int .i64 k, .lit (.int .i64 1), .lit (.int .i64 6)] [] = some (.leaf (.bool (cond (decide (k ≥ 1)) (decide (k ≤ 6)) false), none), true) := by kernel_rfl
  rw [h] at h1
  refine sum_pure0 sxApart sxMixed extK_ok (N := 20) (d := 8) fun args H t hr => ?_
  unfold runIn at hr
  split at hr
  · rename_i x
    simp only [Option.some.injEq, Prod.mk.injEq, beq_iff_eq] at hr
    obtain ⟨rfl, rfl⟩ := hr
    exact ⟨rfl, rfl, rfl, noL, fun _ _ _ _ => noL_ok, _, h1, rfl⟩
  · cases hr
theorem hO (k a : Int) : evF Try.prog (addK 72 (runIn k) extK) noL 20 8 50 (aD k a) [] = some (.leaf (.lit (.bool false), none), andB (k == k) true) := by kernel_rfl
theorem eqV (n : Nat) (h1 : 1 ≤ n) (h2 : n ≤ 6) (a : Int) : vD (n : Int) a = VS n a := by
  unfold vD VS inA
  rw [decide_eq_true (show (1 : Int) ≤ n by omega), decide_eq_true (show (n : Int) ≤ 6 by omega)]
  have e : decide ((n : Int) < 5) = Nat.blt n 5 := by
    by_cases h : n < 5
    · rw [decide_eq_true (show (n : Int) < 5 by omega), show Nat.blt n 5 = true by rw [Nat.blt_eq]; exact h]
    · rw [decide_eq_false (show ¬ (n : Int) < 5 by omega)]
      cases hb : Nat.blt n 5 with
      | false => rfl
      | true => rw [Nat.blt_eq] at hb; omega
  rw [e]
  cases decide (0 ≤ a) <;> cases decide (a ≤ 999) <;> rfl
-- contracts for any deed
def selD : List AV → Option (Int × Int)
  | [.agg [.int .i64 k, .int .i64 a]] => some (k, a)
  | _ => none
noncomputable def runD : List AV → List Blk → Option Lf := famK selD fun x => selRun (runAtD (aD x.1 x.2) [] (.leaf (.bool (vD x.1 x.2), none)) true)
theorem dI : SumOk Try.prog 15 runD := famK_ok fun x => sum_atD sxApart sxMixed extK_ok noL (N := 20) (d := 8) fun _ => ⟨noL_all, _, hI x.1 x.2, LLe.refl _⟩
theorem dS : SumOk Try.prog 50 runD := famK_ok fun x => by
  obtain ⟨k, a⟩ := x
  by_cases hk : 1 ≤ k ∧ k ≤ 6
  · refine sum_atD sxApart sxMixed extK_ok noL (N := 20) (d := 8) fun _ => ⟨noL_all, ?_⟩
    have key : ∀ n : Nat, 1 ≤ n → n ≤ 6 → evF Try.prog extK noL 20 8 50 (aD n a) [] = some (.leaf (.bool (VS n a), none), true) → ∃ T', evF Try.prog extK noL 20 8 50 (aD n a) [] = some (T', true) ∧ LLe T'.get (Tr.leaf (AV.bool (vD n a), none)).get := fun n h1 h2 h => ⟨_, h, by rw [eqV n h1 h2]; exact LLe.refl _⟩
    have : k = 1 ∨ k = 2 ∨ k = 3 ∨ k = 4 ∨ k = 5 ∨ k = 6 := by omega
    rcases this with rfl | rfl | rfl | rfl | rfl | rfl
    · exact key 1 (by omega) (by omega) (s1 a)
    · exact key 2 (by omega) (by omega) (s2 a)
    · exact key 3 (by omega) (by omega) (s3 a)
    · exact key 4 (by omega) (by omega) (s4 a)
    · exact key 5 (by omega) (by omega) (s5 a)
    · exact key 6 (by omega) (by omega) (s6 a)
  · have hb : (cond (decide (k ≥ 1)) (decide (k ≤ 6)) false) = false := by
      cases h : decide (k ≥ 1) with
      | false => rfl
      | true => have := of_decide_eq_true h; exact decide_eq_false (by omega)
    refine sum_atD sxApart sxMixed (addK_ok (inS hb) extK_ok) noL (N := 20) (d := 8) fun _ => ⟨noL_all, ?_⟩
    have h := hO k a
    rw [show (k == k) = true by simp] at h
    refine ⟨_, h, ?_⟩
    have hV : vD k a = false := by
      unfold vD
      rw [show (cond (decide (1 ≤ k)) (decide (k ≤ 6)) false) = false from hb]
      rfl
    rw [hV]
    exact LLe.of rfl rfl rfl
noncomputable def okD (k a : Int) : Bool := andB (deq (aD k a) (aD k a)) (andB (deqH [] []) true)
theorem okD_true (k a : Int) : okD k a = true := by unfold okD; rw [deq_self, deqH_self]; rfl
end Go.Proofs.Ytllonddgbjgmdaa.W9
set_option linter.unusedVariables false
set_option linter.unusedSimpArgs false
set_option maxRecDepth 100000
namespace Go.Proofs.Ytllonddgbjgmdaa.W10
open Go.Sx Go.Sx.R0 Go.RowKit Go.Proofs.Ytllonddgbjgmdaa.W1 Go.Proofs.Ytllonddgbjgmdaa.W2 Go.Proofs.Ytllonddgbjgmdaa.W3 Go.Proofs.Ytllonddgbjgmdaa.W5 Go.Proofs.Ytllonddgbjgmdaa.W9

def bdD (d : Dd) (k : Nat) : Bool := !vD (d.k k) (d.a k)
def gv (r : Int) (n : Nat) (c : Bt) (m : Nat) (d : Dd) : Int := bif !vW r n c then 1 else bif allB m (fun k => !bdD d k) then bif decide ((m : Int) > 300) then 2 else 0 else 1
noncomputable def dK (K : CallerT) : CallerT := addK 50 runD (addK 15 runD K)
theorem dK_ok {K : CallerT} (hK : CallerTOk Try.prog K) : CallerTOk Try.prog (dK K) := addK_ok dS (addK_ok dI hK)
noncomputable def obG (m : Nat) (d : Dd) (k : Nat) : Bool := andB (inB (Int.ofNat k) m) (andB (Nat.blt k m) (andB (okD (d.k k) (d.a k)) true))
theorem obG_true {m k : Nat} (d : Dd) (h : k < m) : obG m d k = true := by unfold obG; rw [inB_nat h, blt_lt h, okD_true]; rfl
noncomputable def obH (m : Nat) (d : Dd) (k : Nat) : Bool := andB (inB (Int.ofNat k) m) (andB (Nat.blt k m) (andB (andB (okD (d.k k) (d.a k)) true) true))
theorem obH_true {m k : Nat} (d : Dd) (h : k < m) : obH m d k = true := by unfold obH; rw [inB_nat h, blt_lt h, okD_true]; rfl
-- the reference
def hg (r : Int) (n m : Nat) (c : Bt) (d : Dd) : List Blk := [.one false [.int .i64 r, .slc 2 0 n], .rows false m 2 d.row, .rows false n 9 c.row]
def Sg (r : Int) (n m : Nat) (c : Bt) (d : Dd) (i : Int) : St := ⟨[.junk, .slc 1 0 m, .junk, .junk, .junk, .int .i64 i] ++ junks 18, hg r n m c d⟩
def SgE (r : Int) (n m : Nat) (c : Bt) (d : Dd) : St := ⟨[.junk, .slc 1 0 m] ++ junks 22, hg r n m c d⟩
def SgR (r : Int) (n m : Nat) (c : Bt) (d : Dd) : St := ⟨[.junk, .slc 1 0 m, .junk, .junk, .int .i64 1] ++ junks 19, hg r n m c d⟩
def tSg (r : Int) (n m : Nat) (c : Bt) (d : Dd) : Tr (AX × St) := .node (allB m fun k => !bdD d k) (.leaf (.ext 0, SgE r n m c d)) (.leaf (.ret, SgR r n m c d))
theorem stepG (r : Int) (n m : Nat) (c : Bt) (d : Dd) (k : Nat) : evC JS Try.prog (callF Try.prog (dK extK) 20 8) noL 20 (loopN Try.prog 66 5) (Sg r n m c d (Int.ofNat k)) (kG 3 [1, 5] [1, 4] none none) =
    some (.node (decide (Int.ofNat k < (m : Int))) (.node (bdD d k) (.leaf (.ret, SgR r n m c d)) (.leaf (.nrm, Sg r n m c d (IntKind.i64.wrap (Int.ofNat k + 1))))) (.leaf (.ext 0, SgE r n m c d)), andB (impB (decide (Int.ofNat k < (m : Int))) (obG m d k)) true) := by kernel_rfl
theorem loopG (r : Int) (n : Nat) {m : Nat} (hm : m ≤ few) (c : Bt) (d : Dd) : LoopOk Try.prog 3 (loopN Try.prog 66 5) (Sg r n m c d 0) (tSg r n m c d) :=
  loopF (callF_ok sxApart sxMixed (dK_ok extK_ok) (N := 20) 8) sxMixed [1, 5] [1, 4] none none (fun k => Sg r n m c d (Int.ofNat k)) (fun k => Sg r n m c d (IntKind.i64.wrap (Int.ofNat k + 1))) m (by have := few_eq; omega) (bdD d) (fun _ => (.ret, SgR r n m c d)) (.ext 0, SgE r n m c d) (obG m d) (fun _ h => by cases h) (fun h => by cases h) (stepG r n m c d) (fun k h => obG_true d h) fun k _ _ hw => by rw [hw]; exact SLe.refl _
noncomputable def runG (r : Int) (n m : Nat) (c : Bt) (d : Dd) : List AV → List Blk → Option Lf := selRun (runAtH [.ptr 0 0 0, .slc 1 0 m] (hg r n m c d) (.leaf (.int .i64 (gv r n c m d), none)) (andB (Nat.ble n few) (andB (Nat.ble m few) (pB (NmOk n c)))))
noncomputable def okG (r : Int) (n m : Nat) (c : Bt) (d : Dd) : Bool := andB (deq [.ptr 0 0 0, .slc 1 0 m] [.ptr 0 0 0, .slc 1 0 m]) (andB (deqH (hg r n m c d) (hg r n m c d)) (andB (Nat.ble n few) (andB (Nat.ble m few) (pB (NmOk n c)))))
theorem okG_true (r : Int) {n m : Nat} (hn : n ≤ few) (hm : m ≤ few) {c : Bt} (hc : NmOk n c) (d : Dd) : okG r n m c d = true := by unfold okG; rw [deq_self, deqH_self, Nat.ble_eq_true_of_le hn, Nat.ble_eq_true_of_le hm, pB_true hc]; rfl
theorem gS (r : Int) (n m : Nat) (c : Bt) (d : Dd) : SumOk Try.prog 66 (runG r n m c d) := sum_atH sxApart sxMixed (addK_ok (vpS r n c) (dK_ok extK_ok)) (loopAt 5 [1, 5] (Sg r n m c d 0) (tSg r n m c d) noL) (N := 20) (d := 8) fun hg' => by
  obtain ⟨h1, h2⟩ := andB_true hg'
  obtain ⟨h2, h3⟩ := andB_true h2
  refine ⟨loopAt_all (B := 3) (by decide +kernel) (loopG r n (Nat.le_of_ble_eq_true h2) c d) noL_all, _, ?_, LLe.refl _⟩
  have h : evF Try.prog (addK 57 (runVp r n c) (dK extK)) (loopAt 5 [1, 5] (Sg r n m c d 0) (tSg r n m c d) noL) 20 8 66 [.ptr 0 0 0, .slc 1 0 m] (hg r n m c d) = some (.leaf (.int .i64 (gv r n c m d), none), andB (okVp r n c) (impB (!!vW r n c) (andB (deqS (Sg r n m c d 0) (Sg r n m c d 0)) true))) := by kernel_rfl
  rw [okVp_true r (Nat.le_of_ble_eq_true h1) (pB_of h3), deqS_self, show andB true true = true from rfl, imp_t rfl] at h
  exact h
-- the program
def hd (m : Nat) (d : Dd) : List Blk := [.rows false m 2 d.row]
def fD : AV := .fn (.func 105) [] []
def Sc (m : Nat) (d : Dd) (i : Int) : St := ⟨[.slc 0 0 m, fD] ++ junks 5 ++ [.int .i64 m, .int .i64 i] ++ junks 10, hd m d⟩
def ScR (m : Nat) (d : Dd) (k : Nat) : St := ⟨junks 4 ++ [.int .i64 (Int.ofNat k)] ++ junks 14, hd m d⟩
def ScE (m : Nat) (d : Dd) : St := ⟨junks 19, hd m d⟩
noncomputable def tSc (m : Nat) (d : Dd) : Tr (AX × St) := .node (allB m fun k => !bdD d k) (.leaf (.ext 0, ScE m d)) (.leaf (.ret, ScR m d (fb (fun k => !bdD d k) m)))
theorem stepC (m : Nat) (d : Dd) (k : Nat) : evC JS Try.prog (callF Try.prog (dK extK) 20 8) noL 20 (loopN Try.prog 117 3) (Sc m d (Int.ofNat k)) (kG 1 [0, 1, 7, 8] [4] none none) =
    some (.node (decide (Int.ofNat k < (m : Int))) (.node (bdD d k) (.leaf (.ret, ScR m d k)) (.leaf (.nrm, Sc m d (IntKind.i64.wrap (Int.ofNat k + 1))))) (.leaf (.ext 0, ScE m d)), andB (impB (decide (Int.ofNat k < (m : Int))) (obH m d k)) true) := by kernel_rfl
theorem loopC {m : Nat} (hm : m ≤ few) (d : Dd) : LoopOk Try.prog 1 (loopN Try.prog 117 3) (Sc m d 0) (tSc m d) :=
  loopF (callF_ok sxApart sxMixed (dK_ok extK_ok) (N := 20) 8) sxMixed [0, 1, 7, 8] [4] none none (fun k => Sc m d (Int.ofNat k)) (fun k => Sc m d (IntKind.i64.wrap (Int.ofNat k + 1))) m (by have := few_eq; omega) (bdD d) (fun k => (.ret, ScR m d k)) (.ext 0, ScE m d) (obH m d) (fun _ h => by cases h) (fun h => by cases h) (stepC m d) (fun k h => obH_true d h) fun k _ _ hw => by rw [hw]; exact SLe.refl _
noncomputable def ix (m : Nat) (d : Dd) : Int := cond (allB m fun k => !bdD d k) (-1) (Int.ofNat (fb (fun k => !bdD d k) m))
noncomputable def runX (m : Nat) (d : Dd) : List AV → List Blk → Option Lf := selRun (runAtH [.slc 0 0 m, fD] (hd m d) (.leaf (.int .i64 (ix m d), none)) (Nat.ble m few))
noncomputable def okX (m : Nat) (d : Dd) : Bool := andB (deq [.slc 0 0 m, fD] [.slc 0 0 m, fD]) (andB (deqH (hd m d) (hd m d)) (Nat.ble m few))
theorem okX_true {m : Nat} (hm : m ≤ few) (d : Dd) : okX m d = true := by unfold okX; rw [deq_self, deqH_self, Nat.ble_eq_true_of_le hm]; rfl
theorem xI (m : Nat) (d : Dd) : SumOk Try.prog 117 (runX m d) := sum_atH sxApart sxMixed (dK_ok extK_ok) (loopAt 3 [0, 1, 7, 8] (Sc m d 0) (tSc m d) noL) (N := 20) (d := 8) fun hg => by
  refine ⟨loopAt_all (B := 1) (by decide +kernel) (loopC (Nat.le_of_ble_eq_true hg) d) noL_all, _, ?_, LLe.refl _⟩
  have h : evF Try.prog (dK extK) (loopAt 3 [0, 1, 7, 8] (Sc m d 0) (tSc m d) noL) 20 8 117 [.slc 0 0 m, fD] (hd m d) = some (.leaf (.int .i64 (ix m d), none), andB (deqS (Sc m d 0) (Sc m d 0)) true) := by kernel_rfl
  rw [deqS_self] at h
  exact h
noncomputable def gvI (r : Int) (n : Nat) (c : Bt) (m : Nat) (d : Dd) : Int := bif bif bif vW r n c then false else true then true else decide (ix m d ≥ 0) then 1 else bif decide ((m : Int) > 300) then 2 else 0
theorem gvI_eq (r : Int) (n : Nat) (c : Bt) (m : Nat) (d : Dd) : gvI r n c m d = gv r n c m d := by
  unfold gvI gv ix
  cases vW r n c with
  | false => rfl
  | true =>
    cases allB m fun k => !bdD d k with
    | true => rfl
    | false =>
      simp only [cond_false, cond_true, Bool.not_true]
      rw [decide_eq_true (show Int.ofNat (fb (fun k => !bdD d k) m) ≥ 0 from Int.natCast_nonneg _)]
      rfl
def A2 (r : Int) (n m : Nat) : List AV := [.agg [.int .i64 r, .slc 0 0 n], .slc 1 0 m]
def H2 (n m : Nat) (c : Bt) (d : Dd) : List Blk := [.rows false n 9 c.row, .rows false m 2 d.row]
noncomputable def runC (r : Int) (n m : Nat) (c : Bt) (d : Dd) : List AV → List Blk → Option Lf := selRun (runAtH (A2 r n m) (H2 n m c d) (.leaf (.int .i64 (gv r n c m d), none)) (andB (Nat.ble n few) (andB (Nat.ble m few) (pB (NmOk n c)))))
noncomputable def okC (r : Int) (n m : Nat) (c : Bt) (d : Dd) : Bool := andB (deq (A2 r n m) (A2 r n m)) (andB (deqH (H2 n m c d) (H2 n m c d)) (andB (Nat.ble n few) (andB (Nat.ble m few) (pB (NmOk n c)))))
theorem okC_true (r : Int) {n m : Nat} (hn : n ≤ few) (hm : m ≤ few) {c : Bt} (hc : NmOk n c) (d : Dd) : okC r n m c d = true := by unfold okC; rw [deq_self, deqH_self, Nat.ble_eq_true_of_le hn, Nat.ble_eq_true_of_le hm, pB_true hc]; rfl
theorem cI (r : Int) (n m : Nat) (c : Bt) (d : Dd) : SumOk Try.prog 68 (runC r n m c d) := sum_atH sxApart sxMixed (addK_ok (vI r n c) (addK_ok (xI m d) extK_ok)) noL (N := 20) (d := 8) fun hg => by
  obtain ⟨h1, h2⟩ := andB_true hg
  obtain ⟨h2, h3⟩ := andB_true h2
  refine ⟨noL_all, .leaf (.int .i64 (gvI r n c m d), none), ?_, by rw [gvI_eq]; exact LLe.refl _⟩
  have h : evF Try.prog (addK 22 (runV r n c) (addK 117 (runX m d) extK)) noL 20 8 68 (A2 r n m) (H2 n m c d) = some (.leaf (.int .i64 (gvI r n c m d), none), andB (okV r n c) (andB (impB (bif bif vW r n c then false else true then false else true) (andB (andB (okX m d) true) true)) true)) := by kernel_rfl
  rw [okV_true r (Nat.le_of_ble_eq_true h1) (pB_of h3), okX_true (Nat.le_of_ble_eq_true h2) d, show andB (andB true true) true = true from rfl, imp_t rfl] at h
  exact h
end Go.Proofs.Ytllonddgbjgmdaa.W10
