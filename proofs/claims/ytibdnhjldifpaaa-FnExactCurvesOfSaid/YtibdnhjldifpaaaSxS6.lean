/- Samples: slices of turns and counts, as this program has them. -/
import Derived.Test.YtibdnhjldifpaaaSxK2
import Derived.Test.YtibdnhjldifpaaaSxLoop
import Derived.Test.YtibdnhjldifpaaaSxFc
set_option linter.unusedVariables false
set_option linter.unusedSimpArgs false
set_option maxRecDepth 100000
namespace Go.Proofs.Ytibdnhjldifpaaa.S6
open Go.Sx Go.RowKit

def sRow (T : Nat → Int) (C : Nat → Nat → Int) (i : Nat) : List AV := [.int .i64 (T i), .int .i16 (C 0 i), .int .i16 (C 1 i), .int .i16 (C 2 i), .int .i16 (C 3 i), .int .i16 (C 4 i), .int .i16 (C 5 i), .int .i16 (C 6 i), .int .i16 (C 7 i), .int .i16 (C 8 i), .int .i16 (C 9 i), .int .i16 (C 10 i), .int .i16 (C 11 i), .int .i16 (C 12 i), .int .i16 (C 13 i), .int .i16 (C 14 i), .int .i16 (C 15 i)]
def roH (n : Nat) (T : Nat → Int) (C : Nat → Nat → Int) : List Blk := [.rows false n 17 (sRow T C)]
def St1 (n : Nat) (T : Nat → Int) (C : Nat → Nat → Int) (k : Int) (T' : Nat → Int) (C' : Nat → Nat → Int) : St := ⟨[.slc 0 0 n, .junk, .junk, .slc 1 0 n, .int .i64 k] ++ junks 18, [.rows false n 17 (sRow T C), .rows true n 17 (sRow T' C')]⟩
def Ex1 (n : Nat) (T : Nat → Int) (C : Nat → Nat → Int) (T' : Nat → Int) (C' : Nat → Nat → Int) : St := ⟨[.junk, .junk, .junk, .slc 1 0 n] ++ junks 19, [.rows false n 17 (sRow T C), .rows true n 17 (sRow T' C')]⟩
theorem step1 (n : Nat) (T : Nat → Int) (C : Nat → Nat → Int) (k : Nat) (T' : Nat → Int) (C' : Nat → Nat → Int) :
    evC JS Try.prog (callF Try.prog extK 20 8) noL 20 (loopN Try.prog 15 4) (St1 n T C (Int.ofNat k) T' C') (kG 1 [0, 3, 4] [3] none none) =
      some (.node (decide (Int.ofNat k < (n : Int))) (.leaf (.nrm, St1 n T C (IntKind.i64.wrap (Int.ofNat k + 1)) (fun i => cond (Nat.beq i k) (T k) (T' i)) (fun c i => cond (Nat.beq i k) (C c k) (C' c i)))) (.leaf (.ext 0, Ex1 n T C T' C')),
        ob2 (decide (Int.ofNat k < (n : Int))) (andB (inB (Int.ofNat k) n) (andB (Nat.blt k n) (andB (inB (Int.ofNat k) n) (andB (Nat.blt k n) true)))) true) := by kernel_rfl


def Z1 (n : Nat) (T : Nat → Int) (C : Nat → Nat → Int) : St := St1 n T C 0 (fun _ => 0) (fun _ _ => 0)
theorem blt_lt {i k : Nat} (h : i < k) : Nat.blt i k = true := by simpa [Nat.blt_eq] using h
theorem blt_ge {i k : Nat} (h : k ≤ i) : Nat.blt i k = false := by
  cases hb : Nat.blt i k with
  | false => rfl
  | true => rw [Nat.blt_eq] at hb; omega
theorem beq_ne {i k : Nat} (h : i ≠ k) : Nat.beq i k = false := by
  cases hb : Nat.beq i k with
  | false => rfl
  | true => exact absurd (Nat.eq_of_beq_eq_true hb) h
theorem ofNat_lt {k n : Nat} : decide (Int.ofNat k < (n : Int)) = decide (k < n) := by simp
theorem inB_nat {k n : Nat} (h : k < n) : inB (Int.ofNat k) n = true := by simp [inB, h]

theorem col {α : Type} (i k : Nat) (f : Nat → α) (z : α) : cond (Nat.beq i k) (f k) (cond (Nat.blt i k) (f i) z) = cond (Nat.blt i (k + 1)) (f i) z := by
  by_cases h : i = k
  · subst h; simp [blt_lt (Nat.lt_succ_self i)]
  · rw [beq_ne h]
    by_cases h2 : i < k
    · rw [blt_lt h2, blt_lt (show i < k + 1 by omega)]; rfl
    · rw [blt_ge (show k ≤ i by omega), blt_ge (show k + 1 ≤ i by omega)]; rfl

theorem ob2_f (x : Bool) : ob2 false x true = true := by cases x <;> rfl
theorem loop1 (n : Nat) (hn : n ≤ few) (T : Nat → Int) (C : Nat → Nat → Int) : LoopOk Try.prog 1 (loopN Try.prog 15 4) (Z1 n T C) (.leaf (.ext 0, Ex1 n T C T C)) := by
  have hf : few = 1099511627776 := rfl
  have key := loop_all (callF_ok sxApart sxMixed extK_ok (N := 20) 8) sxMixed (body := loopN Try.prog 15 4) (L := noL) (N := 20) (B := 1) (fun _ _ _ _ h => by cases h) [0, 3, 4] [3] none none
    (fun k => St1 n T C (Int.ofNat k) (fun i => cond (Nat.blt i k) (T i) 0) (fun c i => cond (Nat.blt i k) (C c i) 0)) n (.ext 0, Ex1 n T C T C) (fun h => by cases h)
    (fun k hk => by
      refine ⟨_, by rw [step1, ofNat_lt, inB_nat hk, blt_lt hk, decide_eq_true hk]; rfl, ?_⟩
      refine ⟨rfl, ?_, ⟨BLe.refl _, BLe.rows fun i hi => ?_, trivial⟩⟩
      · simp only [Tr.get, St1]
        rw [wrap_i64 (by simp only [Int.ofNat_eq_natCast]; omega) (by simp only [Int.ofNat_eq_natCast]; omega)]
        rfl
      · simp only [sRow, col])
    (by
      refine ⟨_, by rw [step1, ofNat_lt, decide_eq_false (Nat.lt_irrefl n), ob2_f], rfl, rfl, ?_⟩
      refine ⟨BLe.refl _, BLe.rows fun i hi => ?_, trivial⟩
      simp only [sRow, blt_lt hi, cond_true])
  exact key.from ⟨rfl, ⟨BLe.refl _, BLe.rows fun i hi => by simp only [sRow, blt_ge (Nat.zero_le i), cond_false], trivial⟩⟩

/-- the copy of samples that came in -/
noncomputable def runTo (n : Nat) (T : Nat → Int) (C : Nat → Nat → Int) : List AV → List Blk → Option Lf := fun args H =>
  some (.leaf (.slc 1 0 n, some [.rows false n 17 (sRow T C), .rows true n 17 (sRow T C)]), andB (deq args [.slc 0 0 n]) (andB (deqH H (roH n T C)) (Nat.ble n few)))
theorem to_ok (n : Nat) (T : Nat → Int) (C : Nat → Nat → Int) : SumOk Try.prog 15 (selRun (runTo n T C)) := sum_sel sxApart sxMixed fun args H t hr => by
  unfold runTo at hr
  simp only [Option.some.injEq, Prod.mk.injEq] at hr
  obtain ⟨rfl, hr⟩ := hr
  obtain ⟨h1, hr⟩ := andB_true hr
  obtain ⟨h2, hr⟩ := andB_true hr
  have h1 := deq_eq h1
  have h2 := deqH_eq h2
  rw [Nat.ble_eq] at hr
  have hn := hr
  subst h1 h2
  refine ⟨extK, loopAt 4 [0, 3, 4] (Z1 n T C) (.leaf (.ext 0, Ex1 n T C T C)) noL, 20, 8, .leaf (.slc 1 0 n, some [.rows false n 17 (sRow T C), .rows true n 17 (sRow T C)]), extK_ok,
    loopAt_all (B := 1) (by decide +kernel) (loop1 n hn T C) noL_all, ?_, LLe.refl _⟩
  have h : evF Try.prog extK (loopAt 4 [0, 3, 4] (Z1 n T C) (.leaf (.ext 0, Ex1 n T C T C)) noL) 20 8 15 [.slc 0 0 n] (roH n T C) =
    some (.leaf (.slc 1 0 n, some [.rows false n 17 (sRow T C), .rows true n 17 (sRow T C)]), andB (decide (0 ≤ (n : Int)) && decide ((n : Int) ≤ (n : Int)) && decide ((n : Int) ≤ (few : Int))) (andB (deqS (Z1 n T C) (Z1 n T C)) true)) := by kernel_rfl
  rw [deqS_self, decide_eq_true (show (0 : Int) ≤ n by omega), decide_eq_true (Int.le_refl _), decide_eq_true (show (n : Int) ≤ (few : Int) by omega)] at h
  exact h


-- the same samples
noncomputable def eqT (e : List AV) : List AV → List Blk → Option Lf := fun args _ => some (.leaf (.bool true, none), deq args e)
def sAg (T : Nat → Int) (C : Nat → Nat → Int) (i : Nat) : AV := .agg (sRow T C i)
def roH2 (n : Nat) (T : Nat → Int) (C : Nat → Nat → Int) : List Blk := [.rows false n 17 (sRow T C), .rows false n 17 (sRow T C)]
def St2 (n : Nat) (T : Nat → Int) (C : Nat → Nat → Int) (k : Int) : St := ⟨[.slc 0 0 n, .slc 1 0 n, .junk, .junk, .junk, .int .i64 k] ++ junks 21, roH2 n T C⟩
def Rt2 (n : Nat) (T : Nat → Int) (C : Nat → Nat → Int) (b : Bool) : St := ⟨[.junk, .junk, .junk, .junk, .bool b, .junk] ++ junks 21, roH2 n T C⟩
def Ex2 (n : Nat) (T : Nat → Int) (C : Nat → Nat → Int) : St := ⟨junks 27, roH2 n T C⟩


noncomputable def pB (p : Prop) : Bool := @decide p (Classical.propDecidable _)
theorem pB_true {p : Prop} (h : p) : pB p = true := @decide_eq_true _ (Classical.propDecidable _) h
theorem pB_of {p : Prop} (h : pB p = true) : p := @of_decide_eq_true _ (Classical.propDecidable _) h

/-- a sample compared with itself -/
noncomputable def runEq : List AV → List Blk → Option Lf := fun args _ => some (.leaf (.bool true, none), pB (∃ T C i, args = [.agg (sRow T C i), .agg (sRow T C i)]))
theorem eq1_ok : SumOk Try.prog 76 runEq := sum_pure0 sxApart sxMixed extK_ok (N := 20) (d := 8) fun args H t hr => by
  unfold runEq at hr
  simp only [Option.some.injEq, Prod.mk.injEq] at hr
  obtain ⟨rfl, hr⟩ := hr
  obtain ⟨T, C, i, rfl⟩ := pB_of hr
  refine ⟨rfl, rfl, rfl, noL, fun _ _ _ _ => noL_ok, ?_⟩
  have h : evF Try.prog extK noL 20 8 76 [.agg (sRow T C i), .agg (sRow T C i)] [] = some (.leaf (.bool (cond (T i != T i) false (cond (!(cond (C 0 i != C 0 i) false (cond (C 1 i != C 1 i) false (cond (C 2 i != C 2 i) false (cond (C 3 i != C 3 i) false (cond (C 4 i != C 4 i) false (cond (C 5 i != C 5 i) false (cond (C 6 i != C 6 i) false (cond (C 7 i != C 7 i) false (cond (C 8 i != C 8 i) false (cond (C 9 i != C 9 i) false (cond (C 10 i != C 10 i) false (cond (C 11 i != C 11 i) false (cond (C 12 i != C 12 i) false (cond (C 13 i != C 13 i) false (cond (C 14 i != C 14 i) false (cond (C 15 i != C 15 i) false true))))))))))))))))) false true)), none), true) := by kernel_rfl
  refine ⟨_, h, ?_⟩
  simp [Tr.get, delitD, delit]

noncomputable def eqK : CallerT := addK 76 runEq extK
theorem eqK_ok : CallerTOk Try.prog eqK := addK_ok eq1_ok extK_ok
theorem step2 (n : Nat) (T : Nat → Int) (C : Nat → Nat → Int) (k : Nat) :
    evC JS Try.prog (callF Try.prog eqK 20 8) noL 20 (loopN Try.prog 18 5) (St2 n T C (Int.ofNat k)) (kG 2 [0, 1, 5] [4] none none) =
      some (.node (decide (Int.ofNat k < (n : Int))) (.node false (.leaf (.ret, Rt2 n T C false)) (.leaf (.nrm, St2 n T C (IntKind.i64.wrap (Int.ofNat k + 1))))) (.leaf (.ext 0, Ex2 n T C)),
        ob2 (decide (Int.ofNat k < (n : Int))) (andB (andB (inB (Int.ofNat k) n) (andB (Nat.blt k n) (andB (inB (Int.ofNat k) n) (andB (Nat.blt k n) (andB (pB (∃ T0 C0 i0, [AV.agg (sRow T C k), AV.agg (sRow T C k)] = [.agg (sRow T0 C0 i0), .agg (sRow T0 C0 i0)])) true))))) true) true) := by kernel_rfl

theorem loop2 (n : Nat) (hn : n ≤ few) (T : Nat → Int) (C : Nat → Nat → Int) : LoopOk Try.prog 2 (loopN Try.prog 18 5) (St2 n T C 0) (.leaf (.ext 0, Ex2 n T C)) := by
  have hf : few = 1099511627776 := rfl
  have key := loop_all (callF_ok sxApart sxMixed eqK_ok (N := 20) 8) sxMixed (body := loopN Try.prog 18 5) (L := noL) (N := 20) (B := 2) (fun _ _ _ _ h => by cases h) [0, 1, 5] [4] none none
    (fun k => St2 n T C (Int.ofNat k)) n (.ext 0, Ex2 n T C) (fun h => by cases h)
    (fun k hk => by
      have hp : pB (∃ T0 C0 i0, [AV.agg (sRow T C k), AV.agg (sRow T C k)] = [.agg (sRow T0 C0 i0), .agg (sRow T0 C0 i0)]) = true := pB_true ⟨T, C, k, rfl⟩
      refine ⟨_, by rw [step2, hp, ofNat_lt, inB_nat hk, blt_lt hk, decide_eq_true hk]; rfl, rfl, ?_, HLe.refl _⟩
      simp only [Tr.get, St2]
      rw [wrap_i64 (by simp only [Int.ofNat_eq_natCast]; omega) (by simp only [Int.ofNat_eq_natCast]; omega)]
      rfl)
    (by
      refine ⟨_, by rw [step2, ofNat_lt, decide_eq_false (Nat.lt_irrefl n), ob2_f], rfl, rfl, ?_⟩
      exact HLe.refl _)
  exact key

/-- samples compared with themselves -/
noncomputable def runEqS (n : Nat) (T : Nat → Int) (C : Nat → Nat → Int) : List AV → List Blk → Option Lf := fun args H =>
  some (.leaf (.bool true, none), andB (deq args [.slc 0 0 n, .slc 1 0 n]) (andB (deqH H (roH2 n T C)) (Nat.ble n few)))
theorem eq_ok (n : Nat) (T : Nat → Int) (C : Nat → Nat → Int) : SumOk Try.prog 18 (selRun (runEqS n T C)) := sum_sel sxApart sxMixed fun args H t hr => by
  unfold runEqS at hr
  simp only [Option.some.injEq, Prod.mk.injEq] at hr
  obtain ⟨rfl, hr⟩ := hr
  obtain ⟨h1, hr⟩ := andB_true hr
  obtain ⟨h2, hr⟩ := andB_true hr
  have h1 := deq_eq h1
  have h2 := deqH_eq h2
  rw [Nat.ble_eq] at hr
  have hn := hr
  subst h1 h2
  refine ⟨eqK, loopAt 5 [0, 1, 5] (St2 n T C 0) (.leaf (.ext 0, Ex2 n T C)) noL, 20, 8, .leaf (.bool (cond (cond ((n : Int) == (n : Int)) false true) false true), none), eqK_ok,
    loopAt_all (B := 2) (by decide +kernel) (loop2 n hn T C) noL_all, ?_, ?_⟩
  · have h : evF Try.prog eqK (loopAt 5 [0, 1, 5] (St2 n T C 0) (.leaf (.ext 0, Ex2 n T C)) noL) 20 8 18 [.slc 0 0 n, .slc 1 0 n] (roH2 n T C) =
      some (.leaf (.bool (cond (cond ((n : Int) == (n : Int)) false true) false true), none), ob2 (cond ((n : Int) == (n : Int)) false true) true (andB (deqS (St2 n T C 0) (St2 n T C 0)) true)) := by kernel_rfl
    rw [deqS_self] at h
    rw [h]
    simp [ob2, impB, andB]
  · simp only [BEq.rfl, cond_true, cond_false]
    exact LLe.refl _


def sks : List LK := [.int .i64, .int .i16, .int .i16, .int .i16, .int .i16, .int .i16, .int .i16, .int .i16, .int .i16, .int .i16, .int .i16, .int .i16, .int .i16, .int .i16, .int .i16, .int .i16, .int .i16]
def Tf (f : Nat → List AV) (i : Nat) : Int := getI (gt (f i) 0)
def Cf (f : Nat → List AV) (c i : Nat) : Int := getI (gt (f i) (c + 1))
theorem canon_row (f : Nat → List AV) : (fun i => canonR sks 0 (f i)) = sRow (Tf f) (Cf f) := rfl
/-- what is left of the room that the laws have -/
def lft (n : Nat) : Int := cond (decide (IntKind.i64.wrap (1048576 - (n : Int)) < 0)) (-1) (IntKind.i64.wrap (1048576 - (n : Int)))
theorem lft_few {n : Nat} (h : n ≤ 9223372036854775807) : decide (lft n < 0) = true ∨ n ≤ few := by
  by_cases h1 : n ≤ 1048576
  · right
    have hf : few = 1099511627776 := rfl
    omega
  · left
    unfold lft
    rw [wrap_i64 (by omega) (by omega), decide_eq_true (show (1048576 : Int) - n < 0 by omega)]
    rfl


-- the nearest count
open Go.Sx.Fl
noncomputable def runCnt : List AV → List Blk → Option Lf := fun args _ => match args with
  | [.flt .f32 o] => some (.leaf (.int .i16 (cS o), none), true)
  | _ => none
theorem cnt_val {o : Option Nat} {vals : List Value} (h : VRels ([] : List Sx.Place) [.flt .f32 o] vals) : o = none ∨ ∃ x, o = some x ∧ (FloatKind.f32.decode x).isNaN = false := by
  simp only [VRels, VRel] at h
  obtain ⟨v, u, rfl, ⟨b, rfl, hb, _⟩, _⟩ := h
  unfold nrm at hb
  cases h : (FloatKind.f32.decode b).isNaN with
  | true => rw [h] at hb; exact .inl hb.symm
  | false => rw [h] at hb; exact .inr ⟨b, hb.symm, h⟩
theorem ob_im : ∀ a b c d : Bool, cond a true (cond b true (cond c true d)) = true → impB (cond a false true) (impB (cond b false true) (impB (cond c false true) (andB d true))) = true := by decide
theorem cnt_pure : ∀ args (H : List Blk) t, runCnt args H = some (t, true) → allPure1 args = true := fun args H t h => by
  unfold runCnt at h
  split at h
  · rfl
  · cases h
theorem cntS : SumOk Try.prog 103 runCnt := sum_pureV sxApart sxMixed extK_ok (N := 20) (d := 8) cnt_pure fun args H t hr hvs => by
  unfold runCnt at hr
  split at hr
  · rename_i o
    obtain ⟨vals, hv⟩ := hvs
    simp only [Option.some.injEq, Prod.mk.injEq, and_true] at hr
    subst hr
    obtain ⟨h1, h2, h3, _, _⟩ := count_ok o (cnt_val hv)
    refine ⟨rfl, rfl, rfl, noL, fun _ _ _ _ => noL_ok, .leaf (.int .i16 (cS o), none), ?_, rfl⟩
    have hS : evF Try.prog extK noL 20 8 103 [.flt .f32 o] [] = some (.leaf (.int .i16 (cS o), none), (impB (cond (fcmp .neq .f32 o o) false true) (impB (cond (fcmp .gtr .f64 (zo o) (nrm .f64 4674736138332667904)) false true) (impB (cond (fcmp .lss .f64 (zo o) (nrm .f64 13898108450065350656)) false true) (andB (ftoIOk .f64 .i16 (zo o)) true))))) := by kernel_rfl
    unfold obS at h2
    rw [ob_im _ _ _ _ h2] at hS
    exact hS
  · cases hr
theorem cntI : SumOk Try.prog 98 runCnt := sum_pureV sxApart sxMixed extK_ok (N := 20) (d := 8) cnt_pure fun args H t hr hvs => by
  unfold runCnt at hr
  split at hr
  · rename_i o
    obtain ⟨vals, hv⟩ := hvs
    simp only [Option.some.injEq, Prod.mk.injEq, and_true] at hr
    subst hr
    obtain ⟨h1, h2, h3, _, _⟩ := count_ok o (cnt_val hv)
    refine ⟨rfl, rfl, rfl, noL, fun _ _ _ _ => noL_ok, .leaf (.int .i16 (cI o), none), ?_, by rw [h1]⟩
    have hI : evF Try.prog extK noL 20 8 98 [.flt .f32 o] [] = some (.leaf (.int .i16 (cI o), none), impB (cond (fcmp .neq .f32 o o) false true) (impB (cond (fcmp .geq .f32 o (nrm .f32 1191181824)) false true) (impB (cond (fcmp .leq .f32 o (nrm .f32 3338665984)) false true) (andB (ftoIOk .f64 .i16 (zo o)) true)))) := by kernel_rfl
    unfold obI at h3
    rw [ob_im _ _ _ _ h3] at hI
    exact hI
  · cases hr
noncomputable def cntK : CallerT := addK 103 runCnt (addK 98 runCnt finK)
theorem cntK_ok : CallerTOk Try.prog cntK := addK_ok cntS (addK_ok cntI finK_ok)

end Go.Proofs.Ytibdnhjldifpaaa.S6
