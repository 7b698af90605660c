/- Which samples are valid: contracts of the reference's test and of the program's. -/
import Derived.Test.YtibdnhjldifpaaaSxS6
set_option linter.unusedVariables false
set_option linter.unusedSimpArgs false
set_option maxRecDepth 100000
namespace Go.Proofs.Ytibdnhjldifpaaa.V6
open Go.Sx Go.RowKit Go.Proofs.Ytibdnhjldifpaaa.S6

def inT (t : Int) : Bool := andB (decide (t ≥ 0)) (decide (t ≤ 100000))
def pr (k : Nat) : Nat := (IntKind.i64.wrap (Int.ofNat k - 1)).toNat
def bad (T : Nat → Int) (k : Nat) : Bool := cond (!inT (T k)) true (andB (decide (Int.ofNat k > 0)) (decide (T k < T (pr k))))
def SS (n : Nat) (T : Nat → Int) (C : Nat → Nat → Int) (k : Int) : St := ⟨[.slc 0 0 n, .junk, .junk, .int .i64 k] ++ junks 34, roH n T C⟩
def RS (n : Nat) (T : Nat → Int) (C : Nat → Nat → Int) : St := ⟨[.slc 0 0 n, .junk, .bool false, .junk] ++ junks 34, roH n T C⟩
def ES (n : Nat) (T : Nat → Int) (C : Nat → Nat → Int) : St := ⟨[.slc 0 0 n, .junk, .junk, .junk] ++ junks 34, roH n T C⟩
def obS (n : Nat) (T : Nat → Int) (k : Nat) : Bool := andB (andB (inB (Int.ofNat k) n) (andB (Nat.blt k n) (andB (impB (cond (!inT (T k)) false true) (andB (impB (decide (Int.ofNat k > 0)) (andB (inB (Int.ofNat k) n) (andB (Nat.blt k n) (andB (inB (IntKind.i64.wrap (Int.ofNat k - 1)) n) (andB (Nat.blt (pr k) n) true))))) true)) true))) true
theorem stepS (n : Nat) (T : Nat → Int) (C : Nat → Nat → Int) (k : Nat) :
    evC JS Try.prog (callF Try.prog extK 20 8) noL 20 (loopN Try.prog 61 3) (SS n T C (Int.ofNat k)) (kG 1 [0, 3] [0, 2] none none) =
      some (.node (decide (Int.ofNat k < (n : Int))) (.node (bad T k) (.leaf (.ret, RS n T C)) (.leaf (.nrm, SS n T C (IntKind.i64.wrap (Int.ofNat k + 1))))) (.leaf (.ext 0, ES n T C)), andB (impB (decide (Int.ofNat k < (n : Int))) (obS n T k)) true) := by kernel_rfl

def SI (n : Nat) (T : Nat → Int) (C : Nat → Nat → Int) (k : Int) : St := ⟨[.slc 0 0 n, .junk, .junk, .junk, .junk, .junk, .junk, .junk, .slc 0 0 n, .int .i64 n, .int .i64 k] ++ junks 24, roH n T C⟩
def RI (n : Nat) (T : Nat → Int) (C : Nat → Nat → Int) : St := ⟨[.junk, .junk, .bool false, .junk, .junk, .junk, .junk, .junk, .junk, .junk, .junk] ++ junks 24, roH n T C⟩
def EI (n : Nat) (T : Nat → Int) (C : Nat → Nat → Int) : St := ⟨junks 35, roH n T C⟩
def obI (n : Nat) (T : Nat → Int) (k : Nat) : Bool := andB (inB (Int.ofNat k) n) (andB (Nat.blt k n) (andB (andB (impB (cond (!inT (T k)) false true) (andB (impB (decide (Int.ofNat k > 0)) (andB (inB (IntKind.i64.wrap (Int.ofNat k - 1)) n) (andB (Nat.blt (pr k) n) true))) true)) true) true))
theorem stepI (n : Nat) (T : Nat → Int) (C : Nat → Nat → Int) (k : Nat) :
    evC JS Try.prog (callF Try.prog extK 20 8) noL 20 (loopN Try.prog 53 5) (SI n T C (Int.ofNat k)) (kG 1 [0, 8, 9, 10] [2] (some [0]) (some [0])) =
      some (.node (decide (Int.ofNat k < (n : Int))) (.node (bad T k) (.leaf (.ret, RI n T C)) (.leaf (.nrm, SI n T C (IntKind.i64.wrap (Int.ofNat k + 1))))) (.leaf (.ext 0, EI n T C)), andB (impB (decide (Int.ofNat k < (n : Int))) (obI n T k)) true) := by kernel_rfl

theorem pr_le {n k : Nat} (hn : n ≤ few) (hk : k < n) (h0 : 0 < k) : IntKind.i64.wrap (Int.ofNat k - 1) = Int.ofNat (k - 1) ∧ pr k = k - 1 := by
  have hf : few = 1099511627776 := rfl
  have h : IntKind.i64.wrap (Int.ofNat k - 1) = Int.ofNat (k - 1) := by
    rw [wrap_i64 (by simp only [Int.ofNat_eq_natCast]; omega) (by simp only [Int.ofNat_eq_natCast]; omega)]
    simp only [Int.ofNat_eq_natCast]; omega
  exact ⟨h, by unfold pr; rw [h]; rfl⟩
theorem obS_true {n k : Nat} (hn : n ≤ few) (hk : k < n) (T : Nat → Int) : obS n T k = true := by
  unfold obS
  rw [inB_nat hk, blt_lt hk]
  rcases Nat.eq_zero_or_pos k with rfl | h0
  · cases inT (T 0) <;> rfl
  · obtain ⟨h1, h2⟩ := pr_le hn hk h0
    rw [h1, h2, inB_nat (show k - 1 < n by omega), blt_lt (show k - 1 < n by omega)]
    cases inT (T k) <;> cases decide (Int.ofNat k > 0) <;> rfl
theorem obI_true {n k : Nat} (hn : n ≤ few) (hk : k < n) (T : Nat → Int) : obI n T k = true := by
  unfold obI
  rw [inB_nat hk, blt_lt hk]
  rcases Nat.eq_zero_or_pos k with rfl | h0
  · cases inT (T 0) <;> rfl
  · obtain ⟨h1, h2⟩ := pr_le hn hk h0
    rw [h1, h2, inB_nat (show k - 1 < n by omega), blt_lt (show k - 1 < n by omega)]
    cases inT (T k) <;> cases decide (Int.ofNat k > 0) <;> rfl

def ok (T : Nat → Int) (k : Nat) : Bool := !bad T k
theorem loopS (n : Nat) (hn : n ≤ few) (T : Nat → Int) (C : Nat → Nat → Int) : LoopOk Try.prog 1 (loopN Try.prog 61 3) (SS n T C 0) (.node (allB n (ok T)) (.leaf (.ext 0, ES n T C)) (.leaf (.ret, RS n T C))) := by
  have hf : few = 1099511627776 := rfl
  exact loop_for (callF_ok sxApart sxMixed extK_ok (N := 20) 8) sxMixed (body := loopN Try.prog 61 3) (L := noL) (N := 20) (B := 1) (fun _ _ _ _ h => by cases h) [0, 3] [0, 2] none none
    (fun k => SS n T C (Int.ofNat k)) n (ok T) (.ret, RS n T C) (.ext 0, ES n T C) (fun h => by cases h) (fun h => by cases h)
    (fun k hk _ => by
      refine ⟨_, by rw [stepS, obS_true hn hk, ofNat_lt, decide_eq_true hk]; rfl, fun h => ?_, fun h => ?_⟩
      · have hb : bad T k = false := by simpa [ok] using h
        rw [hb]
        simp only [Tr.get, cond_true, cond_false]
        rw [wrap_i64 (by simp only [Int.ofNat_eq_natCast]; omega) (by simp only [Int.ofNat_eq_natCast]; omega)]
        exact XLe.refl _
      · have hb : bad T k = true := by simpa [ok] using h
        rw [hb]
        exact XLe.refl _)
    (fun _ => by
      refine ⟨_, by rw [stepS, ofNat_lt, decide_eq_false (Nat.lt_irrefl n), show ∀ x, andB (impB false x) true = true from fun x => by cases x <;> rfl], ?_⟩
      exact XLe.refl _)
theorem loopI (n : Nat) (hn : n ≤ few) (T : Nat → Int) (C : Nat → Nat → Int) : LoopOk Try.prog 1 (loopN Try.prog 53 5) (SI n T C 0) (.node (allB n (ok T)) (.leaf (.ext 0, EI n T C)) (.leaf (.ret, RI n T C))) := by
  have hf : few = 1099511627776 := rfl
  exact loop_for (callF_ok sxApart sxMixed extK_ok (N := 20) 8) sxMixed (body := loopN Try.prog 53 5) (L := noL) (N := 20) (B := 1) (fun _ _ _ _ h => by cases h) [0, 8, 9, 10] [2] (some [0]) (some [0])
    (fun k => SI n T C (Int.ofNat k)) n (ok T) (.ret, RI n T C) (.ext 0, EI n T C) (fun h => by cases h) (fun h => by cases h)
    (fun k hk _ => by
      refine ⟨_, by rw [stepI, obI_true hn hk, ofNat_lt, decide_eq_true hk]; rfl, fun h => ?_, fun h => ?_⟩
      · have hb : bad T k = false := by simpa [ok] using h
        rw [hb]
        simp only [Tr.get, cond_true, cond_false]
        rw [wrap_i64 (by simp only [Int.ofNat_eq_natCast]; omega) (by simp only [Int.ofNat_eq_natCast]; omega)]
        exact XLe.refl _
      · have hb : bad T k = true := by simpa [ok] using h
        rw [hb]
        exact XLe.refl _)
    (fun _ => by
      refine ⟨_, by rw [stepI, ofNat_lt, decide_eq_false (Nat.lt_irrefl n), show ∀ x, andB (impB false x) true = true from fun x => by cases x <;> rfl], ?_⟩
      exact XLe.refl _)

def vS (n : Nat) (T : Nat → Int) : Bool := andB (allB n (ok T)) (decide ((n : Int) ≤ 64))
theorem sumSam (n : Nat) (T : Nat → Int) (C : Nat → Nat → Int) : SumOk Try.prog 61 (selRun (runAtH [.slc 0 0 n] (roH n T C) (.leaf (.bool (vS n T), none)) (Nat.ble n few))) :=
  sum_atH sxApart sxMixed extK_ok (loopAt 3 [0, 3] (SS n T C 0) (.node (allB n (ok T)) (.leaf (.ext 0, ES n T C)) (.leaf (.ret, RS n T C))) noL) (N := 20) (d := 8) fun hn => by
    rw [Nat.ble_eq] at hn
    refine ⟨loopAt_all (B := 1) (by decide +kernel) (loopS n hn T C) noL_all, _, ?_, LLe.refl _⟩
    have h : evF Try.prog extK (loopAt 3 [0, 3] (SS n T C 0) (.node (allB n (ok T)) (.leaf (.ext 0, ES n T C)) (.leaf (.ret, RS n T C))) noL) 20 8 61 [.slc 0 0 n] (roH n T C) = some (.leaf (.bool (vS n T), none), andB (deqS (SS n T C 0) (SS n T C 0)) true) := by kernel_rfl
    rw [deqS_self] at h
    exact h
theorem sumI (n : Nat) (T : Nat → Int) (C : Nat → Nat → Int) : SumOk Try.prog 53 (selRun (runAtH [.slc 0 0 n] (roH n T C) (.leaf (.bool (vS n T), none)) (Nat.ble n few))) :=
  sum_atH sxApart sxMixed extK_ok (loopAt 5 [0, 8, 9, 10] (SI n T C 0) (.node (allB n (ok T)) (.leaf (.ext 0, EI n T C)) (.leaf (.ret, RI n T C))) noL) (N := 20) (d := 8) fun hn => by
    rw [Nat.ble_eq] at hn
    refine ⟨loopAt_all (B := 1) (by decide +kernel) (loopI n hn T C) noL_all, .leaf (.bool (cond (decide ((n : Int) > 64)) false (andB (allB n (ok T)) true)), none), ?_, ?_⟩
    · have h : evF Try.prog extK (loopAt 5 [0, 8, 9, 10] (SI n T C 0) (.node (allB n (ok T)) (.leaf (.ext 0, EI n T C)) (.leaf (.ret, RI n T C))) noL) 20 8 53 [.slc 0 0 n] (roH n T C) = some (.leaf (.bool (cond (decide ((n : Int) > 64)) false (andB (allB n (ok T)) true)), none), ob2 (decide ((n : Int) > 64)) true (andB (deqS (SI n T C 0) (SI n T C 0)) true)) := by kernel_rfl
      rw [deqS_self] at h
      rw [h]
      cases decide ((n : Int) > 64) <;> rfl
    · refine LLe.of ?_ rfl rfl
      simp only [Tr.get, delitD, delit, vS]
      by_cases h : (n : Int) > 64
      · rw [decide_eq_true h, decide_eq_false (show ¬ (n : Int) ≤ 64 by omega)]
        cases allB n (ok T) <;> rfl
      · rw [decide_eq_false h, decide_eq_true (show (n : Int) ≤ 64 by omega)]
        cases allB n (ok T) <;> rfl


/-- the contracts together -/
noncomputable def vK (n : Nat) (T : Nat → Int) (C : Nat → Nat → Int) (K : CallerT) : CallerT := addK 61 (selRun (runAtH [.slc 0 0 n] (roH n T C) (.leaf (.bool (vS n T), none)) (Nat.ble n few)))
  (addK 53 (selRun (runAtH [.slc 0 0 n] (roH n T C) (.leaf (.bool (vS n T), none)) (Nat.ble n few))) K)
theorem vK_ok (n : Nat) (T : Nat → Int) (C : Nat → Nat → Int) {K : CallerT} (hK : CallerTOk Try.prog K) : CallerTOk Try.prog (vK n T C K) := addK_ok (sumSam n T C) (addK_ok (sumI n T C) hK)
end Go.Proofs.Ytibdnhjldifpaaa.V6
