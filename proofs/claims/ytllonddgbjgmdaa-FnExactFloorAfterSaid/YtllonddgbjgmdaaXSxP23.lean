/- Texts of one claim, put together. -/
import Derived.Test.YtllonddgbjgmdaaXSxP22
import Derived.Test.YtllonddgbjgmdaaG8
set_option linter.unusedVariables false
set_option linter.unusedSimpArgs false
set_option maxRecDepth 100000
namespace Go.Proofs.Ytllonddgbjgmdaa.P23
open Go.Sx Go.Sx.R0 Go.RowKit Go.Proofs.Ytllonddgbjgmdaa.W1 Go.Proofs.Ytllonddgbjgmdaa.W2 Go.Proofs.Ytllonddgbjgmdaa.W3 Go.Proofs.Ytllonddgbjgmdaa.W5 Go.Proofs.Ytllonddgbjgmdaa.P1 Go.Proofs.Ytllonddgbjgmdaa.P2 Go.Proofs.Ytllonddgbjgmdaa.P8 Go.Proofs.Ytllonddgbjgmdaa.P22

def bkl (w : Bool) (M : Nat) (R : Nat) (g : Nat → Bs) : List Blk := match R with
  | 1 => [.rows w M 1 (g 0).row]
  | 2 => [.rows w M 1 (g 0).row, .rows w M 1 (g 1).row]
  | 3 => [.rows w M 1 (g 0).row, .rows w M 1 (g 1).row, .rows w M 1 (g 2).row]
  | 4 => [.rows w M 1 (g 0).row, .rows w M 1 (g 1).row, .rows w M 1 (g 2).row, .rows w M 1 (g 3).row]
  | _ => []
theorem bkl_len {R : Nat} (h1 : 1 ≤ R) (h2 : R ≤ 4) (w : Bool) (M : Nat) (g : Nat → Bs) : (bkl w M R g).length = R := by
  have hR : R = 1 ∨ R = 2 ∨ R = 3 ∨ R = 4 := by omega
  rcases hR with rfl | rfl | rfl | rfl <;> rfl
theorem bkl_congr {R : Nat} (h1 : 1 ≤ R) (h2 : R ≤ 4) (w : Bool) (M : Nat) {g g' : Nat → Bs} (h : ∀ i, i < R → g i = g' i) : bkl w M R g = bkl w M R g' := by
  have hR : R = 1 ∨ R = 2 ∨ R = 3 ∨ R = 4 := by omega
  rcases hR with rfl | rfl | rfl | rfl
  · (unfold bkl; rw [h 0 (by omega)]) <;> rfl
  · (unfold bkl; rw [h 0 (by omega), h 1 (by omega)]) <;> rfl
  · (unfold bkl; rw [h 0 (by omega), h 1 (by omega), h 2 (by omega)]) <;> rfl
  · (unfold bkl; rw [h 0 (by omega), h 1 (by omega), h 2 (by omega), h 3 (by omega)]) <;> rfl
def ix (R k : Nat) : Nat := bif Nat.blt k R then k else 0
theorem ix_lt {R k : Nat} (h : k < R) : ix R k = k := by unfold ix; rw [blt_lt h]; rfl
def canM (b M R i : Nat) : List AV := [.slc (b + ix R i) 0 M]
def slB (w : Bool) (b M R : Nat) : Blk := .rows w R 1 (canM b M R)
def gset (g : Nat → Bs) (k : Nat) (x : Bs) (i : Nat) : Bs := bif Nat.beq i k then x else g i
def mzs (z : Int) (M i : Nat) : Bs := Bs.mz (z + (i : Int) * (M : Int))
def upz (g : Nat → Bs) (z : Int) (M k i : Nat) : Bs := bif Nat.blt i k then mzs z M i else g i
theorem upz_set (g : Nat → Bs) (z : Int) (M k i : Nat) : gset (upz g z M k) k (Bs.mz (z + (k : Int) * (M : Int))) i = upz g z M (k + 1) i := by
  unfold gset upz
  by_cases h : i = k
  · subst h
    rw [show Nat.beq i i = true from Nat.beq_refl i, blt_lt (Nat.lt_succ_self i)]; rfl
  · rw [beq_ne h]
    by_cases h2 : i < k
    · rw [blt_lt h2, blt_lt (show i < k + 1 by omega)]; rfl
    · rw [blt_ge (show k ≤ i by omega), blt_ge (show k + 1 ≤ i by omega)]; rfl
/-- rows that name blocks one behind the other -/
noncomputable def slT (b M : Nat) (f : Nat → List AV) : Nat → Bool
  | 0 => true
  | k + 1 => andB (deq (f k) [.slc (b + k) 0 M]) (slT b M f k)
theorem slT_of {b M : Nat} {f : Nat → List AV} : ∀ {R : Nat}, slT b M f R = true → ∀ i, i < R → f i = [.slc (b + i) 0 M]
  | 0, _, i, hi => absurd hi (Nat.not_lt_zero i)
  | R + 1, h, i, hi => by
    obtain ⟨h1, h2⟩ := andB_true h
    by_cases hR : i = R
    · subst hR; exact deq_eq h1
    · exact slT_of h2 i (by omega)
theorem slT_can {b M : Nat} {f : Nat → List AV} {R : Nat} (h : slT b M f R = true) (w : Bool) : BLe (.rows w R 1 f) (slB w b M R) := BLe.rows fun i hi => by
  rw [slT_of h i hi]
  unfold canM
  rw [ix_lt hi]
def shR (w : Bool) (R : Nat) (H : List Blk) (b : Nat) : Bool := match blkOf H b with
  | some (.rows true n 1 _) => bif w then Nat.beq n R else false
  | some (.rows false n 1 _) => bif w then false else Nat.beq n R
  | _ => false
theorem shR_of {w : Bool} {R : Nat} {H : List Blk} {b : Nat} (h : shR w R H b = true) : blkOf H b = some (.rows w R 1 (bF H b)) := by
  unfold shR at h
  unfold bF
  split at h
  · rename_i n f hb
    rw [hb]
    cases w with
    | true => have := Nat.eq_of_beq_eq_true h; subst this; rfl
    | false => cases h
  · rename_i n f hb
    rw [hb]
    cases w with
    | true => cases h
    | false => have := Nat.eq_of_beq_eq_true h; subst this; rfl
  · cases h
-- marks
def SbM (R M : Nat) (g : Nat → Bs) (z k : Int) : St := ⟨[.slc 0 0 R, .int .i64 z, .junk, .junk, .junk, .int .i64 k] ++ junks 13, slB true 1 M R :: bkl true M R g⟩
def EbM (R M : Nat) (g : Nat → Bs) (z : Int) : St := ⟨[.junk, .int .i64 z] ++ junks 17, slB true 1 M R :: bkl true M R g⟩
noncomputable def KbM : CallerT := addK 84 (selRunM Bs.runMark) extK
theorem KbM_ok : CallerTOk Try.prog KbM := addK_ok Bs.mark_ok extK_ok
noncomputable def obM (R M : Nat) (g : Nat → Bs) (z : Int) (k : Nat) : Bool := andB (inB (Int.ofNat k) R) (andB (Nat.blt k R) (andB (Bs.okM M (g (ix R k)) z) true))
def SbH (R M : Nat) (g : Nat → Bs) (z k : Int) : St := ⟨[.slc 0 0 R, .int .i64 z, .junk, .junk, .junk, .int .i64 k] ++ junks 15, slB false 1 M R :: bkl false M R g⟩
def EbH (R M : Nat) (g : Nat → Bs) (z : Int) : St := ⟨[.junk, .int .i64 z] ++ junks 19, slB false 1 M R :: bkl false M R g⟩
def RbH (R M : Nat) (g : Nat → Bs) (z : Int) : St := ⟨[.junk, .int .i64 z, .junk, .junk, .int .i64 (-1)] ++ junks 16, slB false 1 M R :: bkl false M R g⟩
noncomputable def KbH : CallerT := addK 88 (selRun Bs.runHeld) extK
theorem KbH_ok : CallerTOk Try.prog KbH := addK_ok Bs.held_ok extK_ok
noncomputable def okHg (M : Nat) (g : Bs) (z : Int) : Bool := andB (pB (Bs.ro1 M g = Bs.ro1 M (Bs.mz z))) (andB (Nat.ble M few) (andB (decide (0 ≤ z)) (decide (z ≤ 1099511627776))))
noncomputable def obH (R M : Nat) (g : Nat → Bs) (z : Int) (k : Nat) : Bool := andB (inB (Int.ofNat k) R) (andB (Nat.blt k R) (andB (okHg M (g (ix R k)) z) true))
def SbE (R M : Nat) (g : Nat → Bs) (k : Int) : St := ⟨[.slc 0 0 R, .slc 1 0 R, .junk, .junk, .junk, .int .i64 k] ++ junks 21, slB false 2 M R :: slB false (2 + R) M R :: (bkl false M R g ++ bkl false M R g)⟩
def EbE (R M : Nat) (g : Nat → Bs) : St := ⟨junks 27, slB false 2 M R :: slB false (2 + R) M R :: (bkl false M R g ++ bkl false M R g)⟩
def RbE (R M : Nat) (g : Nat → Bs) : St := ⟨junks 4 ++ [.bool false] ++ junks 22, slB false 2 M R :: slB false (2 + R) M R :: (bkl false M R g ++ bkl false M R g)⟩
noncomputable def KbE : CallerT := addK 80 (selRun Bs.runEqS) extK
theorem KbE_ok : CallerTOk Try.prog KbE := addK_ok Bs.eq_ok extK_ok
noncomputable def obE (R M : Nat) (g : Nat → Bs) (k : Nat) : Bool := andB (andB (inB (Int.ofNat k) R) (andB (Nat.blt k R) (andB (inB (Int.ofNat k) R) (andB (Nat.blt k R) (andB (Bs.okE M (g (ix R k))) true))))) true
def tbM (R M : Nat) (g : Nat → Bs) (z : Int) (k : Nat) : Tr (AX × St) := .node (decide (Int.ofNat k < (R : Int))) (.leaf (.nrm, SbM R M (gset g (ix R k) (Bs.mz z)) (z + 1 * (M : Int)) (IntKind.i64.wrap (Int.ofNat k + 1)))) (.leaf (.ext 0, EbM R M g z))
def tbH (R M : Nat) (g : Nat → Bs) (z : Int) (k : Nat) : Tr (AX × St) := .node (decide (Int.ofNat k < (R : Int))) (.node (decide (z + 1 * (M : Int) < 0)) (.leaf (.ret, RbH R M g (z + 1 * (M : Int)))) (.leaf (.nrm, SbH R M g (z + 1 * (M : Int)) (IntKind.i64.wrap (Int.ofNat k + 1))))) (.leaf (.ext 0, EbH R M g z))
def tbE (R M : Nat) (g : Nat → Bs) (k : Nat) : Tr (AX × St) := .node (decide (Int.ofNat k < (R : Int))) (.node false (.leaf (.ret, RbE R M g)) (.leaf (.nrm, SbE R M g (IntKind.i64.wrap (Int.ofNat k + 1))))) (.leaf (.ext 0, EbE R M g))
theorem stM10 (M : Nat) (g : Nat → Bs) (z : Int) : evC JS Try.prog (callF Try.prog KbM 20 8) noL 20 (loopN Try.prog 83 3) (SbM 1 M g z (Int.ofNat 0)) (kG 2 [0, 1, 5] [1] none none) = some (tbM 1 M g z 0, andB (impB (decide (Int.ofNat 0 < ((1 : Nat) : Int))) (obM 1 M g z 0)) true) := by kernel_rfl
theorem stH10 (M : Nat) (g : Nat → Bs) (z : Int) : evC JS Try.prog (callF Try.prog KbH 20 8) noL 20 (loopN Try.prog 87 3) (SbH 1 M g z (Int.ofNat 0)) (kG 2 [0, 1, 5] [1, 4] none none) = some (tbH 1 M g z 0, andB (impB (decide (Int.ofNat 0 < ((1 : Nat) : Int))) (obH 1 M g z 0)) true) := by kernel_rfl
theorem stE10 (M : Nat) (g : Nat → Bs) : evC JS Try.prog (callF Try.prog KbE 20 8) noL 20 (loopN Try.prog 79 5) (SbE 1 M g (Int.ofNat 0)) (kG 4 [0, 1, 5] [4] none none) = some (tbE 1 M g 0, andB (impB (decide (Int.ofNat 0 < ((1 : Nat) : Int))) (obE 1 M g 0)) true) := by kernel_rfl
theorem stM11 (M : Nat) (g : Nat → Bs) (z : Int) : evC JS Try.prog (callF Try.prog KbM 20 8) noL 20 (loopN Try.prog 83 3) (SbM 1 M g z (Int.ofNat 1)) (kG 2 [0, 1, 5] [1] none none) = some (tbM 1 M g z 1, andB (impB (decide (Int.ofNat 1 < ((1 : Nat) : Int))) (obM 1 M g z 1)) true) := by kernel_rfl
theorem stH11 (M : Nat) (g : Nat → Bs) (z : Int) : evC JS Try.prog (callF Try.prog KbH 20 8) noL 20 (loopN Try.prog 87 3) (SbH 1 M g z (Int.ofNat 1)) (kG 2 [0, 1, 5] [1, 4] none none) = some (tbH 1 M g z 1, andB (impB (decide (Int.ofNat 1 < ((1 : Nat) : Int))) (obH 1 M g z 1)) true) := by kernel_rfl
theorem stE11 (M : Nat) (g : Nat → Bs) : evC JS Try.prog (callF Try.prog KbE 20 8) noL 20 (loopN Try.prog 79 5) (SbE 1 M g (Int.ofNat 1)) (kG 4 [0, 1, 5] [4] none none) = some (tbE 1 M g 1, andB (impB (decide (Int.ofNat 1 < ((1 : Nat) : Int))) (obE 1 M g 1)) true) := by kernel_rfl
theorem stM20 (M : Nat) (g : Nat → Bs) (z : Int) : evC JS Try.prog (callF Try.prog KbM 20 8) noL 20 (loopN Try.prog 83 3) (SbM 2 M g z (Int.ofNat 0)) (kG 3 [0, 1, 5] [1] none none) = some (tbM 2 M g z 0, andB (impB (decide (Int.ofNat 0 < ((2 : Nat) : Int))) (obM 2 M g z 0)) true) := by kernel_rfl
theorem stH20 (M : Nat) (g : Nat → Bs) (z : Int) : evC JS Try.prog (callF Try.prog KbH 20 8) noL 20 (loopN Try.prog 87 3) (SbH 2 M g z (Int.ofNat 0)) (kG 3 [0, 1, 5] [1, 4] none none) = some (tbH 2 M g z 0, andB (impB (decide (Int.ofNat 0 < ((2 : Nat) : Int))) (obH 2 M g z 0)) true) := by kernel_rfl
theorem stE20 (M : Nat) (g : Nat → Bs) : evC JS Try.prog (callF Try.prog KbE 20 8) noL 20 (loopN Try.prog 79 5) (SbE 2 M g (Int.ofNat 0)) (kG 6 [0, 1, 5] [4] none none) = some (tbE 2 M g 0, andB (impB (decide (Int.ofNat 0 < ((2 : Nat) : Int))) (obE 2 M g 0)) true) := by kernel_rfl
theorem stM21 (M : Nat) (g : Nat → Bs) (z : Int) : evC JS Try.prog (callF Try.prog KbM 20 8) noL 20 (loopN Try.prog 83 3) (SbM 2 M g z (Int.ofNat 1)) (kG 3 [0, 1, 5] [1] none none) = some (tbM 2 M g z 1, andB (impB (decide (Int.ofNat 1 < ((2 : Nat) : Int))) (obM 2 M g z 1)) true) := by kernel_rfl
theorem stH21 (M : Nat) (g : Nat → Bs) (z : Int) : evC JS Try.prog (callF Try.prog KbH 20 8) noL 20 (loopN Try.prog 87 3) (SbH 2 M g z (Int.ofNat 1)) (kG 3 [0, 1, 5] [1, 4] none none) = some (tbH 2 M g z 1, andB (impB (decide (Int.ofNat 1 < ((2 : Nat) : Int))) (obH 2 M g z 1)) true) := by kernel_rfl
theorem stE21 (M : Nat) (g : Nat → Bs) : evC JS Try.prog (callF Try.prog KbE 20 8) noL 20 (loopN Try.prog 79 5) (SbE 2 M g (Int.ofNat 1)) (kG 6 [0, 1, 5] [4] none none) = some (tbE 2 M g 1, andB (impB (decide (Int.ofNat 1 < ((2 : Nat) : Int))) (obE 2 M g 1)) true) := by kernel_rfl
theorem stM22 (M : Nat) (g : Nat → Bs) (z : Int) : evC JS Try.prog (callF Try.prog KbM 20 8) noL 20 (loopN Try.prog 83 3) (SbM 2 M g z (Int.ofNat 2)) (kG 3 [0, 1, 5] [1] none none) = some (tbM 2 M g z 2, andB (impB (decide (Int.ofNat 2 < ((2 : Nat) : Int))) (obM 2 M g z 2)) true) := by kernel_rfl
theorem stH22 (M : Nat) (g : Nat → Bs) (z : Int) : evC JS Try.prog (callF Try.prog KbH 20 8) noL 20 (loopN Try.prog 87 3) (SbH 2 M g z (Int.ofNat 2)) (kG 3 [0, 1, 5] [1, 4] none none) = some (tbH 2 M g z 2, andB (impB (decide (Int.ofNat 2 < ((2 : Nat) : Int))) (obH 2 M g z 2)) true) := by kernel_rfl
theorem stE22 (M : Nat) (g : Nat → Bs) : evC JS Try.prog (callF Try.prog KbE 20 8) noL 20 (loopN Try.prog 79 5) (SbE 2 M g (Int.ofNat 2)) (kG 6 [0, 1, 5] [4] none none) = some (tbE 2 M g 2, andB (impB (decide (Int.ofNat 2 < ((2 : Nat) : Int))) (obE 2 M g 2)) true) := by kernel_rfl
theorem stM30 (M : Nat) (g : Nat → Bs) (z : Int) : evC JS Try.prog (callF Try.prog KbM 20 8) noL 20 (loopN Try.prog 83 3) (SbM 3 M g z (Int.ofNat 0)) (kG 4 [0, 1, 5] [1] none none) = some (tbM 3 M g z 0, andB (impB (decide (Int.ofNat 0 < ((3 : Nat) : Int))) (obM 3 M g z 0)) true) := by kernel_rfl
theorem stH30 (M : Nat) (g : Nat → Bs) (z : Int) : evC JS Try.prog (callF Try.prog KbH 20 8) noL 20 (loopN Try.prog 87 3) (SbH 3 M g z (Int.ofNat 0)) (kG 4 [0, 1, 5] [1, 4] none none) = some (tbH 3 M g z 0, andB (impB (decide (Int.ofNat 0 < ((3 : Nat) : Int))) (obH 3 M g z 0)) true) := by kernel_rfl
theorem stE30 (M : Nat) (g : Nat → Bs) : evC JS Try.prog (callF Try.prog KbE 20 8) noL 20 (loopN Try.prog 79 5) (SbE 3 M g (Int.ofNat 0)) (kG 8 [0, 1, 5] [4] none none) = some (tbE 3 M g 0, andB (impB (decide (Int.ofNat 0 < ((3 : Nat) : Int))) (obE 3 M g 0)) true) := by kernel_rfl
theorem stM31 (M : Nat) (g : Nat → Bs) (z : Int) : evC JS Try.prog (callF Try.prog KbM 20 8) noL 20 (loopN Try.prog 83 3) (SbM 3 M g z (Int.ofNat 1)) (kG 4 [0, 1, 5] [1] none none) = some (tbM 3 M g z 1, andB (impB (decide (Int.ofNat 1 < ((3 : Nat) : Int))) (obM 3 M g z 1)) true) := by kernel_rfl
theorem stH31 (M : Nat) (g : Nat → Bs) (z : Int) : evC JS Try.prog (callF Try.prog KbH 20 8) noL 20 (loopN Try.prog 87 3) (SbH 3 M g z (Int.ofNat 1)) (kG 4 [0, 1, 5] [1, 4] none none) = some (tbH 3 M g z 1, andB (impB (decide (Int.ofNat 1 < ((3 : Nat) : Int))) (obH 3 M g z 1)) true) := by kernel_rfl
theorem stE31 (M : Nat) (g : Nat → Bs) : evC JS Try.prog (callF Try.prog KbE 20 8) noL 20 (loopN Try.prog 79 5) (SbE 3 M g (Int.ofNat 1)) (kG 8 [0, 1, 5] [4] none none) = some (tbE 3 M g 1, andB (impB (decide (Int.ofNat 1 < ((3 : Nat) : Int))) (obE 3 M g 1)) true) := by kernel_rfl
theorem stM32 (M : Nat) (g : Nat → Bs) (z : Int) : evC JS Try.prog (callF Try.prog KbM 20 8) noL 20 (loopN Try.prog 83 3) (SbM 3 M g z (Int.ofNat 2)) (kG 4 [0, 1, 5] [1] none none) = some (tbM 3 M g z 2, andB (impB (decide (Int.ofNat 2 < ((3 : Nat) : Int))) (obM 3 M g z 2)) true) := by kernel_rfl
theorem stH32 (M : Nat) (g : Nat → Bs) (z : Int) : evC JS Try.prog (callF Try.prog KbH 20 8) noL 20 (loopN Try.prog 87 3) (SbH 3 M g z (Int.ofNat 2)) (kG 4 [0, 1, 5] [1, 4] none none) = some (tbH 3 M g z 2, andB (impB (decide (Int.ofNat 2 < ((3 : Nat) : Int))) (obH 3 M g z 2)) true) := by kernel_rfl
theorem stE32 (M : Nat) (g : Nat → Bs) : evC JS Try.prog (callF Try.prog KbE 20 8) noL 20 (loopN Try.prog 79 5) (SbE 3 M g (Int.ofNat 2)) (kG 8 [0, 1, 5] [4] none none) = some (tbE 3 M g 2, andB (impB (decide (Int.ofNat 2 < ((3 : Nat) : Int))) (obE 3 M g 2)) true) := by kernel_rfl
theorem stM33 (M : Nat) (g : Nat → Bs) (z : Int) : evC JS Try.prog (callF Try.prog KbM 20 8) noL 20 (loopN Try.prog 83 3) (SbM 3 M g z (Int.ofNat 3)) (kG 4 [0, 1, 5] [1] none none) = some (tbM 3 M g z 3, andB (impB (decide (Int.ofNat 3 < ((3 : Nat) : Int))) (obM 3 M g z 3)) true) := by kernel_rfl
theorem stH33 (M : Nat) (g : Nat → Bs) (z : Int) : evC JS Try.prog (callF Try.prog KbH 20 8) noL 20 (loopN Try.prog 87 3) (SbH 3 M g z (Int.ofNat 3)) (kG 4 [0, 1, 5] [1, 4] none none) = some (tbH 3 M g z 3, andB (impB (decide (Int.ofNat 3 < ((3 : Nat) : Int))) (obH 3 M g z 3)) true) := by kernel_rfl
theorem stE33 (M : Nat) (g : Nat → Bs) : evC JS Try.prog (callF Try.prog KbE 20 8) noL 20 (loopN Try.prog 79 5) (SbE 3 M g (Int.ofNat 3)) (kG 8 [0, 1, 5] [4] none none) = some (tbE 3 M g 3, andB (impB (decide (Int.ofNat 3 < ((3 : Nat) : Int))) (obE 3 M g 3)) true) := by kernel_rfl
theorem stM40 (M : Nat) (g : Nat → Bs) (z : Int) : evC JS Try.prog (callF Try.prog KbM 20 8) noL 20 (loopN Try.prog 83 3) (SbM 4 M g z (Int.ofNat 0)) (kG 5 [0, 1, 5] [1] none none) = some (tbM 4 M g z 0, andB (impB (decide (Int.ofNat 0 < ((4 : Nat) : Int))) (obM 4 M g z 0)) true) := by kernel_rfl
theorem stH40 (M : Nat) (g : Nat → Bs) (z : Int) : evC JS Try.prog (callF Try.prog KbH 20 8) noL 20 (loopN Try.prog 87 3) (SbH 4 M g z (Int.ofNat 0)) (kG 5 [0, 1, 5] [1, 4] none none) = some (tbH 4 M g z 0, andB (impB (decide (Int.ofNat 0 < ((4 : Nat) : Int))) (obH 4 M g z 0)) true) := by kernel_rfl
theorem stE40 (M : Nat) (g : Nat → Bs) : evC JS Try.prog (callF Try.prog KbE 20 8) noL 20 (loopN Try.prog 79 5) (SbE 4 M g (Int.ofNat 0)) (kG 10 [0, 1, 5] [4] none none) = some (tbE 4 M g 0, andB (impB (decide (Int.ofNat 0 < ((4 : Nat) : Int))) (obE 4 M g 0)) true) := by kernel_rfl
theorem stM41 (M : Nat) (g : Nat → Bs) (z : Int) : evC JS Try.prog (callF Try.prog KbM 20 8) noL 20 (loopN Try.prog 83 3) (SbM 4 M g z (Int.ofNat 1)) (kG 5 [0, 1, 5] [1] none none) = some (tbM 4 M g z 1, andB (impB (decide (Int.ofNat 1 < ((4 : Nat) : Int))) (obM 4 M g z 1)) true) := by kernel_rfl
theorem stH41 (M : Nat) (g : Nat → Bs) (z : Int) : evC JS Try.prog (callF Try.prog KbH 20 8) noL 20 (loopN Try.prog 87 3) (SbH 4 M g z (Int.ofNat 1)) (kG 5 [0, 1, 5] [1, 4] none none) = some (tbH 4 M g z 1, andB (impB (decide (Int.ofNat 1 < ((4 : Nat) : Int))) (obH 4 M g z 1)) true) := by kernel_rfl
theorem stE41 (M : Nat) (g : Nat → Bs) : evC JS Try.prog (callF Try.prog KbE 20 8) noL 20 (loopN Try.prog 79 5) (SbE 4 M g (Int.ofNat 1)) (kG 10 [0, 1, 5] [4] none none) = some (tbE 4 M g 1, andB (impB (decide (Int.ofNat 1 < ((4 : Nat) : Int))) (obE 4 M g 1)) true) := by kernel_rfl
theorem stM42 (M : Nat) (g : Nat → Bs) (z : Int) : evC JS Try.prog (callF Try.prog KbM 20 8) noL 20 (loopN Try.prog 83 3) (SbM 4 M g z (Int.ofNat 2)) (kG 5 [0, 1, 5] [1] none none) = some (tbM 4 M g z 2, andB (impB (decide (Int.ofNat 2 < ((4 : Nat) : Int))) (obM 4 M g z 2)) true) := by kernel_rfl
theorem stH42 (M : Nat) (g : Nat → Bs) (z : Int) : evC JS Try.prog (callF Try.prog KbH 20 8) noL 20 (loopN Try.prog 87 3) (SbH 4 M g z (Int.ofNat 2)) (kG 5 [0, 1, 5] [1, 4] none none) = some (tbH 4 M g z 2, andB (impB (decide (Int.ofNat 2 < ((4 : Nat) : Int))) (obH 4 M g z 2)) true) := by kernel_rfl
theorem stE42 (M : Nat) (g : Nat → Bs) : evC JS Try.prog (callF Try.prog KbE 20 8) noL 20 (loopN Try.prog 79 5) (SbE 4 M g (Int.ofNat 2)) (kG 10 [0, 1, 5] [4] none none) = some (tbE 4 M g 2, andB (impB (decide (Int.ofNat 2 < ((4 : Nat) : Int))) (obE 4 M g 2)) true) := by kernel_rfl
theorem stM43 (M : Nat) (g : Nat → Bs) (z : Int) : evC JS Try.prog (callF Try.prog KbM 20 8) noL 20 (loopN Try.prog 83 3) (SbM 4 M g z (Int.ofNat 3)) (kG 5 [0, 1, 5] [1] none none) = some (tbM 4 M g z 3, andB (impB (decide (Int.ofNat 3 < ((4 : Nat) : Int))) (obM 4 M g z 3)) true) := by kernel_rfl
theorem stH43 (M : Nat) (g : Nat → Bs) (z : Int) : evC JS Try.prog (callF Try.prog KbH 20 8) noL 20 (loopN Try.prog 87 3) (SbH 4 M g z (Int.ofNat 3)) (kG 5 [0, 1, 5] [1, 4] none none) = some (tbH 4 M g z 3, andB (impB (decide (Int.ofNat 3 < ((4 : Nat) : Int))) (obH 4 M g z 3)) true) := by kernel_rfl
theorem stE43 (M : Nat) (g : Nat → Bs) : evC JS Try.prog (callF Try.prog KbE 20 8) noL 20 (loopN Try.prog 79 5) (SbE 4 M g (Int.ofNat 3)) (kG 10 [0, 1, 5] [4] none none) = some (tbE 4 M g 3, andB (impB (decide (Int.ofNat 3 < ((4 : Nat) : Int))) (obE 4 M g 3)) true) := by kernel_rfl
theorem stM44 (M : Nat) (g : Nat → Bs) (z : Int) : evC JS Try.prog (callF Try.prog KbM 20 8) noL 20 (loopN Try.prog 83 3) (SbM 4 M g z (Int.ofNat 4)) (kG 5 [0, 1, 5] [1] none none) = some (tbM 4 M g z 4, andB (impB (decide (Int.ofNat 4 < ((4 : Nat) : Int))) (obM 4 M g z 4)) true) := by kernel_rfl
theorem stH44 (M : Nat) (g : Nat → Bs) (z : Int) : evC JS Try.prog (callF Try.prog KbH 20 8) noL 20 (loopN Try.prog 87 3) (SbH 4 M g z (Int.ofNat 4)) (kG 5 [0, 1, 5] [1, 4] none none) = some (tbH 4 M g z 4, andB (impB (decide (Int.ofNat 4 < ((4 : Nat) : Int))) (obH 4 M g z 4)) true) := by kernel_rfl
theorem stE44 (M : Nat) (g : Nat → Bs) : evC JS Try.prog (callF Try.prog KbE 20 8) noL 20 (loopN Try.prog 79 5) (SbE 4 M g (Int.ofNat 4)) (kG 10 [0, 1, 5] [4] none none) = some (tbE 4 M g 4, andB (impB (decide (Int.ofNat 4 < ((4 : Nat) : Int))) (obE 4 M g 4)) true) := by kernel_rfl
theorem stM {R : Nat} (h1 : 1 ≤ R) (h2 : R ≤ 4) (M : Nat) (g : Nat → Bs) (z : Int) {k : Nat} (hk : k ≤ R) : evC JS Try.prog (callF Try.prog KbM 20 8) noL 20 (loopN Try.prog 83 3) (SbM R M g z (Int.ofNat k)) (kG (1 + R) [0, 1, 5] [1] none none) = some (tbM R M g z k, andB (impB (decide (Int.ofNat k < (R : Int))) (obM R M g z k)) true) := by
  have hR : R = 1 ∨ R = 2 ∨ R = 3 ∨ R = 4 := by omega
  rcases hR with rfl | rfl | rfl | rfl
  · have hk' : k = 0 ∨ k = 1 := by omega
    rcases hk' with rfl | rfl
    · exact stM10 M g z
    · exact stM11 M g z
  · have hk' : k = 0 ∨ k = 1 ∨ k = 2 := by omega
    rcases hk' with rfl | rfl | rfl
    · exact stM20 M g z
    · exact stM21 M g z
    · exact stM22 M g z
  · have hk' : k = 0 ∨ k = 1 ∨ k = 2 ∨ k = 3 := by omega
    rcases hk' with rfl | rfl | rfl | rfl
    · exact stM30 M g z
    · exact stM31 M g z
    · exact stM32 M g z
    · exact stM33 M g z
  · have hk' : k = 0 ∨ k = 1 ∨ k = 2 ∨ k = 3 ∨ k = 4 := by omega
    rcases hk' with rfl | rfl | rfl | rfl | rfl
    · exact stM40 M g z
    · exact stM41 M g z
    · exact stM42 M g z
    · exact stM43 M g z
    · exact stM44 M g z
theorem stH {R : Nat} (h1 : 1 ≤ R) (h2 : R ≤ 4) (M : Nat) (g : Nat → Bs) (z : Int) {k : Nat} (hk : k ≤ R) : evC JS Try.prog (callF Try.prog KbH 20 8) noL 20 (loopN Try.prog 87 3) (SbH R M g z (Int.ofNat k)) (kG (1 + R) [0, 1, 5] [1, 4] none none) = some (tbH R M g z k, andB (impB (decide (Int.ofNat k < (R : Int))) (obH R M g z k)) true) := by
  have hR : R = 1 ∨ R = 2 ∨ R = 3 ∨ R = 4 := by omega
  rcases hR with rfl | rfl | rfl | rfl
  · have hk' : k = 0 ∨ k = 1 := by omega
    rcases hk' with rfl | rfl
    · exact stH10 M g z
    · exact stH11 M g z
  · have hk' : k = 0 ∨ k = 1 ∨ k = 2 := by omega
    rcases hk' with rfl | rfl | rfl
    · exact stH20 M g z
    · exact stH21 M g z
    · exact stH22 M g z
  · have hk' : k = 0 ∨ k = 1 ∨ k = 2 ∨ k = 3 := by omega
    rcases hk' with rfl | rfl | rfl | rfl
    · exact stH30 M g z
    · exact stH31 M g z
    · exact stH32 M g z
    · exact stH33 M g z
  · have hk' : k = 0 ∨ k = 1 ∨ k = 2 ∨ k = 3 ∨ k = 4 := by omega
    rcases hk' with rfl | rfl | rfl | rfl | rfl
    · exact stH40 M g z
    · exact stH41 M g z
    · exact stH42 M g z
    · exact stH43 M g z
    · exact stH44 M g z
theorem stE {R : Nat} (h1 : 1 ≤ R) (h2 : R ≤ 4) (M : Nat) (g : Nat → Bs) {k : Nat} (hk : k ≤ R) : evC JS Try.prog (callF Try.prog KbE 20 8) noL 20 (loopN Try.prog 79 5) (SbE R M g (Int.ofNat k)) (kG (2 + 2 * R) [0, 1, 5] [4] none none) = some (tbE R M g k, andB (impB (decide (Int.ofNat k < (R : Int))) (obE R M g k)) true) := by
  have hR : R = 1 ∨ R = 2 ∨ R = 3 ∨ R = 4 := by omega
  rcases hR with rfl | rfl | rfl | rfl
  · have hk' : k = 0 ∨ k = 1 := by omega
    rcases hk' with rfl | rfl
    · exact stE10 M g
    · exact stE11 M g
  · have hk' : k = 0 ∨ k = 1 ∨ k = 2 := by omega
    rcases hk' with rfl | rfl | rfl
    · exact stE20 M g
    · exact stE21 M g
    · exact stE22 M g
  · have hk' : k = 0 ∨ k = 1 ∨ k = 2 ∨ k = 3 := by omega
    rcases hk' with rfl | rfl | rfl | rfl
    · exact stE30 M g
    · exact stE31 M g
    · exact stE32 M g
    · exact stE33 M g
  · have hk' : k = 0 ∨ k = 1 ∨ k = 2 ∨ k = 3 ∨ k = 4 := by omega
    rcases hk' with rfl | rfl | rfl | rfl | rfl
    · exact stE40 M g
    · exact stE41 M g
    · exact stE42 M g
    · exact stE43 M g
    · exact stE44 M g
theorem mulB {R M k : Nat} (h2 : R ≤ 4) (hk : k ≤ R) (hM : M ≤ 1000000) : 0 ≤ (k : Int) * (M : Int) ∧ (k : Int) * (M : Int) ≤ 4000000 ∧ ((k + 1 : Nat) : Int) * (M : Int) = (k : Int) * (M : Int) + M := by
  have h : k * M ≤ 4 * M := Nat.mul_le_mul_right _ (by omega)
  have e : (k : Int) * (M : Int) = ((k * M : Nat) : Int) := by simp
  refine ⟨by omega, by omega, ?_⟩
  rw [show ((k + 1 : Nat) : Int) = (k : Int) + 1 by omega, Int.add_mul, Int.one_mul]
theorem wrap_k {k : Nat} (h : k ≤ 1000) : IntKind.i64.wrap (Int.ofNat k + 1) = Int.ofNat (k + 1) := wrap_i64 (n := Int.ofNat k + 1) (by simp only [Int.ofNat_eq_natCast]; omega) (by simp only [Int.ofNat_eq_natCast]; omega)
theorem loopM {R : Nat} (h1 : 1 ≤ R) (h2 : R ≤ 4) {M : Nat} (hM : M ≤ 1000000) (g : Nat → Bs) {z : Int} (h0 : 0 ≤ z) (hz : z ≤ 1073741824) : LoopOk Try.prog (1 + R) (loopN Try.prog 83 3) (SbM R M g z 0) (.leaf (.ext 0, EbM R M (mzs z M) (z + (R : Int) * (M : Int)))) := by
  have hf := few_eq
  have key := loop_all (callF_ok sxApart sxMixed KbM_ok (N := 20) 8) sxMixed (N := 20) (L := noL) (B := 1 + R) (body := loopN Try.prog 83 3) (fun _ _ _ _ h => by cases h) [0, 1, 5] [1] none none (fun k => SbM R M (upz g z M k) (z + (k : Int) * (M : Int)) (Int.ofNat k)) R (.ext 0, EbM R M (mzs z M) (z + (R : Int) * (M : Int))) (fun h => by cases h)
    (fun k hk => by
      obtain ⟨a1, a2, a3⟩ := mulB (k := k) h2 (by omega) hM
      have ho : obM R M (upz g z M k) (z + (k : Int) * (M : Int)) k = true := by
        unfold obM; rw [inB_nat hk, blt_lt hk, Bs.okM_true (Nat.ble_eq_true_of_le (by omega)) _ (by omega) (by omega)]; rfl
      refine ⟨_, by rw [stM h1 h2 _ _ _ (Nat.le_of_lt hk), ho, ofNat_lt, decide_eq_true hk]; rfl, XLe.of_eq ?_⟩
      unfold tbM
      rw [ofNat_lt, decide_eq_true hk, ix_lt hk]
      show (AX.nrm, SbM R M (gset (upz g z M k) k (Bs.mz (z + (k : Int) * (M : Int)))) (z + (k : Int) * (M : Int) + 1 * (M : Int)) (IntKind.i64.wrap (Int.ofNat k + 1))) = _
      rw [show gset (upz g z M k) k (Bs.mz (z + (k : Int) * (M : Int))) = upz g z M (k + 1) from funext (upz_set g z M k), wrap_k (by omega), a3, Int.one_mul, Int.add_assoc])
    (by
      refine ⟨_, by rw [stM h1 h2 _ _ _ (Nat.le_refl R), ofNat_lt, decide_eq_false (Nat.lt_irrefl R), imp_ff], XLe.of_eq ?_⟩
      unfold tbM
      rw [ofNat_lt, decide_eq_false (Nat.lt_irrefl R)]
      show (AX.ext 0, EbM R M (upz g z M R) _) = _
      unfold EbM
      rw [bkl_congr h1 h2 true M (g := upz g z M R) (g' := mzs z M) fun i hi => by unfold upz; rw [blt_lt hi]; rfl])
  refine key.from ⟨?_, ?_⟩
  · simp only [SbM, Int.natCast_zero, Int.zero_mul, Int.add_zero]; rfl
  · show HLe _ _
    unfold SbM
    rw [bkl_congr h1 h2 true M (g := upz g z M 0) (g' := g) fun i hi => by unfold upz; rw [blt_ge (Nat.zero_le i)]; rfl]
    exact HLe.refl _
theorem loopH {R : Nat} (h1 : 1 ≤ R) (h2 : R ≤ 4) {M : Nat} (hM : M ≤ 1000000) {z : Int} (h0 : 0 ≤ z) (hz : z ≤ 1073741824) : LoopOk Try.prog (1 + R) (loopN Try.prog 87 3) (SbH R M (mzs z M) z 0) (.leaf (.ext 0, EbH R M (mzs z M) (z + (R : Int) * (M : Int)))) := by
  have hf := few_eq
  have key := loop_all (callF_ok sxApart sxMixed KbH_ok (N := 20) 8) sxMixed (N := 20) (L := noL) (B := 1 + R) (body := loopN Try.prog 87 3) (fun _ _ _ _ h => by cases h) [0, 1, 5] [1, 4] none none (fun k => SbH R M (mzs z M) (z + (k : Int) * (M : Int)) (Int.ofNat k)) R (.ext 0, EbH R M (mzs z M) (z + (R : Int) * (M : Int))) (fun h => by cases h)
    (fun k hk => by
      obtain ⟨a1, a2, a3⟩ := mulB (k := k) h2 (by omega) hM
      have ho : obH R M (mzs z M) (z + (k : Int) * (M : Int)) k = true := by
        unfold obH okHg
        rw [inB_nat hk, blt_lt hk, ix_lt hk, pB_true (show Bs.ro1 M (mzs z M k) = Bs.ro1 M (Bs.mz (z + (k : Int) * (M : Int))) from rfl), Nat.ble_eq_true_of_le (show M ≤ few by omega), decide_eq_true (show 0 ≤ z + (k : Int) * (M : Int) by omega), decide_eq_true (show z + (k : Int) * (M : Int) ≤ 1099511627776 by omega)]; rfl
      refine ⟨_, by rw [stH h1 h2 _ _ _ (Nat.le_of_lt hk), ho, ofNat_lt, decide_eq_true hk]; rfl, XLe.of_eq ?_⟩
      unfold tbH
      rw [ofNat_lt, decide_eq_true hk, decide_eq_false (show ¬ (z + (k : Int) * (M : Int) + 1 * (M : Int) < 0) by omega)]
      show (AX.nrm, SbH R M (mzs z M) (z + (k : Int) * (M : Int) + 1 * (M : Int)) (IntKind.i64.wrap (Int.ofNat k + 1))) = _
      rw [wrap_k (by omega), a3, Int.one_mul, Int.add_assoc])
    (by
      refine ⟨_, by rw [stH h1 h2 _ _ _ (Nat.le_refl R), ofNat_lt, decide_eq_false (Nat.lt_irrefl R), imp_ff], XLe.of_eq ?_⟩
      unfold tbH
      rw [ofNat_lt, decide_eq_false (Nat.lt_irrefl R)]
      rfl)
  refine key.from ⟨?_, HLe.refl _⟩
  simp only [SbH, Int.natCast_zero, Int.zero_mul, Int.add_zero]; rfl
theorem loopE {R : Nat} (h1 : 1 ≤ R) (h2 : R ≤ 4) {M : Nat} (hM : M ≤ few) (g : Nat → Bs) : LoopOk Try.prog (2 + 2 * R) (loopN Try.prog 79 5) (SbE R M g 0) (.leaf (.ext 0, EbE R M g)) := by
  exact loop_all (callF_ok sxApart sxMixed KbE_ok (N := 20) 8) sxMixed (N := 20) (L := noL) (B := 2 + 2 * R) (body := loopN Try.prog 79 5) (fun _ _ _ _ h => by cases h) [0, 1, 5] [4] none none (fun k => SbE R M g (Int.ofNat k)) R (.ext 0, EbE R M g) (fun h => by cases h)
    (fun k hk => by
      have ho : obE R M g k = true := by
        unfold obE
        rw [inB_nat hk, blt_lt hk, Bs.okE_true (Nat.ble_eq_true_of_le hM)]; rfl
      refine ⟨_, by rw [stE h1 h2 _ _ (Nat.le_of_lt hk), ho, ofNat_lt, decide_eq_true hk]; rfl, XLe.of_eq ?_⟩
      unfold tbE
      rw [ofNat_lt, decide_eq_true hk]
      show (AX.nrm, SbE R M g (IntKind.i64.wrap (Int.ofNat k + 1))) = _
      rw [wrap_k (by omega)])
    (by
      refine ⟨_, by rw [stE h1 h2 _ _ (Nat.le_refl R), ofNat_lt, decide_eq_false (Nat.lt_irrefl R), imp_ff], XLe.of_eq ?_⟩
      unfold tbE
      rw [ofNat_lt, decide_eq_false (Nat.lt_irrefl R)]
      rfl)
-- contracts
noncomputable def bdZ (M : Nat) (z : Int) : Bool := andB (Nat.ble M 1000000) (andB (decide (0 ≤ z)) (decide (z ≤ 1073741824)))
theorem bdZ_of {M : Nat} {z : Int} (h : bdZ M z = true) : M ≤ 1000000 ∧ 0 ≤ z ∧ z ≤ 1073741824 := by
  obtain ⟨h1, h⟩ := andB_true h
  obtain ⟨h2, h3⟩ := andB_true h
  exact ⟨Nat.le_of_ble_eq_true h1, of_decide_eq_true h2, of_decide_eq_true h3⟩
theorem bdZ_true {M : Nat} {z : Int} (h1 : M ≤ 1000000) (h2 : 0 ≤ z) (h3 : z ≤ 1073741824) : bdZ M z = true := by unfold bdZ; rw [Nat.ble_eq_true_of_le h1, decide_eq_true h2, decide_eq_true h3]; rfl
/-- memory: a block of rows that name what lies behind it -/
theorem one_mem {w : Bool} {R : Nat} {H : List Blk} {tl : List Blk} (h : shR w R H 0 = true) (hd : H.drop 1 = tl) : H = .rows w R 1 (bF H 0) :: tl := by
  have h0 := shR_of h
  cases H with
  | nil => cases h0
  | cons x t =>
    have : some x = some (.rows w R 1 (bF (x :: t) 0)) := h0
    simp only [Option.some.injEq] at this
    rw [← this, ← hd]; rfl
noncomputable def okMk (R : Nat) (H : List Blk) (r : Nat) (z : Int) : Bool := andB (Nat.beq r R) (andB (shR true R H 0) (andB (slT 1 (bN H 1) (bF H 0) R) (andB (pB (∃ g, H.drop 1 = bkl true (bN H 1) R g)) (bdZ (bN H 1) z))))
noncomputable def runBM (R : Nat) : List AV → List Blk → Option Lf := fun args H => match args.map delit with
  | [.slc 0 0 r, .int .i64 z] => some (.leaf (.int .i64 (z + (R : Int) * (bN H 1 : Int)), some (.rows true R 1 (canT 1 (bN H 1) R) :: bkl true (bN H 1) R (mzs z (bN H 1)))), okMk R H r z)
  | _ => none
noncomputable def okHd (R : Nat) (H : List Blk) (r : Nat) (z : Int) : Bool := andB (Nat.beq r R) (andB (shR false R H 0) (andB (slT 1 (bN H 1) (bF H 0) R) (andB (pB (H.drop 1 = bkl false (bN H 1) R (mzs z (bN H 1)))) (bdZ (bN H 1) z))))
noncomputable def runBH (R : Nat) : List AV → List Blk → Option Lf := fun args H => match args.map delit with
  | [.slc 0 0 r, .int .i64 z] => some (.leaf (.int .i64 (z + (R : Int) * (bN H 1 : Int)), none), okHd R H r z)
  | _ => none
noncomputable def okEq (R : Nat) (H : List Blk) (r r' : Nat) : Bool := andB (Nat.beq r R) (andB (Nat.beq r' R) (andB (shR false R H 0) (andB (shR false R H 1) (andB (slT 2 (bN H 2) (bF H 0) R) (andB (slT (2 + R) (bN H 2) (bF H 1) R) (andB (pB (∃ g, H.drop 2 = bkl false (bN H 2) R g ++ bkl false (bN H 2) R g)) (Nat.ble (bN H 2) few)))))))
noncomputable def runBE (R : Nat) : List AV → List Blk → Option Lf := fun args H => match args.map delit with
  | [.slc 0 0 r, .slc 1 0 r'] => some (.leaf (.bool true, none), okEq R H r r')
  | _ => none
theorem can_slB (w : Bool) (b M R : Nat) : BLe (slB w b M R) (.rows w R 1 (canT b M R)) := BLe.rows fun i hi => by
  show tab (rowsL (can b M) 0 R) i = _
  rw [tab_rows (can b M) R 0 i hi, Nat.zero_add]
  unfold canM
  rw [ix_lt hi]; rfl
theorem bM_ok {R : Nat} (h1 : 1 ≤ R) (h2 : R ≤ 4) : SumOk Try.prog 83 (selRunR (refX R) (runBM R)) := sum_selR sxApart sxMixed fun args H t hr _ => by
  unfold runBM at hr
  split at hr
  case h_2 => cases hr
  rename_i r z hargs
  simp only [Option.some.injEq, Prod.mk.injEq] at hr
  obtain ⟨rfl, hr⟩ := hr
  obtain ⟨g1, hr⟩ := andB_true hr
  obtain ⟨g2, hr⟩ := andB_true hr
  obtain ⟨g3, hr⟩ := andB_true hr
  obtain ⟨g4, g5⟩ := andB_true hr
  have g1 := Nat.eq_of_beq_eq_true g1
  subst g1
  obtain ⟨g, hd⟩ := pB_of g4
  obtain ⟨b1, b2, b3⟩ := bdZ_of g5
  have hH := one_mem g2 hd
  generalize bN H 1 = M at *
  refine ⟨KbM, loopAt 3 [0, 1, 5] (SbM r M g z 0) (.leaf (.ext 0, EbM r M (mzs z M) (z + (r : Int) * (M : Int)))) noL, 20, 8, .leaf (.int .i64 (z + (r : Int) * (M : Int)), some (slB true 1 M r :: bkl true M r (mzs z M))), [.slc 0 0 r, .int .i64 z], slB true 1 M r :: bkl true M r g, ?_, KbM_ok, loopAt_all (B := (slB true 1 M r :: bkl true M r g).length) (by decide +kernel) ?_ noL_all, fun ρ vals hv => by rw [← hargs]; exact delits_rel hv, ?_, ⟨rfl, can_slB _ _ _ _, HLe.refl _⟩⟩
  · rw [hH]; exact ⟨slT_can g3 true, HLe.refl _⟩
  · rw [List.length_cons, bkl_len h1 h2, Nat.add_comm]; exact loopM h1 h2 b1 g b2 b3
  · have h : evM Try.prog KbM (loopAt 3 [0, 1, 5] (SbM r M g z 0) (.leaf (.ext 0, EbM r M (mzs z M) (z + (r : Int) * (M : Int)))) noL) 20 8 83 [.slc 0 0 r, .int .i64 z] (slB true 1 M r :: bkl true M r g) = some (.leaf (.int .i64 (z + (r : Int) * (M : Int)), some (slB true 1 M r :: bkl true M r (mzs z M))), andB (deqS (SbM r M g z 0) (SbM r M g z 0)) true) := by kernel_rfl
    rw [deqS_self] at h
    exact h
theorem evH1 (M : Nat) (g : Nat → Bs) (z y : Int) : evF Try.prog KbH (loopAt 3 [0, 1, 5] (SbH 1 M g z 0) (.leaf (.ext 0, EbH 1 M g y)) noL) 20 8 87 [.slc 0 0 1, .int .i64 z] (slB false 1 M 1 :: bkl false M 1 g) = some (.leaf (.int .i64 y, none), andB (deqS (SbH 1 M g z 0) (SbH 1 M g z 0)) true) := by kernel_rfl
theorem evE1 (M : Nat) (g : Nat → Bs) : evF Try.prog KbE (loopAt 5 [0, 1, 5] (SbE 1 M g 0) (.leaf (.ext 0, EbE 1 M g)) noL) 20 8 79 [.slc 0 0 1, .slc 1 0 1] (slB false 2 M 1 :: slB false (2 + 1) M 1 :: (bkl false M 1 g ++ bkl false M 1 g)) = some (.leaf (.bool (cond (cond (((1 : Nat) : Int) == ((1 : Nat) : Int)) false true) false true), none), ob2 (cond (((1 : Nat) : Int) == ((1 : Nat) : Int)) false true) true (andB (deqS (SbE 1 M g 0) (SbE 1 M g 0)) true)) := by kernel_rfl
theorem evH2 (M : Nat) (g : Nat → Bs) (z y : Int) : evF Try.prog KbH (loopAt 3 [0, 1, 5] (SbH 2 M g z 0) (.leaf (.ext 0, EbH 2 M g y)) noL) 20 8 87 [.slc 0 0 2, .int .i64 z] (slB false 1 M 2 :: bkl false M 2 g) = some (.leaf (.int .i64 y, none), andB (deqS (SbH 2 M g z 0) (SbH 2 M g z 0)) true) := by kernel_rfl
theorem evE2 (M : Nat) (g : Nat → Bs) : evF Try.prog KbE (loopAt 5 [0, 1, 5] (SbE 2 M g 0) (.leaf (.ext 0, EbE 2 M g)) noL) 20 8 79 [.slc 0 0 2, .slc 1 0 2] (slB false 2 M 2 :: slB false (2 + 2) M 2 :: (bkl false M 2 g ++ bkl false M 2 g)) = some (.leaf (.bool (cond (cond (((2 : Nat) : Int) == ((2 : Nat) : Int)) false true) false true), none), ob2 (cond (((2 : Nat) : Int) == ((2 : Nat) : Int)) false true) true (andB (deqS (SbE 2 M g 0) (SbE 2 M g 0)) true)) := by kernel_rfl
theorem evH3 (M : Nat) (g : Nat → Bs) (z y : Int) : evF Try.prog KbH (loopAt 3 [0, 1, 5] (SbH 3 M g z 0) (.leaf (.ext 0, EbH 3 M g y)) noL) 20 8 87 [.slc 0 0 3, .int .i64 z] (slB false 1 M 3 :: bkl false M 3 g) = some (.leaf (.int .i64 y, none), andB (deqS (SbH 3 M g z 0) (SbH 3 M g z 0)) true) := by kernel_rfl
theorem evE3 (M : Nat) (g : Nat → Bs) : evF Try.prog KbE (loopAt 5 [0, 1, 5] (SbE 3 M g 0) (.leaf (.ext 0, EbE 3 M g)) noL) 20 8 79 [.slc 0 0 3, .slc 1 0 3] (slB false 2 M 3 :: slB false (2 + 3) M 3 :: (bkl false M 3 g ++ bkl false M 3 g)) = some (.leaf (.bool (cond (cond (((3 : Nat) : Int) == ((3 : Nat) : Int)) false true) false true), none), ob2 (cond (((3 : Nat) : Int) == ((3 : Nat) : Int)) false true) true (andB (deqS (SbE 3 M g 0) (SbE 3 M g 0)) true)) := by kernel_rfl
theorem evH4 (M : Nat) (g : Nat → Bs) (z y : Int) : evF Try.prog KbH (loopAt 3 [0, 1, 5] (SbH 4 M g z 0) (.leaf (.ext 0, EbH 4 M g y)) noL) 20 8 87 [.slc 0 0 4, .int .i64 z] (slB false 1 M 4 :: bkl false M 4 g) = some (.leaf (.int .i64 y, none), andB (deqS (SbH 4 M g z 0) (SbH 4 M g z 0)) true) := by kernel_rfl
theorem evE4 (M : Nat) (g : Nat → Bs) : evF Try.prog KbE (loopAt 5 [0, 1, 5] (SbE 4 M g 0) (.leaf (.ext 0, EbE 4 M g)) noL) 20 8 79 [.slc 0 0 4, .slc 1 0 4] (slB false 2 M 4 :: slB false (2 + 4) M 4 :: (bkl false M 4 g ++ bkl false M 4 g)) = some (.leaf (.bool (cond (cond (((4 : Nat) : Int) == ((4 : Nat) : Int)) false true) false true), none), ob2 (cond (((4 : Nat) : Int) == ((4 : Nat) : Int)) false true) true (andB (deqS (SbE 4 M g 0) (SbE 4 M g 0)) true)) := by kernel_rfl
theorem evH {R : Nat} (h1 : 1 ≤ R) (h2 : R ≤ 4) (M : Nat) (g : Nat → Bs) (z y : Int) : evF Try.prog KbH (loopAt 3 [0, 1, 5] (SbH R M g z 0) (.leaf (.ext 0, EbH R M g y)) noL) 20 8 87 [.slc 0 0 R, .int .i64 z] (slB false 1 M R :: bkl false M R g) = some (.leaf (.int .i64 y, none), andB (deqS (SbH R M g z 0) (SbH R M g z 0)) true) := by
  have hR : R = 1 ∨ R = 2 ∨ R = 3 ∨ R = 4 := by omega
  rcases hR with rfl | rfl | rfl | rfl
  · exact evH1 M g z y
  · exact evH2 M g z y
  · exact evH3 M g z y
  · exact evH4 M g z y
theorem evE {R : Nat} (h1 : 1 ≤ R) (h2 : R ≤ 4) (M : Nat) (g : Nat → Bs) : evF Try.prog KbE (loopAt 5 [0, 1, 5] (SbE R M g 0) (.leaf (.ext 0, EbE R M g)) noL) 20 8 79 [.slc 0 0 R, .slc 1 0 R] (slB false 2 M R :: slB false (2 + R) M R :: (bkl false M R g ++ bkl false M R g)) = some (.leaf (.bool (cond (cond ((R : Int) == (R : Int)) false true) false true), none), ob2 (cond ((R : Int) == (R : Int)) false true) true (andB (deqS (SbE R M g 0) (SbE R M g 0)) true)) := by
  have hR : R = 1 ∨ R = 2 ∨ R = 3 ∨ R = 4 := by omega
  rcases hR with rfl | rfl | rfl | rfl
  · exact evE1 M g
  · exact evE2 M g
  · exact evE3 M g
  · exact evE4 M g
theorem bH_ok {R : Nat} (h1 : 1 ≤ R) (h2 : R ≤ 4) : SumOk Try.prog 87 (selRunF (refX R) (runBH R)) := sum_selF sxApart sxMixed fun args H t hr _ => by
  unfold runBH at hr
  split at hr
  case h_2 => cases hr
  rename_i r z hargs
  simp only [Option.some.injEq, Prod.mk.injEq] at hr
  obtain ⟨rfl, hr⟩ := hr
  obtain ⟨g1, hr⟩ := andB_true hr
  obtain ⟨g2, hr⟩ := andB_true hr
  obtain ⟨g3, hr⟩ := andB_true hr
  obtain ⟨g4, g5⟩ := andB_true hr
  have g1 := Nat.eq_of_beq_eq_true g1
  subst g1
  have hd := pB_of g4
  obtain ⟨b1, b2, b3⟩ := bdZ_of g5
  have hH := one_mem g2 hd
  generalize bN H 1 = M at *
  refine ⟨KbH, loopAt 3 [0, 1, 5] (SbH r M (mzs z M) z 0) (.leaf (.ext 0, EbH r M (mzs z M) (z + (r : Int) * (M : Int)))) noL, 20, 8, .leaf (.int .i64 (z + (r : Int) * (M : Int)), none), [.slc 0 0 r, .int .i64 z], slB false 1 M r :: bkl false M r (mzs z M), ?_, KbH_ok, loopAt_all (B := (slB false 1 M r :: bkl false M r (mzs z M)).length) (by decide +kernel) ?_ noL_all, fun ρ vals hv => by rw [← hargs]; exact delits_rel hv, ?_, LLe.refl _⟩
  · rw [hH]; exact ⟨slT_can g3 false, HLe.refl _⟩
  · rw [List.length_cons, bkl_len h1 h2, Nat.add_comm]; exact loopH h1 h2 b1 b2 b3
  · have h := evH h1 h2 M (mzs z M) z (z + (r : Int) * (M : Int))
    rw [deqS_self] at h
    exact h
theorem two_mem {R : Nat} {H : List Blk} {tl : List Blk} (h : shR false R H 0 = true) (h' : shR false R H 1 = true) (hd : H.drop 2 = tl) : H = .rows false R 1 (bF H 0) :: .rows false R 1 (bF H 1) :: tl := by
  have h0 := shR_of h
  have h1 := shR_of h'
  cases H with
  | nil => cases h0
  | cons x t =>
    cases t with
    | nil => cases h1
    | cons y t =>
      have e0 : some x = some (.rows false R 1 (bF (x :: y :: t) 0)) := h0
      have e1 : some y = some (.rows false R 1 (bF (x :: y :: t) 1)) := h1
      simp only [Option.some.injEq] at e0 e1
      rw [← e0, ← e1, ← hd]; rfl
theorem bE_ok {R : Nat} (h1 : 1 ≤ R) (h2 : R ≤ 4) : SumOk Try.prog 79 (selRunF (refX R) (runBE R)) := sum_selF sxApart sxMixed fun args H t hr _ => by
  unfold runBE at hr
  split at hr
  case h_2 => cases hr
  rename_i r r' hargs
  simp only [Option.some.injEq, Prod.mk.injEq] at hr
  obtain ⟨rfl, hr⟩ := hr
  obtain ⟨g1, hr⟩ := andB_true hr
  obtain ⟨g1', hr⟩ := andB_true hr
  obtain ⟨g2, hr⟩ := andB_true hr
  obtain ⟨g2', hr⟩ := andB_true hr
  obtain ⟨g3, hr⟩ := andB_true hr
  obtain ⟨g3', hr⟩ := andB_true hr
  obtain ⟨g4, g5⟩ := andB_true hr
  have g1 := Nat.eq_of_beq_eq_true g1
  have g1' := Nat.eq_of_beq_eq_true g1'
  subst g1 g1'
  obtain ⟨g, hd⟩ := pB_of g4
  have b1 := Nat.le_of_ble_eq_true g5
  have hH := two_mem g2 g2' hd
  generalize bN H 2 = M at *
  refine ⟨KbE, loopAt 5 [0, 1, 5] (SbE r' M g 0) (.leaf (.ext 0, EbE r' M g)) noL, 20, 8, .leaf (.bool (cond (cond ((r' : Int) == (r' : Int)) false true) false true), none), [.slc 0 0 r', .slc 1 0 r'], slB false 2 M r' :: slB false (2 + r') M r' :: (bkl false M r' g ++ bkl false M r' g), ?_, KbE_ok, loopAt_all (B := (slB false 2 M r' :: slB false (2 + r') M r' :: (bkl false M r' g ++ bkl false M r' g)).length) (by decide +kernel) ?_ noL_all, fun ρ vals hv => by rw [← hargs]; exact delits_rel hv, ?_, ?_⟩
  · rw [hH]; exact ⟨slT_can g3 false, slT_can g3' false, HLe.refl _⟩
  · rw [List.length_cons, List.length_cons, List.length_append, bkl_len h1 h2, show r' + r' + 1 + 1 = 2 + 2 * r' by omega]; exact loopE h1 h2 b1 g
  · have h := evE h1 h2 M g
    rw [deqS_self] at h
    rw [h]
    simp [ob2, impB, andB]
  · simp only [BEq.rfl, cond_true, cond_false]
    exact LLe.refl _
end Go.Proofs.Ytllonddgbjgmdaa.P23
