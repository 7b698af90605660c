/- Printed curves: contracts of the reference's functions and of the program's. -/
import Derived.Test.YtpnjimpiphbcfaaSxB5
set_option linter.unusedVariables false
set_option linter.unusedSimpArgs false
set_option maxRecDepth 100000
namespace Go.Proofs.Ytpnjimpiphbcfaa.Q5
open Go.Sx Go.Sx.C5 Go.Sx.Fl Go.RowKit Go.Proofs.Ytpnjimpiphbcfaa.O5 Go.Proofs.Ytpnjimpiphbcfaa.B5

noncomputable def runRs (f : Nat → Option Nat) : List AV → List Blk → Option Lf := selRun (runAtH [.ptr 0 0 0] (pH f) (.leaf (.agg (c256 (rF f)), none)) (pV f))
noncomputable def runRi (f : Nat → Option Nat) : List AV → List Blk → Option Lf := selRun (runAtH [.agg (pcs f)] [] (.leaf (.agg (c256 (rF f)), none)) (pV f))
noncomputable def LRs (f : Nat → Option Nat) : LoopOr := loopAt 4 [0, 2, 3, 4] (SRs f (.int .i64 0) (fun _ => some 0)) (.leaf (.ext 0, ERs f (rF f))) noL
noncomputable def LRi (f : Nat → Option Nat) : LoopOr := loopAt 4 [1, 2, 3, 6] (SRi f (.int .i64 0) (fun _ => some 0)) (.leaf (.ext 0, ERi f (rF f))) noL
theorem sumRs {f : Nat → Option Nat} (hF : ∀ i, FOk .f32 (f i)) : SumOk Try.prog 80 (runRs f) := sum_atH sxApart sxMixed (rK_ok f) (LRs f) (N := 20) (d := 8) fun hg => by
  refine ⟨loopAt_all (B := 1) (by decide +kernel) (loopRs (pV_LE hF hg).1) noL_all, _, ?_, LLe.refl _⟩
  have h : evF Try.prog (rK f) (LRs f) 20 8 80 [.ptr 0 0 0] (pH f) = some (.leaf (.agg (c256 (rF f)), none), andB (deqS (SRs f (.int .i64 0) (fun _ => some 0)) (SRs f (.int .i64 0) (fun _ => some 0))) true) := by kernel_rfl
  rw [deqS_self] at h
  exact h
theorem sumRi {f : Nat → Option Nat} (hF : ∀ i, FOk .f32 (f i)) : SumOk Try.prog 69 (runRi f) := sum_atH sxApart sxMixed (rK_ok f) (LRi f) (N := 20) (d := 8) fun hg => by
  refine ⟨loopAt_all (B := 0) (by decide +kernel) (loopRi (pV_LE hF hg).1) noL_all, _, ?_, LLe.refl _⟩
  have h : evF Try.prog (rK f) (LRi f) 20 8 69 [.agg (pcs f)] [] = some (.leaf (.agg (c256 (rF f)), none), andB (deqS (SRi f (.int .i64 0) (fun _ => some 0)) (SRi f (.int .i64 0) (fun _ => some 0))) true) := by kernel_rfl
  rw [deqS_self] at h
  exact h

-- what is printed, wavelength by wavelength
def zF : List AV := cF fun _ => some 0
def cv (c : Nat → Option Nat) : List AV := [.flt .f32 (c 0), .flt .f32 (c 1), .flt .f32 (c 2), .flt .f32 (c 3)]
noncomputable def Ok (A R : Nat → Option Nat) (k w : Nat) : Option Nat := bif Nat.blt w k then mu (sm A R w 15) (sm A R w 15) else some 0
def SPs (f c R A : Nat → Option Nat) (k : AV) (O : Nat → Option Nat) : St := ⟨[.junk, .junk, .ptr 1 0 0, .junk, .junk, .junk, .ptr 3 0 0, .ptr 4 0 0, .ptr 5 0 0, k] ++ junks 42, [.one false (pcs f), .one false (c256 R), .one true (cv c), .one true zF, .one true (cF A), .one true (cF O)]⟩
def EPs (f c R A : Nat → Option Nat) (O : Nat → Option Nat) : St := ⟨[.junk, .junk, .junk, .junk, .junk, .junk, .ptr 3 0 0, .junk, .ptr 5 0 0] ++ junks 43, [.one false (pcs f), .one false (c256 R), .one true (cv c), .one true zF, .one true (cF A), .one true (cF O)]⟩
def SPi (f c R A : Nat → Option Nat) (k : AV) (O : Nat → Option Nat) : St := ⟨[.junk, .ptr 0 0 0, .junk, .junk, .junk, .junk, .ptr 3 0 0, .ptr 4 0 0, .ptr 5 0 0, .junk, .junk, .junk, .junk, .junk, .junk, .junk, .junk, k] ++ junks 35, [.one false (c256 R), .one true (pcs f), .one true (cv c), .one true zF, .one true (cF A), .one true (cF O)]⟩
def EPi (f c R A : Nat → Option Nat) (O : Nat → Option Nat) : St := ⟨[.junk, .junk, .junk, .junk, .junk, .junk, .ptr 3 0 0, .junk, .ptr 5 0 0] ++ junks 44, [.one false (c256 R), .one true (pcs f), .one true (cv c), .one true zF, .one true (cF A), .one true (cF O)]⟩
theorem spi0 (f c R A : Nat → Option Nat) : evC JS Try.prog (callF Try.prog extK 20 8) noL 20 (loopN Try.prog 71 4) (SPi f c R A (.lit (.int .i64 0)) (Ok A R 0)) (kG 1 [1, 6, 7, 8, 17] [6, 8] none none) = some (.leaf (.nrm, SPi f c R A (.int .i64 1) (Ok A R 1)), true) := by kernel_rfl
theorem spi1 (f c R A : Nat → Option Nat) : evC JS Try.prog (callF Try.prog extK 20 8) noL 20 (loopN Try.prog 71 4) (SPi f c R A (.lit (.int .i64 1)) (Ok A R 1)) (kG 1 [1, 6, 7, 8, 17] [6, 8] none none) = some (.leaf (.nrm, SPi f c R A (.int .i64 2) (Ok A R 2)), true) := by kernel_rfl
theorem spi2 (f c R A : Nat → Option Nat) : evC JS Try.prog (callF Try.prog extK 20 8) noL 20 (loopN Try.prog 71 4) (SPi f c R A (.lit (.int .i64 2)) (Ok A R 2)) (kG 1 [1, 6, 7, 8, 17] [6, 8] none none) = some (.leaf (.nrm, SPi f c R A (.int .i64 3) (Ok A R 3)), true) := by kernel_rfl
theorem spi3 (f c R A : Nat → Option Nat) : evC JS Try.prog (callF Try.prog extK 20 8) noL 20 (loopN Try.prog 71 4) (SPi f c R A (.lit (.int .i64 3)) (Ok A R 3)) (kG 1 [1, 6, 7, 8, 17] [6, 8] none none) = some (.leaf (.nrm, SPi f c R A (.int .i64 4) (Ok A R 4)), true) := by kernel_rfl
theorem spi4 (f c R A : Nat → Option Nat) : evC JS Try.prog (callF Try.prog extK 20 8) noL 20 (loopN Try.prog 71 4) (SPi f c R A (.lit (.int .i64 4)) (Ok A R 4)) (kG 1 [1, 6, 7, 8, 17] [6, 8] none none) = some (.leaf (.nrm, SPi f c R A (.int .i64 5) (Ok A R 5)), true) := by kernel_rfl
theorem spi5 (f c R A : Nat → Option Nat) : evC JS Try.prog (callF Try.prog extK 20 8) noL 20 (loopN Try.prog 71 4) (SPi f c R A (.lit (.int .i64 5)) (Ok A R 5)) (kG 1 [1, 6, 7, 8, 17] [6, 8] none none) = some (.leaf (.nrm, SPi f c R A (.int .i64 6) (Ok A R 6)), true) := by kernel_rfl
theorem spi6 (f c R A : Nat → Option Nat) : evC JS Try.prog (callF Try.prog extK 20 8) noL 20 (loopN Try.prog 71 4) (SPi f c R A (.lit (.int .i64 6)) (Ok A R 6)) (kG 1 [1, 6, 7, 8, 17] [6, 8] none none) = some (.leaf (.nrm, SPi f c R A (.int .i64 7) (Ok A R 7)), true) := by kernel_rfl
theorem spi7 (f c R A : Nat → Option Nat) : evC JS Try.prog (callF Try.prog extK 20 8) noL 20 (loopN Try.prog 71 4) (SPi f c R A (.lit (.int .i64 7)) (Ok A R 7)) (kG 1 [1, 6, 7, 8, 17] [6, 8] none none) = some (.leaf (.nrm, SPi f c R A (.int .i64 8) (Ok A R 8)), true) := by kernel_rfl
theorem spi8 (f c R A : Nat → Option Nat) : evC JS Try.prog (callF Try.prog extK 20 8) noL 20 (loopN Try.prog 71 4) (SPi f c R A (.lit (.int .i64 8)) (Ok A R 8)) (kG 1 [1, 6, 7, 8, 17] [6, 8] none none) = some (.leaf (.nrm, SPi f c R A (.int .i64 9) (Ok A R 9)), true) := by kernel_rfl
theorem spi9 (f c R A : Nat → Option Nat) : evC JS Try.prog (callF Try.prog extK 20 8) noL 20 (loopN Try.prog 71 4) (SPi f c R A (.lit (.int .i64 9)) (Ok A R 9)) (kG 1 [1, 6, 7, 8, 17] [6, 8] none none) = some (.leaf (.nrm, SPi f c R A (.int .i64 10) (Ok A R 10)), true) := by kernel_rfl
theorem spi10 (f c R A : Nat → Option Nat) : evC JS Try.prog (callF Try.prog extK 20 8) noL 20 (loopN Try.prog 71 4) (SPi f c R A (.lit (.int .i64 10)) (Ok A R 10)) (kG 1 [1, 6, 7, 8, 17] [6, 8] none none) = some (.leaf (.nrm, SPi f c R A (.int .i64 11) (Ok A R 11)), true) := by kernel_rfl
theorem spi11 (f c R A : Nat → Option Nat) : evC JS Try.prog (callF Try.prog extK 20 8) noL 20 (loopN Try.prog 71 4) (SPi f c R A (.lit (.int .i64 11)) (Ok A R 11)) (kG 1 [1, 6, 7, 8, 17] [6, 8] none none) = some (.leaf (.nrm, SPi f c R A (.int .i64 12) (Ok A R 12)), true) := by kernel_rfl
theorem spi12 (f c R A : Nat → Option Nat) : evC JS Try.prog (callF Try.prog extK 20 8) noL 20 (loopN Try.prog 71 4) (SPi f c R A (.lit (.int .i64 12)) (Ok A R 12)) (kG 1 [1, 6, 7, 8, 17] [6, 8] none none) = some (.leaf (.nrm, SPi f c R A (.int .i64 13) (Ok A R 13)), true) := by kernel_rfl
theorem spi13 (f c R A : Nat → Option Nat) : evC JS Try.prog (callF Try.prog extK 20 8) noL 20 (loopN Try.prog 71 4) (SPi f c R A (.lit (.int .i64 13)) (Ok A R 13)) (kG 1 [1, 6, 7, 8, 17] [6, 8] none none) = some (.leaf (.nrm, SPi f c R A (.int .i64 14) (Ok A R 14)), true) := by kernel_rfl
theorem spi14 (f c R A : Nat → Option Nat) : evC JS Try.prog (callF Try.prog extK 20 8) noL 20 (loopN Try.prog 71 4) (SPi f c R A (.lit (.int .i64 14)) (Ok A R 14)) (kG 1 [1, 6, 7, 8, 17] [6, 8] none none) = some (.leaf (.nrm, SPi f c R A (.int .i64 15) (Ok A R 15)), true) := by kernel_rfl
theorem spi15 (f c R A : Nat → Option Nat) : evC JS Try.prog (callF Try.prog extK 20 8) noL 20 (loopN Try.prog 71 4) (SPi f c R A (.lit (.int .i64 15)) (Ok A R 15)) (kG 1 [1, 6, 7, 8, 17] [6, 8] none none) = some (.leaf (.nrm, SPi f c R A (.int .i64 16) (Ok A R 16)), true) := by kernel_rfl
theorem spi16 (f c R A : Nat → Option Nat) : evC JS Try.prog (callF Try.prog extK 20 8) noL 20 (loopN Try.prog 71 4) (SPi f c R A (.lit (.int .i64 16)) (Ok A R 16)) (kG 1 [1, 6, 7, 8, 17] [6, 8] none none) = some (.leaf (.ext 0, EPi f c R A (Ok A R 16)), true) := by kernel_rfl
theorem loopPi (f c R A : Nat → Option Nat) : LoopOk Try.prog 1 (loopN Try.prog 71 4) (SPi f c R A (.int .i64 0) (fun _ => some 0)) (.leaf (.ext 0, EPi f c R A (Ok A R 16))) := by
  have key := loop_all (callF_ok sxApart sxMixed extK_ok (N := 20) 8) sxMixed (body := loopN Try.prog 71 4) (L := noL) (N := 20) (B := 1) (fun _ _ _ _ h => by cases h) [1, 6, 7, 8, 17] [6, 8] none none
    (fun k => SPi f c R A (.lit (.int .i64 (Int.ofNat k))) (Ok A R k)) 16 (.ext 0, EPi f c R A (Ok A R 16)) (fun h => by cases h)
    (fun k hk => by
      rcases k with _ | _ | _ | _ | _ | _ | _ | _ | _ | _ | _ | _ | _ | _ | _ | _ | k
      · exact ⟨_, spi0 f c R A, rfl, rfl, HLe.refl _⟩
      · exact ⟨_, spi1 f c R A, rfl, rfl, HLe.refl _⟩
      · exact ⟨_, spi2 f c R A, rfl, rfl, HLe.refl _⟩
      · exact ⟨_, spi3 f c R A, rfl, rfl, HLe.refl _⟩
      · exact ⟨_, spi4 f c R A, rfl, rfl, HLe.refl _⟩
      · exact ⟨_, spi5 f c R A, rfl, rfl, HLe.refl _⟩
      · exact ⟨_, spi6 f c R A, rfl, rfl, HLe.refl _⟩
      · exact ⟨_, spi7 f c R A, rfl, rfl, HLe.refl _⟩
      · exact ⟨_, spi8 f c R A, rfl, rfl, HLe.refl _⟩
      · exact ⟨_, spi9 f c R A, rfl, rfl, HLe.refl _⟩
      · exact ⟨_, spi10 f c R A, rfl, rfl, HLe.refl _⟩
      · exact ⟨_, spi11 f c R A, rfl, rfl, HLe.refl _⟩
      · exact ⟨_, spi12 f c R A, rfl, rfl, HLe.refl _⟩
      · exact ⟨_, spi13 f c R A, rfl, rfl, HLe.refl _⟩
      · exact ⟨_, spi14 f c R A, rfl, rfl, HLe.refl _⟩
      · exact ⟨_, spi15 f c R A, rfl, rfl, HLe.refl _⟩
      · omega)
    ⟨_, spi16 f c R A, XLe.refl _⟩
  exact key.from ⟨rfl, HLe.refl _⟩
theorem sps0 (f c R A : Nat → Option Nat) : evC JS Try.prog (callF Try.prog extK 20 8) noL 20 (loopN Try.prog 81 5) (SPs f c R A (.lit (.int .i64 0)) (Ok A R 0)) (kG 2 [2, 6, 7, 8, 9] [6, 8] none none) = some (.leaf (.nrm, SPs f c R A (.int .i64 1) (Ok A R 1)), true) := by kernel_rfl
theorem sps1 (f c R A : Nat → Option Nat) : evC JS Try.prog (callF Try.prog extK 20 8) noL 20 (loopN Try.prog 81 5) (SPs f c R A (.lit (.int .i64 1)) (Ok A R 1)) (kG 2 [2, 6, 7, 8, 9] [6, 8] none none) = some (.leaf (.nrm, SPs f c R A (.int .i64 2) (Ok A R 2)), true) := by kernel_rfl
theorem sps2 (f c R A : Nat → Option Nat) : evC JS Try.prog (callF Try.prog extK 20 8) noL 20 (loopN Try.prog 81 5) (SPs f c R A (.lit (.int .i64 2)) (Ok A R 2)) (kG 2 [2, 6, 7, 8, 9] [6, 8] none none) = some (.leaf (.nrm, SPs f c R A (.int .i64 3) (Ok A R 3)), true) := by kernel_rfl
theorem sps3 (f c R A : Nat → Option Nat) : evC JS Try.prog (callF Try.prog extK 20 8) noL 20 (loopN Try.prog 81 5) (SPs f c R A (.lit (.int .i64 3)) (Ok A R 3)) (kG 2 [2, 6, 7, 8, 9] [6, 8] none none) = some (.leaf (.nrm, SPs f c R A (.int .i64 4) (Ok A R 4)), true) := by kernel_rfl
theorem sps4 (f c R A : Nat → Option Nat) : evC JS Try.prog (callF Try.prog extK 20 8) noL 20 (loopN Try.prog 81 5) (SPs f c R A (.lit (.int .i64 4)) (Ok A R 4)) (kG 2 [2, 6, 7, 8, 9] [6, 8] none none) = some (.leaf (.nrm, SPs f c R A (.int .i64 5) (Ok A R 5)), true) := by kernel_rfl
theorem sps5 (f c R A : Nat → Option Nat) : evC JS Try.prog (callF Try.prog extK 20 8) noL 20 (loopN Try.prog 81 5) (SPs f c R A (.lit (.int .i64 5)) (Ok A R 5)) (kG 2 [2, 6, 7, 8, 9] [6, 8] none none) = some (.leaf (.nrm, SPs f c R A (.int .i64 6) (Ok A R 6)), true) := by kernel_rfl
theorem sps6 (f c R A : Nat → Option Nat) : evC JS Try.prog (callF Try.prog extK 20 8) noL 20 (loopN Try.prog 81 5) (SPs f c R A (.lit (.int .i64 6)) (Ok A R 6)) (kG 2 [2, 6, 7, 8, 9] [6, 8] none none) = some (.leaf (.nrm, SPs f c R A (.int .i64 7) (Ok A R 7)), true) := by kernel_rfl
theorem sps7 (f c R A : Nat → Option Nat) : evC JS Try.prog (callF Try.prog extK 20 8) noL 20 (loopN Try.prog 81 5) (SPs f c R A (.lit (.int .i64 7)) (Ok A R 7)) (kG 2 [2, 6, 7, 8, 9] [6, 8] none none) = some (.leaf (.nrm, SPs f c R A (.int .i64 8) (Ok A R 8)), true) := by kernel_rfl
theorem sps8 (f c R A : Nat → Option Nat) : evC JS Try.prog (callF Try.prog extK 20 8) noL 20 (loopN Try.prog 81 5) (SPs f c R A (.lit (.int .i64 8)) (Ok A R 8)) (kG 2 [2, 6, 7, 8, 9] [6, 8] none none) = some (.leaf (.nrm, SPs f c R A (.int .i64 9) (Ok A R 9)), true) := by kernel_rfl
theorem sps9 (f c R A : Nat → Option Nat) : evC JS Try.prog (callF Try.prog extK 20 8) noL 20 (loopN Try.prog 81 5) (SPs f c R A (.lit (.int .i64 9)) (Ok A R 9)) (kG 2 [2, 6, 7, 8, 9] [6, 8] none none) = some (.leaf (.nrm, SPs f c R A (.int .i64 10) (Ok A R 10)), true) := by kernel_rfl
theorem sps10 (f c R A : Nat → Option Nat) : evC JS Try.prog (callF Try.prog extK 20 8) noL 20 (loopN Try.prog 81 5) (SPs f c R A (.lit (.int .i64 10)) (Ok A R 10)) (kG 2 [2, 6, 7, 8, 9] [6, 8] none none) = some (.leaf (.nrm, SPs f c R A (.int .i64 11) (Ok A R 11)), true) := by kernel_rfl
theorem sps11 (f c R A : Nat → Option Nat) : evC JS Try.prog (callF Try.prog extK 20 8) noL 20 (loopN Try.prog 81 5) (SPs f c R A (.lit (.int .i64 11)) (Ok A R 11)) (kG 2 [2, 6, 7, 8, 9] [6, 8] none none) = some (.leaf (.nrm, SPs f c R A (.int .i64 12) (Ok A R 12)), true) := by kernel_rfl
theorem sps12 (f c R A : Nat → Option Nat) : evC JS Try.prog (callF Try.prog extK 20 8) noL 20 (loopN Try.prog 81 5) (SPs f c R A (.lit (.int .i64 12)) (Ok A R 12)) (kG 2 [2, 6, 7, 8, 9] [6, 8] none none) = some (.leaf (.nrm, SPs f c R A (.int .i64 13) (Ok A R 13)), true) := by kernel_rfl
theorem sps13 (f c R A : Nat → Option Nat) : evC JS Try.prog (callF Try.prog extK 20 8) noL 20 (loopN Try.prog 81 5) (SPs f c R A (.lit (.int .i64 13)) (Ok A R 13)) (kG 2 [2, 6, 7, 8, 9] [6, 8] none none) = some (.leaf (.nrm, SPs f c R A (.int .i64 14) (Ok A R 14)), true) := by kernel_rfl
theorem sps14 (f c R A : Nat → Option Nat) : evC JS Try.prog (callF Try.prog extK 20 8) noL 20 (loopN Try.prog 81 5) (SPs f c R A (.lit (.int .i64 14)) (Ok A R 14)) (kG 2 [2, 6, 7, 8, 9] [6, 8] none none) = some (.leaf (.nrm, SPs f c R A (.int .i64 15) (Ok A R 15)), true) := by kernel_rfl
theorem sps15 (f c R A : Nat → Option Nat) : evC JS Try.prog (callF Try.prog extK 20 8) noL 20 (loopN Try.prog 81 5) (SPs f c R A (.lit (.int .i64 15)) (Ok A R 15)) (kG 2 [2, 6, 7, 8, 9] [6, 8] none none) = some (.leaf (.nrm, SPs f c R A (.int .i64 16) (Ok A R 16)), true) := by kernel_rfl
theorem sps16 (f c R A : Nat → Option Nat) : evC JS Try.prog (callF Try.prog extK 20 8) noL 20 (loopN Try.prog 81 5) (SPs f c R A (.lit (.int .i64 16)) (Ok A R 16)) (kG 2 [2, 6, 7, 8, 9] [6, 8] none none) = some (.leaf (.ext 0, EPs f c R A (Ok A R 16)), true) := by kernel_rfl
theorem loopPs (f c R A : Nat → Option Nat) : LoopOk Try.prog 2 (loopN Try.prog 81 5) (SPs f c R A (.int .i64 0) (fun _ => some 0)) (.leaf (.ext 0, EPs f c R A (Ok A R 16))) := by
  have key := loop_all (callF_ok sxApart sxMixed extK_ok (N := 20) 8) sxMixed (body := loopN Try.prog 81 5) (L := noL) (N := 20) (B := 2) (fun _ _ _ _ h => by cases h) [2, 6, 7, 8, 9] [6, 8] none none
    (fun k => SPs f c R A (.lit (.int .i64 (Int.ofNat k))) (Ok A R k)) 16 (.ext 0, EPs f c R A (Ok A R 16)) (fun h => by cases h)
    (fun k hk => by
      rcases k with _ | _ | _ | _ | _ | _ | _ | _ | _ | _ | _ | _ | _ | _ | _ | _ | k
      · exact ⟨_, sps0 f c R A, rfl, rfl, HLe.refl _⟩
      · exact ⟨_, sps1 f c R A, rfl, rfl, HLe.refl _⟩
      · exact ⟨_, sps2 f c R A, rfl, rfl, HLe.refl _⟩
      · exact ⟨_, sps3 f c R A, rfl, rfl, HLe.refl _⟩
      · exact ⟨_, sps4 f c R A, rfl, rfl, HLe.refl _⟩
      · exact ⟨_, sps5 f c R A, rfl, rfl, HLe.refl _⟩
      · exact ⟨_, sps6 f c R A, rfl, rfl, HLe.refl _⟩
      · exact ⟨_, sps7 f c R A, rfl, rfl, HLe.refl _⟩
      · exact ⟨_, sps8 f c R A, rfl, rfl, HLe.refl _⟩
      · exact ⟨_, sps9 f c R A, rfl, rfl, HLe.refl _⟩
      · exact ⟨_, sps10 f c R A, rfl, rfl, HLe.refl _⟩
      · exact ⟨_, sps11 f c R A, rfl, rfl, HLe.refl _⟩
      · exact ⟨_, sps12 f c R A, rfl, rfl, HLe.refl _⟩
      · exact ⟨_, sps13 f c R A, rfl, rfl, HLe.refl _⟩
      · exact ⟨_, sps14 f c R A, rfl, rfl, HLe.refl _⟩
      · exact ⟨_, sps15 f c R A, rfl, rfl, HLe.refl _⟩
      · omega)
    ⟨_, sps16 f c R A, XLe.refl _⟩
  exact key.from ⟨rfl, HLe.refl _⟩
noncomputable def aF (f c : Nat → Option Nat) : Nat → Option Nat := area (gr (f 80) c)
noncomputable def LPs (f c R : Nat → Option Nat) : LoopOr := loopAt 5 [2, 6, 7, 8, 9] (SPs f c R (aF f c) (.int .i64 0) (fun _ => some 0)) (.leaf (.ext 0, EPs f c R (aF f c) (Ok (aF f c) R 16))) noL
noncomputable def LPi (f c R : Nat → Option Nat) : LoopOr := loopAt 4 [1, 6, 7, 8, 17] (SPi f c R (aF f c) (.int .i64 0) (fun _ => some 0)) (.leaf (.ext 0, EPi f c R (aF f c) (Ok (aF f c) R 16))) noL
def aPs (c : Nat → Option Nat) : List AV := [.ptr 0 0 0, .agg (cv c), .ptr 1 0 0]
def hPs (f R : Nat → Option Nat) : List Blk := [.one false (pcs f), .one false (c256 R)]
def aPi (f c : Nat → Option Nat) : List AV := [.agg (pcs f), .ptr 0 0 0, .agg (cv c)]
def hPi (R : Nat → Option Nat) : List Blk := [.one false (c256 R)]
noncomputable def runPs (f c R : Nat → Option Nat) : List AV → List Blk → Option Lf := selRun (runAtH (aPs c) (hPs f R) (.leaf (.agg (cF (pr f c R)), none)) true)
noncomputable def runPi (f c R : Nat → Option Nat) : List AV → List Blk → Option Lf := selRun (runAtH (aPi f c) (hPi R) (.leaf (.agg (cF (pr f c R)), none)) true)
noncomputable def kyK : CallerT := addK 97 runKy (addK 78 runKy extK)
theorem kyK_ok : CallerTOk Try.prog kyK := addK_ok sumKS (addK_ok sumKI extK_ok)
theorem sumPs (f c R : Nat → Option Nat) : SumOk Try.prog 81 (runPs f c R) := sum_atH sxApart sxMixed kyK_ok (LPs f c R) (N := 20) (d := 8) fun _ => by
  refine ⟨loopAt_all (B := 2) (by decide +kernel) (loopPs f c R (aF f c)) noL_all, _, ?_, LLe.refl _⟩
  have h : evF Try.prog kyK (LPs f c R) 20 8 81 (aPs c) (hPs f R) = some (.leaf (.agg (cF (pr f c R)), none), id (andB (deqS (SPs f c R (aF f c) (.int .i64 0) (fun _ => some 0)) (SPs f c R (aF f c) (.int .i64 0) (fun _ => some 0))) true)) := by kernel_rfl
  rw [deqS_self] at h
  exact h
end Go.Proofs.Ytpnjimpiphbcfaa.Q5
