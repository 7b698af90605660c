/- Texts of one claim, put together. -/
import Derived.Test.YtllonddgbjgmdaaG9
set_option linter.unusedVariables false
set_option linter.unusedSimpArgs false
set_option maxRecDepth 100000
namespace Go.Proofs.Ytllonddgbjgmdaa.P16
open Go.Sx Go.Sx.R0 Go.RowKit Go.Proofs.Ytllonddgbjgmdaa.W1 Go.Proofs.Ytllonddgbjgmdaa.W3 Go.Proofs.Ytllonddgbjgmdaa.W5 Go.Proofs.Ytllonddgbjgmdaa.W9 Go.Proofs.Ytllonddgbjgmdaa.W10 Go.Proofs.Ytllonddgbjgmdaa.P1 Go.Proofs.Ytllonddgbjgmdaa.P2 Go.Proofs.Ytllonddgbjgmdaa.P3 Go.Proofs.Ytllonddgbjgmdaa.P4 Go.Proofs.Ytllonddgbjgmdaa.P5 Go.Proofs.Ytllonddgbjgmdaa.P6 Go.Proofs.Ytllonddgbjgmdaa.P7 Go.Proofs.Ytllonddgbjgmdaa.P8 Go.Proofs.Ytllonddgbjgmdaa.P9 Go.Proofs.Ytllonddgbjgmdaa.P10 Go.Proofs.Ytllonddgbjgmdaa.P11 Go.Proofs.Ytllonddgbjgmdaa.P12 Go.Proofs.Ytllonddgbjgmdaa.P13 Go.Proofs.Ytllonddgbjgmdaa.P14 Go.Proofs.Ytllonddgbjgmdaa.P15

-- the reference
def Ag (E : En) (R : Nat) (bf : Nat → List AV) (F : Fl) (i : Int) : St := ⟨[.ptr 0 0 0, .junk, .junk, .int .i64 i] ++ junks 19, memS E R bf F⟩
def AgE (E : En) (R : Nat) (bf : Nat → List AV) (F : Fl) : St := ⟨junks 23, memS E R bf F⟩
def AgR (E : En) (R : Nat) (bf : Nat → List AV) (F : Fl) : St := ⟨junks 2 ++ [.bool false] ++ junks 20, memS E R bf F⟩
def obAg (M k : Nat) : Bool := andB (inB (Int.ofNat k) M) (andB (Nat.blt k M) true)
theorem obAg_true {M k : Nat} (h : k < M) : obAg M k = true := by unfold obAg; rw [inB_nat h, blt_lt h]; rfl
-- the program
def ixH (M : Nat) (g : Nat → Bool) : List Blk := [.rows false M 1 (bRow g)]
def Ix (M : Nat) (g : Nat → Bool) (i : Int) : St := ⟨[.slc 0 0 M, .bool false] ++ junks 5 ++ [.int .i64 M, .int .i64 i] ++ junks 10, ixH M g⟩
def IxE (M : Nat) (g : Nat → Bool) : St := ⟨junks 19, ixH M g⟩
def IxR (M : Nat) (g : Nat → Bool) (k : Nat) : St := ⟨junks 4 ++ [.int .i64 (Int.ofNat k)] ++ junks 14, ixH M g⟩
theorem stepAg (B : Nat) (E : En) (R : Nat) (bf : Nat → List AV) (F : Fl) (k : Nat) : evC JS Try.prog (callF Try.prog extK 20 8) noL 20 (loopN Try.prog 74 3) (Ag E R bf F (Int.ofNat k)) (kG B [0, 3] [2] none none) =
    some (.node (decide (Int.ofNat k < (E.M : Int))) (.node (!F.kn k) (.leaf (.ret, AgR E R bf F)) (.leaf (.nrm, Ag E R bf F (IntKind.i64.wrap (Int.ofNat k + 1))))) (.leaf (.ext 0, AgE E R bf F)), andB (impB (decide (Int.ofNat k < (E.M : Int))) (obAg E.M k)) true) := by kernel_rfl
def tAg (E : En) (R : Nat) (bf : Nat → List AV) (F : Fl) : Tr (AX × St) := .node (allB E.M fun k => !!F.kn k) (.leaf (.ext 0, AgE E R bf F)) (.leaf (.ret, AgR E R bf F))
theorem loopAg (B : Nat) (E : En) (R : Nat) (bf : Nat → List AV) (F : Fl) (hM : E.M ≤ few) : LoopOk Try.prog B (loopN Try.prog 74 3) (Ag E R bf F 0) (tAg E R bf F) :=
  loopF (callF_ok sxApart sxMixed extK_ok (N := 20) 8) sxMixed [0, 3] [2] none none (fun k => Ag E R bf F (Int.ofNat k)) (fun k => Ag E R bf F (IntKind.i64.wrap (Int.ofNat k + 1))) E.M (by have := few_eq; omega) (fun k => !F.kn k) (fun _ => (.ret, AgR E R bf F)) (.ext 0, AgE E R bf F) (obAg E.M) (fun _ h => by cases h) (fun h => by cases h) (stepAg B E R bf F) (fun k h => obAg_true h) fun k _ _ hw => by rw [hw]; exact SLe.refl _
theorem stepIx (M : Nat) (g : Nat → Bool) (k : Nat) : evC JS Try.prog (callF Try.prog extK 20 8) noL 20 (loopN Try.prog 118 3) (Ix M g (Int.ofNat k)) (kG 1 [0, 1, 7, 8] [4] none none) =
    some (.node (decide (Int.ofNat k < (M : Int))) (.node (false == g k) (.leaf (.ret, IxR M g k)) (.leaf (.nrm, Ix M g (IntKind.i64.wrap (Int.ofNat k + 1))))) (.leaf (.ext 0, IxE M g)), andB (impB (decide (Int.ofNat k < (M : Int))) (obAg M k)) true) := by kernel_rfl
def tIx (M : Nat) (g : Nat → Bool) : Tr (AX × St) := .node (allB M fun k => !(false == g k)) (.leaf (.ext 0, IxE M g)) (.leaf (.ret, IxR M g (fb (fun k => !(false == g k)) M)))
theorem loopIx {M : Nat} (g : Nat → Bool) (hM : M ≤ few) : LoopOk Try.prog 1 (loopN Try.prog 118 3) (Ix M g 0) (tIx M g) :=
  loopF (callF_ok sxApart sxMixed extK_ok (N := 20) 8) sxMixed [0, 1, 7, 8] [4] none none (fun k => Ix M g (Int.ofNat k)) (fun k => Ix M g (IntKind.i64.wrap (Int.ofNat k + 1))) M (by have := few_eq; omega) (fun k => false == g k) (fun k => (.ret, IxR M g k)) (.ext 0, IxE M g) (obAg M) (fun _ h => by cases h) (fun h => by cases h) (stepIx M g) (fun k h => obAg_true h) fun k _ _ hw => by rw [hw]; exact SLe.refl _
noncomputable def runIx (M : Nat) (g : Nat → Bool) : List AV → List Blk → Option Lf := selRun (runAtH [.slc 0 0 M, .lit (.bool false)] (ixH M g) (.leaf (.int .i64 (cond (allB M fun k => !(false == g k)) (-1) (Int.ofNat (fb (fun k => !(false == g k)) M))), none)) (Nat.ble M few))
noncomputable def okIx (M : Nat) (g : Nat → Bool) : Bool := andB (deq [.slc 0 0 M, .lit (.bool false)] [.slc 0 0 M, .lit (.bool false)]) (andB (deqH (ixH M g) (ixH M g)) (Nat.ble M few))
theorem okIx_true {M : Nat} (h : M ≤ few) (g : Nat → Bool) : okIx M g = true := by unfold okIx; rw [deq_self, deqH_self, Nat.ble_eq_true_of_le h]; rfl
theorem ixI (M : Nat) (g : Nat → Bool) : SumOk Try.prog 118 (runIx M g) := sum_atHl sxApart sxMixed extK_ok (loopAt 3 [0, 1, 7, 8] (Ix M g 0) (tIx M g) noL) (N := 20) (d := 8) fun hg => by
  refine ⟨loopAt_all (B := 1) (by decide +kernel) (loopIx g (Nat.le_of_ble_eq_true hg)) noL_all, _, ?_, LLe.refl _⟩
  have h : evF Try.prog extK (loopAt 3 [0, 1, 7, 8] (Ix M g 0) (tIx M g) noL) 20 8 118 [.slc 0 0 M, .bool false] (ixH M g) = some (.leaf (.int .i64 (cond (allB M fun k => !(false == g k)) (-1) (Int.ofNat (fb (fun k => !(false == g k)) M))), none), andB (deqS (Ix M g 0) (Ix M g 0)) true) := by kernel_rfl
  rw [deqS_self] at h
  exact h
theorem evAg (E : En) (R : Nat) (bf : Nat → List AV) (F : Fl) : evM Try.prog extK (loopAt 3 [0, 3] (Ag E R bf F 0) (tAg E R bf F) noL) 20 8 74 [.ptr 0 0 0] (memS E R bf F) = some (.node (allB E.M fun k => !!F.kn k) (.leaf (.lit (.bool true), some (memS E R bf F))) (.leaf (.bool false, some (memS E R bf F))), andB (deqS (Ag E R bf F 0) (Ag E R bf F 0)) true) := by kernel_rfl
def eT (n M : Nat) (c : Bt) (t : Ts) : En := ⟨true, true, false, n, M, c.row, t⟩
def isAg (H : List Blk) (R : Nat) : Prop := ∃ n M c t F, H = memS (eT n M c t) R (bF H 4) F ∧ M ≤ few
noncomputable def runAg (R : Nat) : List AV → List Blk → Option Lf := fun args H => match args with
  | [.ptr 0 0 0] => some (.leaf (.bool (allB (toES H).M fun k => !!(toFS H).kn k), some H), pB (isAg H R))
  | _ => none
theorem agS (R : Nat) : SumOk Try.prog 74 (selRunR (refX R) (runAg R)) := sum_selR sxApart sxMixed fun args H t hr hex => by
  unfold runAg at hr
  split at hr
  case h_2 => cases hr
  simp only [Option.some.injEq, Prod.mk.injEq] at hr
  obtain ⟨rfl, hr⟩ := hr
  obtain ⟨n, M, c, t, F, hH, hM⟩ := pB_of hr
  generalize bF H 4 = bf at *
  subst hH
  have he := evAg (eT n M c t) R bf F
  rw [deqS_self] at he
  refine ⟨extK, _, 20, 8, _, _, memS (eT n M c t) R bf F, HLe.refl _, extK_ok, loopAt_all (by decide +kernel) (loopAg _ (eT n M c t) R bf F hM) noL_all, fun _ _ h => h, he, ?_⟩
  show LLe (Tr.get (.node (allB M fun k => !!F.kn k) _ _)) (.bool (allB M fun k => !!F.kn k), some _)
  cases h : (allB M fun k => !!F.kn k) with
  | true => exact ⟨rfl, HLe.refl _⟩
  | false => exact ⟨rfl, HLe.refl _⟩
end Go.Proofs.Ytllonddgbjgmdaa.P16
