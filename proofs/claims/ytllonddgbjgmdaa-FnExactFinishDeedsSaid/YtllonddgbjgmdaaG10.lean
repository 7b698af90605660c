/- Texts of one claim, put together. -/
import Derived.Test.YtllonddgbjgmdaaG9
import Derived.Test.YtllonddgbjgmdaaG8
import Derived.Test.YtllonddgbjgmdaaG3
import Derived.Test.YtllonddgbjgmdaaG2
set_option linter.unusedVariables false
set_option linter.unusedSimpArgs false
set_option maxRecDepth 100000
namespace Go.Proofs.Ytllonddgbjgmdaa.P16
open Go.Sx Go.Sx.R0 Go.RowKit Go.Proofs.Ytllonddgbjgmdaa.W1 Go.Proofs.Ytllonddgbjgmdaa.W3 Go.Proofs.Ytllonddgbjgmdaa.W5 Go.Proofs.Ytllonddgbjgmdaa.W9 Go.Proofs.Ytllonddgbjgmdaa.W10 Go.Proofs.Ytllonddgbjgmdaa.P1 Go.Proofs.Ytllonddgbjgmdaa.P2 Go.Proofs.Ytllonddgbjgmdaa.P3 Go.Proofs.Ytllonddgbjgmdaa.P4 Go.Proofs.Ytllonddgbjgmdaa.P5 Go.Proofs.Ytllonddgbjgmdaa.P6 Go.Proofs.Ytllonddgbjgmdaa.P7 Go.Proofs.Ytllonddgbjgmdaa.P8 Go.Proofs.Ytllonddgbjgmdaa.P9 Go.Proofs.Ytllonddgbjgmdaa.P10 Go.Proofs.Ytllonddgbjgmdaa.P11 Go.Proofs.Ytllonddgbjgmdaa.P12 Go.Proofs.Ytllonddgbjgmdaa.P13 Go.Proofs.Ytllonddgbjgmdaa.P14 Go.Proofs.Ytllonddgbjgmdaa.P15

-- the reference
def Ag (E : En) (R : Nat) (bf : Nat → List AV) (F : Fl) (i : Int) : St := ⟨[.ptr 0 0 0, .junk, .junk, .int .i64 i] ++ junks 19, memS E R bf F⟩
def AgE (E : En) (R : Nat) (bf : Nat → List AV) (F : Fl) : St := ⟨junks 23, memS E R bf F⟩
def AgR (E : En) (R : Nat) (bf : Nat → List AV) (F : Fl) : St := ⟨junks 2 ++ [.bool false] ++ junks 20, memS E R bf F⟩
def obAg (M k : Nat) : Bool := andB (inB (Int.ofNat k) M) (andB (Nat.blt k M) true)
theorem obAg_true {M k : Nat} (h : k < M) : obAg M k = true := by unfold obAg; rw [inB_nat h, blt_lt h]; rfl
-- the program
def ixH (M : Nat) (g : Nat → Bool) : List Blk := [.rows false M 1 (bRow g)]
def Ix (M : Nat) (g : Nat → Bool) (i : Int) : St := ⟨[.slc 0 0 M, .bool false] ++ junks 5 ++ [.int .i64 M, .int .i64 i] ++ junks 10, ixH M g⟩
def IxE (M : Nat) (g : Nat → Bool) : St := ⟨junks 19, ixH M g⟩
def IxR (M : Nat) (g : Nat → Bool) (k : Nat) : St := ⟨junks 4 ++ [.int .i64 (Int.ofNat k)] ++ junks 14, ixH M g⟩
theorem stepAg (B : Nat) (E : En) (R : Nat) (bf : Nat → List AV) (F : Fl) (k : Nat) : evC JS Try.prog (callF Try.prog extK 20 8) noL 20 (loopN Try.prog 74 3) (Ag E R bf F (Int.ofNat k)) (kG B [0, 3] [2] none none) =
    some (.node (decide (Int.ofNat k < (E.M : Int))) (.node (!F.kn k) (.leaf (.ret, AgR E R bf F)) (.leaf (.nrm, Ag E R bf F (IntKind.i64.wrap (Int.ofNat k + 1))))) (.leaf (.ext 0, AgE E R bf F)), andB (impB (decide (Int.ofNat k < (E.M : Int))) (obAg E.M k)) true) := by kernel_rfl
def tAg (E : En) (R : Nat) (bf : Nat → List AV) (F : Fl) : Tr (AX × St) := .node (allB E.M fun k => !!F.kn k) (.leaf (.ext 0, AgE E R bf F)) (.leaf (.ret, AgR E R bf F))
theorem loopAg (B : Nat) (E : En) (R : Nat) (bf : Nat → List AV) (F : Fl) (hM : E.M ≤ few) : LoopOk Try.prog B (loopN Try.prog 74 3) (Ag E R bf F 0) (tAg E R bf F) :=
  loopF (callF_ok sxApart sxMixed extK_ok (N := 20) 8) sxMixed [0, 3] [2] none none (fun k => Ag E R bf F (Int.ofNat k)) (fun k => Ag E R bf F (IntKind.i64.wrap (Int.ofNat k + 1))) E.M (by have := few_eq; omega) (fun k => !F.kn k) (fun _ => (.ret, AgR E R bf F)) (.ext 0, AgE E R bf F) (obAg E.M) (fun _ h => by cases h) (fun h => by cases h) (stepAg B E R bf F) (fun k h => obAg_true h) fun k _ _ hw => by rw [hw]; exact SLe.refl _
theorem stepIx (M : Nat) (g : Nat → Bool) (k : Nat) : evC JS Try.prog (callF Try.prog extK 20 8) noL 20 (loopN Try.prog 118 3) (Ix M g (Int.ofNat k)) (kG 1 [0, 1, 7, 8] [4] none none) =
    some (.node (decide (Int.ofNat k < (M : Int))) (.node (false == g k) (.leaf (.ret, IxR M g k)) (.leaf (.nrm, Ix M g (IntKind.i64.wrap (Int.ofNat k + 1))))) (.leaf (.ext 0, IxE M g)), andB (impB (decide (Int.ofNat k < (M : Int))) (obAg M k)) true) := by kernel_rfl
def tIx (M : Nat) (g : Nat → Bool) : Tr (AX × St) := .node (allB M fun k => !(false == g k)) (.leaf (.ext 0, IxE M g)) (.leaf (.ret, IxR M g (fb (fun k => !(false == g k)) M)))
theorem loopIx {M : Nat} (g : Nat → Bool) (hM : M ≤ few) : LoopOk Try.prog 1 (loopN Try.prog 118 3) (Ix M g 0) (tIx M g) :=
  loopF (callF_ok sxApart sxMixed extK_ok (N := 20) 8) sxMixed [0, 1, 7, 8] [4] none none (fun k => Ix M g (Int.ofNat k)) (fun k => Ix M g (IntKind.i64.wrap (Int.ofNat k + 1))) M (by have := few_eq; omega) (fun k => false == g k) (fun k => (.ret, IxR M g k)) (.ext 0, IxE M g) (obAg M) (fun _ h => by cases h) (fun h => by cases h) (stepIx M g) (fun k h => obAg_true h) fun k _ _ hw => by rw [hw]; exact SLe.refl _
noncomputable def runIx (M : Nat) (g : Nat → Bool) : List AV → List Blk → Option Lf := selRun (runAtH [.slc 0 0 M, .lit (.bool false)] (ixH M g) (.leaf (.int .i64 (cond (allB M fun k => !(false == g k)) (-1) (Int.ofNat (fb (fun k => !(false == g k)) M))), none)) (Nat.ble M few))
noncomputable def okIx (M : Nat) (g : Nat → Bool) : Bool := andB (deq [.slc 0 0 M, .lit (.bool false)] [.slc 0 0 M, .lit (.bool false)]) (andB (deqH (ixH M g) (ixH M g)) (Nat.ble M few))
theorem okIx_true {M : Nat} (h : M ≤ few) (g : Nat → Bool) : okIx M g = true := by unfold okIx; rw [deq_self, deqH_self, Nat.ble_eq_true_of_le h]; rfl
theorem ixI (M : Nat) (g : Nat → Bool) : SumOk Try.prog 118 (runIx M g) := sum_atHl sxApart sxMixed extK_ok (loopAt 3 [0, 1, 7, 8] (Ix M g 0) (tIx M g) noL) (N := 20) (d := 8) fun hg => by
  refine ⟨loopAt_all (B := 1) (by decide +kernel) (loopIx g (Nat.le_of_ble_eq_true hg)) noL_all, _, ?_, LLe.refl _⟩
  have h : evF Try.prog extK (loopAt 3 [0, 1, 7, 8] (Ix M g 0) (tIx M g) noL) 20 8 118 [.slc 0 0 M, .bool false] (ixH M g) = some (.leaf (.int .i64 (cond (allB M fun k => !(false == g k)) (-1) (Int.ofNat (fb (fun k => !(false == g k)) M))), none), andB (deqS (Ix M g 0) (Ix M g 0)) true) := by kernel_rfl
  rw [deqS_self] at h
  exact h
theorem evAg (E : En) (R : Nat) (bf : Nat → List AV) (F : Fl) : evM Try.prog extK (loopAt 3 [0, 3] (Ag E R bf F 0) (tAg E R bf F) noL) 20 8 74 [.ptr 0 0 0] (memS E R bf F) = some (.node (allB E.M fun k => !!F.kn k) (.leaf (.lit (.bool true), some (memS E R bf F))) (.leaf (.bool false, some (memS E R bf F))), andB (deqS (Ag E R bf F 0) (Ag E R bf F 0)) true) := by kernel_rfl
def eT (n M : Nat) (c : Bt) (t : Ts) : En := ⟨true, true, false, n, M, c.row, t⟩
def isAg (H : List Blk) (R : Nat) : Prop := ∃ n M c t F, H = memS (eT n M c t) R (bF H 4) F ∧ M ≤ few
noncomputable def runAg (R : Nat) : List AV → List Blk → Option Lf := fun args H => match args with
  | [.ptr 0 0 0] => some (.leaf (.bool (allB (toES H).M fun k => !!(toFS H).kn k), some H), pB (isAg H R))
  | _ => none
theorem agS (R : Nat) : SumOk Try.prog 74 (selRunR (refX R) (runAg R)) := sum_selR sxApart sxMixed fun args H t hr hex => by
  unfold runAg at hr
  split at hr
  case h_2 => cases hr
  simp only [Option.some.injEq, Prod.mk.injEq] at hr
  obtain ⟨rfl, hr⟩ := hr
  obtain ⟨n, M, c, t, F, hH, hM⟩ := pB_of hr
  generalize bF H 4 = bf at *
  subst hH
  have he := evAg (eT n M c t) R bf F
  rw [deqS_self] at he
  refine ⟨extK, _, 20, 8, _, _, memS (eT n M c t) R bf F, HLe.refl _, extK_ok, loopAt_all (by decide +kernel) (loopAg _ (eT n M c t) R bf F hM) noL_all, fun _ _ h => h, he, ?_⟩
  show LLe (Tr.get (.node (allB M fun k => !!F.kn k) _ _)) (.bool (allB M fun k => !!F.kn k), some _)
  cases h : (allB M fun k => !!F.kn k) with
  | true => exact ⟨rfl, HLe.refl _⟩
  | false => exact ⟨rfl, HLe.refl _⟩
end Go.Proofs.Ytllonddgbjgmdaa.P16
set_option linter.unusedVariables false
set_option linter.unusedSimpArgs false
set_option maxRecDepth 100000
namespace Go.Proofs.Ytllonddgbjgmdaa.P21
open Go.Sx Go.Sx.R0 Go.RowKit Go.Proofs.Ytllonddgbjgmdaa.W1 Go.Proofs.Ytllonddgbjgmdaa.P1 Go.Proofs.Ytllonddgbjgmdaa.P2 Go.Proofs.Ytllonddgbjgmdaa.P3 Go.Proofs.Ytllonddgbjgmdaa.P4 Go.Proofs.Ytllonddgbjgmdaa.P5

/-- a note on the wire is dropped -/
theorem drop_step {E : En} {R : Nat} {F : Fl} (h : 0 < F.w) : P4.step E R F 4 0 = Fl.del F 0 := by
  have hc : code E F 4 0 = 0 := by
    unfold code
    rw [show decide ((0 : Int) ≥ (F.w : Int)) = false from decide_eq_false (by omega)]
    rfl
  unfold P4.step P4.move
  rw [hc]; rfl
theorem ask_step {E : En} {R : Nat} {F : Fl} {t : Nat} (hw : F.w = 0) (ht : t < E.M) (hk : F.kn t = false) : P4.step E R F 1 (t : Int) = F.add false (t : Int) := by
  have hc : code E F 1 (t : Int) = 0 := by
    unfold code
    rw [show decide ((t : Int) ≥ (E.M : Int)) = false from decide_eq_false (by omega), show F.kn (t : Int).toNat = false from hk, show decide ((F.w : Int) ≥ 10) = false from decide_eq_false (by omega)]
    rfl
  unfold P4.step
  rw [hc]; rfl
theorem deliver_step {E : En} {R : Nat} {F : Fl} (hw : 0 < F.w) : P4.step E R F 2 0 = Fl.come E R (Fl.del F 0) (F.wb 0) (F.wt 0) := by
  have hc : code E F 2 0 = 0 := by
    unfold code
    rw [show decide ((0 : Int) ≥ (F.w : Int)) = false from decide_eq_false (by omega)]
    rfl
  unfold P4.step P4.move
  rw [hc]; rfl
/-- a note that comes in without being an answer leaves one answer, and nothing else of what is asked here -/
theorem come_f {E : En} {R : Nat} {F : Fl} {x : Int} (hw : F.w = 0) : (Fl.come E R F false x).w = 1 ∧ (Fl.come E R F false x).wb 0 = true ∧ (Fl.come E R F false x).wt 0 = x ∧ (Fl.come E R F false x).kn = F.kn := by
  unfold Fl.come
  simp only [cond_false]
  cases F.was R (rm R x) x.toNat with
  | true =>
    simp only [cond_true]
    unfold Fl.add
    refine ⟨by simp only [hw], ?_, ?_, rfl⟩
    · simp only [hw]; rfl
    · simp only [hw]; rfl
  | false =>
    simp only [cond_false]
    unfold Fl.add
    refine ⟨by show F.w + 1 = 1; omega, ?_, ?_, rfl⟩
    · show cond (Nat.blt 0 F.w) _ true = true; rw [hw]; rfl
    · show cond (Nat.blt 0 F.w) _ x = x; rw [hw]; rfl
/-- asking and delivering twice makes a task known, and leaves the wire empty -/
theorem ask3 {E : En} {R : Nat} {F : Fl} {t : Nat} (hw : F.w = 0) (ht : t < E.M) (hk : F.kn t = false) :
    (P4.step E R (P4.step E R (P4.step E R F 1 (t : Int)) 2 0) 2 0).w = 0 ∧ (P4.step E R (P4.step E R (P4.step E R F 1 (t : Int)) 2 0) 2 0).kn = fun i => cond (Nat.beq i t) true (F.kn i) := by
  rw [ask_step hw ht hk]
  have w1 : (F.add false (t : Int)).w = 1 := by show F.w + 1 = 1; omega
  have b1 : (F.add false (t : Int)).wb 0 = false := by show cond (Nat.blt 0 F.w) _ false = false; rw [hw]; rfl
  have x1 : (F.add false (t : Int)).wt 0 = (t : Int) := by show cond (Nat.blt 0 F.w) _ (t : Int) = (t : Int); rw [hw]; rfl
  rw [deliver_step (F := F.add false (t : Int)) (by omega), b1, x1]
  have w2 : (Fl.del (F.add false (t : Int)) 0).w = 0 := by show (F.add false (t : Int)).w - 1 = 0; omega
  obtain ⟨e1, e2, e3, e4⟩ := come_f (E := E) (R := R) (x := (t : Int)) w2
  generalize Fl.come E R (Fl.del (F.add false (t : Int)) 0) false (t : Int) = G at *
  rw [deliver_step (F := G) (by omega), e2, e3]
  refine ⟨by show G.w - 1 = 0; omega, ?_⟩
  show (fun i => cond (Nat.beq i (t : Int).toNat) true (G.kn i)) = _
  rw [e4]; rfl
end Go.Proofs.Ytllonddgbjgmdaa.P21
set_option linter.unusedVariables false
set_option linter.unusedSimpArgs false
set_option maxRecDepth 100000
namespace Go.Proofs.Ytllonddgbjgmdaa.P19
open Go.Sx Go.Sx.R0 Go.RowKit Go.Proofs.Ytllonddgbjgmdaa.W1 Go.Proofs.Ytllonddgbjgmdaa.W3 Go.Proofs.Ytllonddgbjgmdaa.W5 Go.Proofs.Ytllonddgbjgmdaa.W9 Go.Proofs.Ytllonddgbjgmdaa.W10 Go.Proofs.Ytllonddgbjgmdaa.P1 Go.Proofs.Ytllonddgbjgmdaa.P2 Go.Proofs.Ytllonddgbjgmdaa.P3 Go.Proofs.Ytllonddgbjgmdaa.P4 Go.Proofs.Ytllonddgbjgmdaa.P5 Go.Proofs.Ytllonddgbjgmdaa.P6 Go.Proofs.Ytllonddgbjgmdaa.P7 Go.Proofs.Ytllonddgbjgmdaa.P8 Go.Proofs.Ytllonddgbjgmdaa.P9 Go.Proofs.Ytllonddgbjgmdaa.P10 Go.Proofs.Ytllonddgbjgmdaa.P11 Go.Proofs.Ytllonddgbjgmdaa.P12 Go.Proofs.Ytllonddgbjgmdaa.P13 Go.Proofs.Ytllonddgbjgmdaa.P14 Go.Proofs.Ytllonddgbjgmdaa.P15 Go.Proofs.Ytllonddgbjgmdaa.P17

-- the reference's loop over codes: all memory but the codes stands still
def pmF (r : Int) (R n m : Nat) (c : Bt) (d : Dd) (C : Nat → Int) (F : Fl) : List Blk :=
  [.rows false n 9 c.row, .rows false m 2 d.row, .one true [.nils, .nils, .nils, .nils, .nils],
   .one true [.ptr 5 0 0, .slc 6 0 (mOf c n), .slc 7 0 n, .slc 8 0 R, .slc 9 0 (mOf c n), .slc 10 0 (mOf c n), .slc 11 0 F.w], .rows true m 1 (crow C), .one true [.int .i64 r, .slc 0 0 n],
   .rows true (mOf c n) 3 (tsOf c n).row, .rows true n 8 F.vrow, .rows true R 1 (canT 12 (mOf c n) R), .rows true (mOf c n) 1 F.krow, .rows true (mOf c n) 1 F.srow, .rows true F.w 2 F.wrow] ++ bks (mOf c n) F R
def Fc (r : Int) (R n m : Nat) (c : Bt) (d : Dd) (C : Nat → Int) (F : Fl) (dn k : Int) : St := ⟨junks 4 ++ [.ptr 2 0 0] ++ junks 3 ++ [.ptr 3 0 0, .slc 4 0 m, .int .i64 dn, .int .i64 k] ++ junks 29, pmF r R n m c d C F⟩
def FcE (r : Int) (R n m : Nat) (c : Bt) (d : Dd) (C : Nat → Int) (F : Fl) (dn : Int) : St := ⟨junks 4 ++ [.ptr 2 0 0] ++ junks 3 ++ [.ptr 3 0 0, .junk, .int .i64 dn, .junk] ++ junks 29, pmF r R n m c d C F⟩
def obFc (m k : Nat) : Bool := andB (inB (Int.ofNat k) m) (andB (Nat.blt k m) true)
def gN : AX → St → Option (List Nat) := fun _ _ => none
theorem stepFc1 (B : Nat) (r : Int) (n m : Nat) (c : Bt) (d : Dd) (C : Nat → Int) (F : Fl) (dn : Int) (k : Nat) : evC JS Try.prog (callF Try.prog extK 20 8) noL 20 (loopN Try.prog 45 8) (Fc r 1 n m c d C F dn (Int.ofNat k)) (kH B [4, 8, 9, 10, 11] [4, 8, 10] gN) = some (.node (decide (Int.ofNat k < (m : Int))) (.leaf (.nrm, Fc r 1 n m c d C F (cond (C k == 0) (IntKind.i64.wrap (dn + 1)) dn) (IntKind.i64.wrap (Int.ofNat k + 1)))) (.leaf (.ext 0, FcE r 1 n m c d C F dn)), andB (impB (decide (Int.ofNat k < (m : Int))) (obFc m k)) true) := by kernel_rfl
theorem stepFc2 (B : Nat) (r : Int) (n m : Nat) (c : Bt) (d : Dd) (C : Nat → Int) (F : Fl) (dn : Int) (k : Nat) : evC JS Try.prog (callF Try.prog extK 20 8) noL 20 (loopN Try.prog 45 8) (Fc r 2 n m c d C F dn (Int.ofNat k)) (kH B [4, 8, 9, 10, 11] [4, 8, 10] gN) = some (.node (decide (Int.ofNat k < (m : Int))) (.leaf (.nrm, Fc r 2 n m c d C F (cond (C k == 0) (IntKind.i64.wrap (dn + 1)) dn) (IntKind.i64.wrap (Int.ofNat k + 1)))) (.leaf (.ext 0, FcE r 2 n m c d C F dn)), andB (impB (decide (Int.ofNat k < (m : Int))) (obFc m k)) true) := by kernel_rfl
theorem stepFc3 (B : Nat) (r : Int) (n m : Nat) (c : Bt) (d : Dd) (C : Nat → Int) (F : Fl) (dn : Int) (k : Nat) : evC JS Try.prog (callF Try.prog extK 20 8) noL 20 (loopN Try.prog 45 8) (Fc r 3 n m c d C F dn (Int.ofNat k)) (kH B [4, 8, 9, 10, 11] [4, 8, 10] gN) = some (.node (decide (Int.ofNat k < (m : Int))) (.leaf (.nrm, Fc r 3 n m c d C F (cond (C k == 0) (IntKind.i64.wrap (dn + 1)) dn) (IntKind.i64.wrap (Int.ofNat k + 1)))) (.leaf (.ext 0, FcE r 3 n m c d C F dn)), andB (impB (decide (Int.ofNat k < (m : Int))) (obFc m k)) true) := by kernel_rfl
theorem stepFc4 (B : Nat) (r : Int) (n m : Nat) (c : Bt) (d : Dd) (C : Nat → Int) (F : Fl) (dn : Int) (k : Nat) : evC JS Try.prog (callF Try.prog extK 20 8) noL 20 (loopN Try.prog 45 8) (Fc r 4 n m c d C F dn (Int.ofNat k)) (kH B [4, 8, 9, 10, 11] [4, 8, 10] gN) = some (.node (decide (Int.ofNat k < (m : Int))) (.leaf (.nrm, Fc r 4 n m c d C F (cond (C k == 0) (IntKind.i64.wrap (dn + 1)) dn) (IntKind.i64.wrap (Int.ofNat k + 1)))) (.leaf (.ext 0, FcE r 4 n m c d C F dn)), andB (impB (decide (Int.ofNat k < (m : Int))) (obFc m k)) true) := by kernel_rfl
theorem stepFc (B : Nat) (r : Int) {R : Nat} (h1 : 1 ≤ R) (h2 : R ≤ 4) (n m : Nat) (c : Bt) (d : Dd) (C : Nat → Int) (F : Fl) (dn : Int) (k : Nat) : evC JS Try.prog (callF Try.prog extK 20 8) noL 20 (loopN Try.prog 45 8) (Fc r R n m c d C F dn (Int.ofNat k)) (kH B [4, 8, 9, 10, 11] [4, 8, 10] gN) = some (.node (decide (Int.ofNat k < (m : Int))) (.leaf (.nrm, Fc r R n m c d C F (cond (C k == 0) (IntKind.i64.wrap (dn + 1)) dn) (IntKind.i64.wrap (Int.ofNat k + 1)))) (.leaf (.ext 0, FcE r R n m c d C F dn)), andB (impB (decide (Int.ofNat k < (m : Int))) (obFc m k)) true) := by
  have hR : R = 1 ∨ R = 2 ∨ R = 3 ∨ R = 4 := by omega
  rcases hR with rfl | rfl | rfl | rfl
  · exact stepFc1 B r n m c d C F dn k
  · exact stepFc2 B r n m c d C F dn k
  · exact stepFc3 B r n m c d C F dn k
  · exact stepFc4 B r n m c d C F dn k
def cnt (C : Nat → Int) : Nat → Nat
  | 0 => 0
  | k + 1 => cond (C k == 0) (cnt C k + 1) (cnt C k)
theorem cnt_le (C : Nat → Int) : ∀ k, cnt C k ≤ k
  | 0 => Nat.le_refl _
  | k + 1 => by
    have := cnt_le C k
    unfold cnt
    cases (C k == 0) with
    | true => simp only [cond_true]; omega
    | false => simp only [cond_false]; omega
theorem cnt_int (C : Nat → Int) {k : Nat} (h : k ≤ 1000) : cond (C k == 0) (IntKind.i64.wrap ((cnt C k : Int) + 1)) (cnt C k : Int) = (cnt C (k + 1) : Int) := by
  have := cnt_le C k
  rw [show cnt C (k + 1) = cond (C k == 0) (cnt C k + 1) (cnt C k) from rfl]
  cases (C k == 0) with
  | true => simp only [cond_true]; rw [wrap_i64 (by omega) (by omega)]; omega
  | false => rfl
theorem cnt_dnc (E : En) (R : Nat) (d : Dd) : ∀ k, cnt (sc E R d) k = dnc E R d k
  | 0 => rfl
  | k + 1 => by
    show cond _ (cnt (sc E R d) k + 1) (cnt (sc E R d) k) = _
    rw [cnt_dnc E R d k]; rfl
theorem loopFc (B : Nat) (r : Int) {R : Nat} (h1 : 1 ≤ R) (h2 : R ≤ 4) (n : Nat) {m : Nat} (hm : m ≤ 1000) (c : Bt) (d : Dd) (C : Nat → Int) (F : Fl) : LoopOk Try.prog B (loopN Try.prog 45 8) (Fc r R n m c d C F 0 0) (.leaf (.ext 0, FcE r R n m c d C F (cnt C m))) :=
  loop_allH (callF_ok sxApart sxMixed extK_ok (N := 20) 8) sxMixed (N := 20) (L := noL) (fun _ _ _ _ h => by cases h) [4, 8, 9, 10, 11] [4, 8, 10] gN (fun k => Fc r R n m c d C F (cnt C k) (Int.ofNat k)) m _ (fun h => by cases h)
    (fun k hk => by
      refine ⟨_, by rw [stepFc B r h1 h2, ofNat_lt, decide_eq_true hk, show obFc m k = true from by unfold obFc; rw [inB_nat hk, blt_lt hk]; rfl]; rfl, ?_⟩
      simp only [Tr.get, cond_true]
      rw [cnt_int C (by omega), wrap_i64 (n := Int.ofNat k + 1) (by simp only [Int.ofNat_eq_natCast]; omega) (by simp only [Int.ofNat_eq_natCast]; omega)]
      exact XLe.refl _)
    ⟨_, by rw [stepFc B r h1 h2, ofNat_lt, decide_eq_false (Nat.lt_irrefl m), imp_ff], XLe.refl _⟩
end Go.Proofs.Ytllonddgbjgmdaa.P19
set_option linter.unusedVariables false
set_option linter.unusedSimpArgs false
set_option maxRecDepth 100000
namespace Go.Sx
open Go.RowKit
/-- a call that reads memory that the caller names -/
def selRunF (ref : List AV → List Blk → List Nat) (run : List AV → List Blk → Option Lf) : List AV → List Blk → Option Lf := fun args H =>
  bif ltN (ref args H) (lenB H) then (match run (renVL (idxP (ref args H)) args) (gcH (idxP (ref args H)) (roH H) (ref args H)) with
  | some (t, o) => bif freshTr (ref args H) t then some (mapTr (fwdL (ref args H) H) t, o) else none
  | none => none) else none
section
variable {P : Program}
theorem sum_selF {ref : List AV → List Blk → List Nat} (hN : NoApart P) (hm : P.follows .mixedOrders = true) {f : FuncId} {run : List AV → List Blk → Option Lf}
    (h : ∀ args H t, run args H = some (t, true) → (∃ (ρ : List Place) (vals : List Value), VRels ρ args vals) → ∃ (K : CallerT) (L : LoopOr) (N d : Nat) (T' : Tr (AV × Option (List Blk))) (args' : List AV) (H2 : List Blk), HLe H H2 ∧ CallerTOk P K ∧
      (∀ fn c, P.funcs[f]? = some fn → fn.body = some c → ∀ body st l, LoopIn body c → L body st = some (l, true) → LoopOk P H2.length body st l) ∧ (∀ (ρ : List Place) (vals : List Value), VRels ρ args vals → VRels ρ args' vals) ∧ evF P K L N d f args' H2 = some (T', true) ∧ LLe T'.get t.get) : SumOk P f (selRunF ref run) := by
  intro args H t hr F W0 ρ W vals hC hv
  unfold selRunF at hr
  obtain ⟨hlt, hr⟩ := cond_some hr
  have hlt := ltN_spec hlt
  rw [lenB_eq] at hlt
  split at hr
  · rename_i t0 o h0
    obtain ⟨hfr, hr⟩ := cond_some hr
    simp only [Option.some.injEq, Prod.mk.injEq] at hr
    obtain ⟨rfl, rfl⟩ := hr
    obtain ⟨K, L, N, d, T', args', H2, hH2, hK, hL, hargs, he, hle, hle2⟩ := h _ _ t0 h0 ⟨_, _, renVL_rel (sel_ren ρ (ref args H)) hv⟩
    have hb : ∃ fn, P.funcs[f]? = some fn ∧ fn.body.isSome = true := by
      unfold evF at he
      split at he
      · rename_i fn hf
        exact ⟨fn, hf, evFn_body he⟩
      · cases he
    obtain ⟨fn, hf, hb⟩ := hb
    rw [enter_run hN hf hb, mapTr_get]
    generalize hmm : ref args H = m at *
    have hC1 := (hC.roOf.gc m fun k l b x _ _ hx hw => by
      rw [roH_get] at hx
      cases hz : H[b]? with
      | none => rw [hz] at hx; cases hx
      | some z => rw [hz] at hx; cases hx; rw [ro_wr] at hw; cases hw).weak hH2
    refine (evF_ok hN hm hK hL he hC1 (hargs _ _ (renVL_rel (sel_ren ρ m) hv))).mono fun e W' ⟨u, heu, ρ1, hext, hc1, hu, _⟩ => ⟨u, heu, ?_⟩
    have hu0 : VRel ρ1 t0.get.1 u := delitD_iff.1 (by rw [← hle]; exact delitD_iff.2 hu)
    generalize hT : T'.get = T at *
    generalize ht : t0.get = t1 at *
    obtain ⟨v', H1'⟩ := T
    obtain ⟨v, H1⟩ := t1
    have hl2 : H2.length = m.length := by rw [← hH2.len, gcH_len]
    cases H1 with
    | none =>
      cases H1' with
      | some _ => exact hle2.elim
      | none =>
        simp only [Sx.hp] at hc1
        have hlen : ρ1.length = m.length := by rw [hc1.rel.len, hl2]
        refine ⟨ρ, Ext.refl ρ, hC.below hc1.toBelow, ?_, Keep.refl H⟩
        simp only [fwdL]
        refine renV_rel (fun j k p hg hp => ?_) hu0
        have hj : j < m.length := by rw [← hlen]; exact (List.getElem?_eq_some_iff.1 hp).1
        unfold fwd at hg
        rw [nthN_eq, List.getElem?_eq_getElem hj] at hg
        simp only [Option.some.injEq] at hg
        subst hg
        have hb := hlt m[j] (List.getElem_mem hj)
        have hlr := hC.rel.len
        have h1 : (selP ρ m)[j]? = some ρ[m[j]] := by rw [selP_get, List.getElem?_eq_getElem hj]; simp [List.getD, List.getElem?_eq_getElem (show m[j] < ρ.length by omega)]
        have h2 := hext j _ h1
        rw [hp] at h2
        cases h2
        rw [List.getElem?_eq_getElem]
    | some H1 =>
      cases H1' with
      | none => exact hle2.elim
      | some H1' =>
        simp only [Sx.hp] at hc1
        have hc2 := hc1.weak hle2
        have hfr' := freshTr_get m t0 hfr H1 (by rw [ht])
        rw [dropN_eq] at hfr'
        obtain ⟨hren, hcl⟩ := hC.growR hc2 hext hlt hfr'
        refine ⟨ρ ++ ρ1.drop m.length, fun b p hp => by rw [List.getElem?_append_left (List.getElem?_eq_some_iff.1 hp).1]; exact hp, ?_, ?_, ?_⟩
        · simp only [Sx.hp, fwdL, appH_eq, dropN_eq, lenB_eq]; exact hcl
        · simp only [fwdL, lenB_eq]; exact renV_rel hren hu0
        · simp only [Sx.hp, fwdL, appH_eq]; simp [Keep]
  · cases hr
end
end Go.Sx
namespace Go.Proofs.Ytllonddgbjgmdaa.P22
open Go.Sx Go.Sx.R0 Go.RowKit Go.Proofs.Ytllonddgbjgmdaa.W1 Go.Proofs.Ytllonddgbjgmdaa.W2 Go.Proofs.Ytllonddgbjgmdaa.W3 Go.Proofs.Ytllonddgbjgmdaa.W5 Go.Proofs.Ytllonddgbjgmdaa.P1

structure Vs where
  v0 : Nat → Int
  v1 : Nat → Int
  v2 : Nat → Int
  v3 : Nat → Int
  v4 : Nat → Int
  v5 : Nat → Int
  v6 : Nat → Int
  v7 : Nat → Int
def Vs.row (c : Vs) (i : Nat) : List AV := [.int .i64 (c.v0 i), .int .i64 (c.v1 i), .int .i64 (c.v2 i), .int .i64 (c.v3 i), .int .i64 (c.v4 i), .int .i64 (c.v5 i), .int .i64 (c.v6 i), .int .i64 (c.v7 i)]
def Vs.upd (c : Vs) (k : Nat) (c' : Vs) : Vs := ⟨fun i => cond (Nat.beq i k) (c.v0 k) (c'.v0 i), fun i => cond (Nat.beq i k) (c.v1 k) (c'.v1 i), fun i => cond (Nat.beq i k) (c.v2 k) (c'.v2 i), fun i => cond (Nat.beq i k) (c.v3 k) (c'.v3 i), fun i => cond (Nat.beq i k) (c.v4 k) (c'.v4 i), fun i => cond (Nat.beq i k) (c.v5 k) (c'.v5 i), fun i => cond (Nat.beq i k) (c.v6 k) (c'.v6 i), fun i => cond (Nat.beq i k) (c.v7 k) (c'.v7 i)⟩
def Vs.upto (c : Vs) (k : Nat) : Vs := ⟨fun i => cond (Nat.blt i k) (c.v0 i) 0, fun i => cond (Nat.blt i k) (c.v1 i) 0, fun i => cond (Nat.blt i k) (c.v2 i) 0, fun i => cond (Nat.blt i k) (c.v3 i) 0, fun i => cond (Nat.blt i k) (c.v4 i) 0, fun i => cond (Nat.blt i k) (c.v5 i) 0, fun i => cond (Nat.blt i k) (c.v6 i) 0, fun i => cond (Nat.blt i k) (c.v7 i) 0⟩
def Vs.zero : Vs := ⟨fun _ => 0, fun _ => 0, fun _ => 0, fun _ => 0, fun _ => 0, fun _ => 0, fun _ => 0, fun _ => 0⟩
def Vs.ro1 (n : Nat) (c : Vs) : List Blk := [.rows false n 8 c.row]
def Vs.ro2 (n : Nat) (c : Vs) : List Blk := [.rows false n 8 c.row, .rows false n 8 c.row]
noncomputable def Vs.okT (n : Nat) (c : Vs) : Bool := andB (pB (∃ c0 : Vs, Vs.ro1 n c = Vs.ro1 n c0)) (Nat.ble n few)
theorem Vs.okT_true {n : Nat} (hn : Nat.ble n few = true) (c : Vs) : Vs.okT n c = true := by unfold Vs.okT; rw [pB_true ⟨c, rfl⟩, hn]; rfl
noncomputable def Vs.okE (n : Nat) (c : Vs) : Bool := andB (pB (∃ c0 : Vs, n = n ∧ Vs.ro2 n c = Vs.ro2 n c0)) (Nat.ble n few)
theorem Vs.okE_true {n : Nat} (hn : Nat.ble n few = true) (c : Vs) : Vs.okE n c = true := by unfold Vs.okE; rw [pB_true ⟨c, rfl, rfl⟩, hn]; rfl

def Vs.St2 (n : Nat) (c : Vs) (k : Int) : St := ⟨[.slc 0 0 n, .slc 1 0 n, .junk, .junk, .junk, .int .i64 k] ++ junks 21, Vs.ro2 n c⟩
def Vs.Rt2 (n : Nat) (c : Vs) (b : Bool) : St := ⟨[.junk, .junk, .junk, .junk, .bool b, .junk] ++ junks 21, Vs.ro2 n c⟩
def Vs.Ex2 (n : Nat) (c : Vs) : St := ⟨junks 27, Vs.ro2 n c⟩
/-- a row compared with itself -/
noncomputable def Vs.runEq : List AV → List Blk → Option Lf := fun args _ => some (.leaf (.bool true, none), pB (∃ (c : Vs) (i : Nat), args = [.agg (c.row i), .agg (c.row i)]))
theorem Vs.eq1_ok : SumOk Try.prog 25 Vs.runEq := sum_pure0 sxApart sxMixed extK_ok (N := 20) (d := 8) fun args H t hr => by
  unfold Vs.runEq at hr
  simp only [Option.some.injEq, Prod.mk.injEq] at hr
  obtain ⟨rfl, hr⟩ := hr
  obtain ⟨c, i, rfl⟩ := pB_of hr
  refine ⟨rfl, rfl, rfl, noL, fun _ _ _ _ => noL_ok, ?_⟩
  have h : evF Try.prog extK noL 20 8 25 [.agg (c.row i), .agg (c.row i)] [] = some (.leaf (.bool (cond (c.v0 i != c.v0 i) false (cond (c.v1 i != c.v1 i) false (cond (c.v2 i != c.v2 i) false (cond (c.v3 i != c.v3 i) false (cond (c.v4 i != c.v4 i) false (cond (c.v5 i != c.v5 i) false (cond (c.v6 i != c.v6 i) false (cond (c.v7 i != c.v7 i) false true)))))))), none), true) := by kernel_rfl
  refine ⟨_, h, ?_⟩
  simp [Tr.get, delitD, delit]
noncomputable def Vs.eqK : CallerT := addK 25 Vs.runEq extK
theorem Vs.eqK_ok : CallerTOk Try.prog Vs.eqK := addK_ok Vs.eq1_ok extK_ok
theorem Vs.step2 (n : Nat) (c : Vs) (k : Nat) :
    evC JS Try.prog (callF Try.prog Vs.eqK 20 8) noL 20 (loopN Try.prog 78 5) (Vs.St2 n c (Int.ofNat k)) (kG 2 [0, 1, 5] [4] none none) =
      some (.node (decide (Int.ofNat k < (n : Int))) (.node false (.leaf (.ret, Vs.Rt2 n c false)) (.leaf (.nrm, Vs.St2 n c (IntKind.i64.wrap (Int.ofNat k + 1))))) (.leaf (.ext 0, Vs.Ex2 n c)),
        ob2 (decide (Int.ofNat k < (n : Int))) (andB (andB (inB (Int.ofNat k) n) (andB (Nat.blt k n) (andB (inB (Int.ofNat k) n) (andB (Nat.blt k n) (andB (pB (∃ (c0 : Vs) (i0 : Nat), [AV.agg (c.row k), AV.agg (c.row k)] = [.agg (c0.row i0), .agg (c0.row i0)])) true))))) true) true) := by kernel_rfl
theorem Vs.loop2 (n : Nat) (hn : n ≤ few) (c : Vs) : LoopOk Try.prog 2 (loopN Try.prog 78 5) (Vs.St2 n c 0) (.leaf (.ext 0, Vs.Ex2 n c)) := by
  have hf : few = 1099511627776 := rfl
  exact loop_all (callF_ok sxApart sxMixed Vs.eqK_ok (N := 20) 8) sxMixed (body := loopN Try.prog 78 5) (L := noL) (N := 20) (B := 2) (fun _ _ _ _ h => by cases h) [0, 1, 5] [4] none none
    (fun k => Vs.St2 n c (Int.ofNat k)) n (.ext 0, Vs.Ex2 n c) (fun h => by cases h)
    (fun k hk => by
      have hp : pB (∃ (c0 : Vs) (i0 : Nat), [AV.agg (c.row k), AV.agg (c.row k)] = [.agg (c0.row i0), .agg (c0.row i0)]) = true := pB_true ⟨c, k, rfl⟩
      refine ⟨_, by rw [Vs.step2, hp, ofNat_lt, inB_nat hk, blt_lt hk, decide_eq_true hk]; rfl, rfl, ?_, HLe.refl _⟩
      simp only [Tr.get, Vs.St2]
      rw [wrap_i64 (by simp only [Int.ofNat_eq_natCast]; omega) (by simp only [Int.ofNat_eq_natCast]; omega)]
      rfl)
    (by
      refine ⟨_, by rw [Vs.step2, ofNat_lt, decide_eq_false (Nat.lt_irrefl n), ob2_f], rfl, rfl, ?_⟩
      exact HLe.refl _)

/-- rows compared with themselves -/
noncomputable def Vs.runEqS : List AV → List Blk → Option Lf := fun args H => match args with
  | [.slc 0 0 n, .slc 1 0 m] => some (.leaf (.bool true, none), andB (pB (∃ c : Vs, m = n ∧ H = Vs.ro2 n c)) (Nat.ble n few))
  | _ => none
theorem Vs.eq_ok : SumOk Try.prog 78 (selRun Vs.runEqS) := sum_sel sxApart sxMixed fun args H t hr => by
  unfold Vs.runEqS at hr
  split at hr
  case h_2 => cases hr
  rename_i n m
  simp only [Option.some.injEq, Prod.mk.injEq] at hr
  obtain ⟨rfl, hr⟩ := hr
  obtain ⟨h1, hn⟩ := andB_true hr
  obtain ⟨c, h2, rfl⟩ := pB_of h1
  have h2 := h2.symm
  subst h2
  rw [Nat.ble_eq] at hn
  refine ⟨Vs.eqK, loopAt 5 [0, 1, 5] (Vs.St2 n c 0) (.leaf (.ext 0, Vs.Ex2 n c)) noL, 20, 8, .leaf (.bool (cond (cond ((n : Int) == (n : Int)) false true) false true), none), Vs.eqK_ok,
    loopAt_all (B := 2) (by decide +kernel) (Vs.loop2 n hn c) noL_all, ?_, ?_⟩
  · have h : evF Try.prog Vs.eqK (loopAt 5 [0, 1, 5] (Vs.St2 n c 0) (.leaf (.ext 0, Vs.Ex2 n c)) noL) 20 8 78 [.slc 0 0 n, .slc 1 0 n] (Vs.ro2 n c) =
      some (.leaf (.bool (cond (cond ((n : Int) == (n : Int)) false true) false true), none), ob2 (cond ((n : Int) == (n : Int)) false true) true (andB (deqS (Vs.St2 n c 0) (Vs.St2 n c 0)) true)) := by kernel_rfl
    rw [deqS_self] at h
    rw [h]
    simp [ob2, impB, andB]
  · simp only [BEq.rfl, cond_true, cond_false]
    exact LLe.refl _

-- marks
/-- a row that holds the numbers from one on -/
def Vs.mrow (z : Int) : List AV := [(.int .i64 z), (.int .i64 (z + 1)), (.int .i64 (z + 2)), (.int .i64 (z + 3)), (.int .i64 (z + 4)), (.int .i64 (z + 5)), (.int .i64 (z + 6)), (.int .i64 (z + 7))]
def Vs.g0 (f : Nat → List AV) (k : Nat) (z : Int) : Nat → List AV := f
def Vs.g1 (f : Nat → List AV) (k : Nat) (z : Int) : Nat → List AV := Sx.upd (Vs.g0 f k z) k (pt (Vs.g0 f k z k) 0 (.int .i64 z))
def Vs.g2 (f : Nat → List AV) (k : Nat) (z : Int) : Nat → List AV := Sx.upd (Vs.g1 f k z) k (pt (Vs.g1 f k z k) 1 (.int .i64 (IntKind.i64.wrap (z + 1))))
def Vs.g3 (f : Nat → List AV) (k : Nat) (z : Int) : Nat → List AV := Sx.upd (Vs.g2 f k z) k (pt (Vs.g2 f k z k) 2 (.int .i64 (IntKind.i64.wrap ((IntKind.i64.wrap (z + 1)) + 1))))
def Vs.g4 (f : Nat → List AV) (k : Nat) (z : Int) : Nat → List AV := Sx.upd (Vs.g3 f k z) k (pt (Vs.g3 f k z k) 3 (.int .i64 (IntKind.i64.wrap ((IntKind.i64.wrap ((IntKind.i64.wrap (z + 1)) + 1)) + 1))))
def Vs.g5 (f : Nat → List AV) (k : Nat) (z : Int) : Nat → List AV := Sx.upd (Vs.g4 f k z) k (pt (Vs.g4 f k z k) 4 (.int .i64 (IntKind.i64.wrap ((IntKind.i64.wrap ((IntKind.i64.wrap ((IntKind.i64.wrap (z + 1)) + 1)) + 1)) + 1))))
def Vs.g6 (f : Nat → List AV) (k : Nat) (z : Int) : Nat → List AV := Sx.upd (Vs.g5 f k z) k (pt (Vs.g5 f k z k) 5 (.int .i64 (IntKind.i64.wrap ((IntKind.i64.wrap ((IntKind.i64.wrap ((IntKind.i64.wrap ((IntKind.i64.wrap (z + 1)) + 1)) + 1)) + 1)) + 1))))
def Vs.g7 (f : Nat → List AV) (k : Nat) (z : Int) : Nat → List AV := Sx.upd (Vs.g6 f k z) k (pt (Vs.g6 f k z k) 6 (.int .i64 (IntKind.i64.wrap ((IntKind.i64.wrap ((IntKind.i64.wrap ((IntKind.i64.wrap ((IntKind.i64.wrap ((IntKind.i64.wrap (z + 1)) + 1)) + 1)) + 1)) + 1)) + 1))))
def Vs.g8 (f : Nat → List AV) (k : Nat) (z : Int) : Nat → List AV := Sx.upd (Vs.g7 f k z) k (pt (Vs.g7 f k z k) 7 (.int .i64 (IntKind.i64.wrap ((IntKind.i64.wrap ((IntKind.i64.wrap ((IntKind.i64.wrap ((IntKind.i64.wrap ((IntKind.i64.wrap ((IntKind.i64.wrap (z + 1)) + 1)) + 1)) + 1)) + 1)) + 1)) + 1))))
def Vs.mkr (f : Nat → List AV) (k : Nat) (z : Int) : Nat → List AV := Vs.g8 f k z
def Vs.Sm (n : Nat) (f : Nat → List AV) (z k : Int) : St := ⟨[.slc 0 0 n, .int .i64 z, .junk, .junk, .junk, .int .i64 k] ++ junks 20, [.rows true n 8 f]⟩
def Vs.Em (n : Nat) (f : Nat → List AV) (z : Int) : St := ⟨[.junk, .int .i64 z] ++ junks 24, [.rows true n 8 f]⟩
def Vs.obm (n k : Nat) : Bool := andB (inB (Int.ofNat k) n) (andB (Nat.blt k n) (andB (inB (Int.ofNat k) n) (andB (Nat.blt k n) (andB (inB (Int.ofNat k) n) (andB (Nat.blt k n) (andB (inB (Int.ofNat k) n) (andB (Nat.blt k n) (andB (inB (Int.ofNat k) n) (andB (Nat.blt k n) (andB (inB (Int.ofNat k) n) (andB (Nat.blt k n) (andB (inB (Int.ofNat k) n) (andB (Nat.blt k n) (andB (inB (Int.ofNat k) n) (andB (Nat.blt k n) (true))))))))))))))))
theorem Vs.obm_true {n k : Nat} (h : k < n) : Vs.obm n k = true := by unfold Vs.obm; rw [inB_nat h, blt_lt h]; rfl
theorem Vs.stepm (n : Nat) (c : Vs) (z : Int) (k : Nat) : evC JS Try.prog (callF Try.prog extK 20 8) noL 20 (loopN Try.prog 82 3) (Vs.Sm n c.row z (Int.ofNat k)) (kA 1 [0, 1, 5] [1]) =
    some (.node (decide (Int.ofNat k < (n : Int))) (.leaf (.nrm, Vs.Sm n (Vs.mkr c.row k z) (IntKind.i64.wrap ((IntKind.i64.wrap ((IntKind.i64.wrap ((IntKind.i64.wrap ((IntKind.i64.wrap ((IntKind.i64.wrap ((IntKind.i64.wrap ((IntKind.i64.wrap (z + 1)) + 1)) + 1)) + 1)) + 1)) + 1)) + 1)) + 1)) (IntKind.i64.wrap (Int.ofNat k + 1)))) (.leaf (.ext 0, Vs.Em n c.row z)), andB (impB (decide (Int.ofNat k < (n : Int))) (Vs.obm n k)) true) := by kernel_rfl
theorem Vs.ga0 (c : Vs) (k : Nat) (z : Int) : Vs.g0 c.row k z k = [(.int .i64 (c.v0 k)), (.int .i64 (c.v1 k)), (.int .i64 (c.v2 k)), (.int .i64 (c.v3 k)), (.int .i64 (c.v4 k)), (.int .i64 (c.v5 k)), (.int .i64 (c.v6 k)), (.int .i64 (c.v7 k))] := rfl
theorem Vs.gn0 (c : Vs) {i k : Nat} (h : i ≠ k) (z : Int) : Vs.g0 c.row k z i = c.row i := rfl
theorem Vs.ga1 (c : Vs) (k : Nat) (z : Int) : Vs.g1 c.row k z k = [(.int .i64 z), (.int .i64 (c.v1 k)), (.int .i64 (c.v2 k)), (.int .i64 (c.v3 k)), (.int .i64 (c.v4 k)), (.int .i64 (c.v5 k)), (.int .i64 (c.v6 k)), (.int .i64 (c.v7 k))] := by
  unfold Vs.g1
  rw [upd_at, Vs.ga0]
  rfl
theorem Vs.gn1 (c : Vs) {i k : Nat} (h : i ≠ k) (z : Int) : Vs.g1 c.row k z i = c.row i := by
  unfold Vs.g1
  rw [upd_ne h, Vs.ga0, Vs.gn0 c h]
  rfl
theorem Vs.ga2 (c : Vs) (k : Nat) (z : Int) : Vs.g2 c.row k z k = [(.int .i64 z), (.int .i64 (IntKind.i64.wrap (z + 1))), (.int .i64 (c.v2 k)), (.int .i64 (c.v3 k)), (.int .i64 (c.v4 k)), (.int .i64 (c.v5 k)), (.int .i64 (c.v6 k)), (.int .i64 (c.v7 k))] := by
  unfold Vs.g2
  rw [upd_at, Vs.ga1]
  rfl
theorem Vs.gn2 (c : Vs) {i k : Nat} (h : i ≠ k) (z : Int) : Vs.g2 c.row k z i = c.row i := by
  unfold Vs.g2
  rw [upd_ne h, Vs.ga1, Vs.gn1 c h]
  rfl
theorem Vs.ga3 (c : Vs) (k : Nat) (z : Int) : Vs.g3 c.row k z k = [(.int .i64 z), (.int .i64 (IntKind.i64.wrap (z + 1))), (.int .i64 (IntKind.i64.wrap ((IntKind.i64.wrap (z + 1)) + 1))), (.int .i64 (c.v3 k)), (.int .i64 (c.v4 k)), (.int .i64 (c.v5 k)), (.int .i64 (c.v6 k)), (.int .i64 (c.v7 k))] := by
  unfold Vs.g3
  rw [upd_at, Vs.ga2]
  rfl
theorem Vs.gn3 (c : Vs) {i k : Nat} (h : i ≠ k) (z : Int) : Vs.g3 c.row k z i = c.row i := by
  unfold Vs.g3
  rw [upd_ne h, Vs.ga2, Vs.gn2 c h]
  rfl
theorem Vs.ga4 (c : Vs) (k : Nat) (z : Int) : Vs.g4 c.row k z k = [(.int .i64 z), (.int .i64 (IntKind.i64.wrap (z + 1))), (.int .i64 (IntKind.i64.wrap ((IntKind.i64.wrap (z + 1)) + 1))), (.int .i64 (IntKind.i64.wrap ((IntKind.i64.wrap ((IntKind.i64.wrap (z + 1)) + 1)) + 1))), (.int .i64 (c.v4 k)), (.int .i64 (c.v5 k)), (.int .i64 (c.v6 k)), (.int .i64 (c.v7 k))] := by
  unfold Vs.g4
  rw [upd_at, Vs.ga3]
  rfl
theorem Vs.gn4 (c : Vs) {i k : Nat} (h : i ≠ k) (z : Int) : Vs.g4 c.row k z i = c.row i := by
  unfold Vs.g4
  rw [upd_ne h, Vs.ga3, Vs.gn3 c h]
  rfl
theorem Vs.ga5 (c : Vs) (k : Nat) (z : Int) : Vs.g5 c.row k z k = [(.int .i64 z), (.int .i64 (IntKind.i64.wrap (z + 1))), (.int .i64 (IntKind.i64.wrap ((IntKind.i64.wrap (z + 1)) + 1))), (.int .i64 (IntKind.i64.wrap ((IntKind.i64.wrap ((IntKind.i64.wrap (z + 1)) + 1)) + 1))), (.int .i64 (IntKind.i64.wrap ((IntKind.i64.wrap ((IntKind.i64.wrap ((IntKind.i64.wrap (z + 1)) + 1)) + 1)) + 1))), (.int .i64 (c.v5 k)), (.int .i64 (c.v6 k)), (.int .i64 (c.v7 k))] := by
  unfold Vs.g5
  rw [upd_at, Vs.ga4]
  rfl
theorem Vs.gn5 (c : Vs) {i k : Nat} (h : i ≠ k) (z : Int) : Vs.g5 c.row k z i = c.row i := by
  unfold Vs.g5
  rw [upd_ne h, Vs.ga4, Vs.gn4 c h]
  rfl
theorem Vs.ga6 (c : Vs) (k : Nat) (z : Int) : Vs.g6 c.row k z k = [(.int .i64 z), (.int .i64 (IntKind.i64.wrap (z + 1))), (.int .i64 (IntKind.i64.wrap ((IntKind.i64.wrap (z + 1)) + 1))), (.int .i64 (IntKind.i64.wrap ((IntKind.i64.wrap ((IntKind.i64.wrap (z + 1)) + 1)) + 1))), (.int .i64 (IntKind.i64.wrap ((IntKind.i64.wrap ((IntKind.i64.wrap ((IntKind.i64.wrap (z + 1)) + 1)) + 1)) + 1))), (.int .i64 (IntKind.i64.wrap ((IntKind.i64.wrap ((IntKind.i64.wrap ((IntKind.i64.wrap ((IntKind.i64.wrap (z + 1)) + 1)) + 1)) + 1)) + 1))), (.int .i64 (c.v6 k)), (.int .i64 (c.v7 k))] := by
  unfold Vs.g6
  rw [upd_at, Vs.ga5]
  rfl
theorem Vs.gn6 (c : Vs) {i k : Nat} (h : i ≠ k) (z : Int) : Vs.g6 c.row k z i = c.row i := by
  unfold Vs.g6
  rw [upd_ne h, Vs.ga5, Vs.gn5 c h]
  rfl
theorem Vs.ga7 (c : Vs) (k : Nat) (z : Int) : Vs.g7 c.row k z k = [(.int .i64 z), (.int .i64 (IntKind.i64.wrap (z + 1))), (.int .i64 (IntKind.i64.wrap ((IntKind.i64.wrap (z + 1)) + 1))), (.int .i64 (IntKind.i64.wrap ((IntKind.i64.wrap ((IntKind.i64.wrap (z + 1)) + 1)) + 1))), (.int .i64 (IntKind.i64.wrap ((IntKind.i64.wrap ((IntKind.i64.wrap ((IntKind.i64.wrap (z + 1)) + 1)) + 1)) + 1))), (.int .i64 (IntKind.i64.wrap ((IntKind.i64.wrap ((IntKind.i64.wrap ((IntKind.i64.wrap ((IntKind.i64.wrap (z + 1)) + 1)) + 1)) + 1)) + 1))), (.int .i64 (IntKind.i64.wrap ((IntKind.i64.wrap ((IntKind.i64.wrap ((IntKind.i64.wrap ((IntKind.i64.wrap ((IntKind.i64.wrap (z + 1)) + 1)) + 1)) + 1)) + 1)) + 1))), (.int .i64 (c.v7 k))] := by
  unfold Vs.g7
  rw [upd_at, Vs.ga6]
  rfl
theorem Vs.gn7 (c : Vs) {i k : Nat} (h : i ≠ k) (z : Int) : Vs.g7 c.row k z i = c.row i := by
  unfold Vs.g7
  rw [upd_ne h, Vs.ga6, Vs.gn6 c h]
  rfl
theorem Vs.ga8 (c : Vs) (k : Nat) (z : Int) : Vs.g8 c.row k z k = [(.int .i64 z), (.int .i64 (IntKind.i64.wrap (z + 1))), (.int .i64 (IntKind.i64.wrap ((IntKind.i64.wrap (z + 1)) + 1))), (.int .i64 (IntKind.i64.wrap ((IntKind.i64.wrap ((IntKind.i64.wrap (z + 1)) + 1)) + 1))), (.int .i64 (IntKind.i64.wrap ((IntKind.i64.wrap ((IntKind.i64.wrap ((IntKind.i64.wrap (z + 1)) + 1)) + 1)) + 1))), (.int .i64 (IntKind.i64.wrap ((IntKind.i64.wrap ((IntKind.i64.wrap ((IntKind.i64.wrap ((IntKind.i64.wrap (z + 1)) + 1)) + 1)) + 1)) + 1))), (.int .i64 (IntKind.i64.wrap ((IntKind.i64.wrap ((IntKind.i64.wrap ((IntKind.i64.wrap ((IntKind.i64.wrap ((IntKind.i64.wrap (z + 1)) + 1)) + 1)) + 1)) + 1)) + 1))), (.int .i64 (IntKind.i64.wrap ((IntKind.i64.wrap ((IntKind.i64.wrap ((IntKind.i64.wrap ((IntKind.i64.wrap ((IntKind.i64.wrap ((IntKind.i64.wrap (z + 1)) + 1)) + 1)) + 1)) + 1)) + 1)) + 1)))] := by
  unfold Vs.g8
  rw [upd_at, Vs.ga7]
  rfl
theorem Vs.gn8 (c : Vs) {i k : Nat} (h : i ≠ k) (z : Int) : Vs.g8 c.row k z i = c.row i := by
  unfold Vs.g8
  rw [upd_ne h, Vs.ga7, Vs.gn7 c h]
  rfl
theorem Vs.mk_at (c : Vs) (k : Nat) (z : Int) : Vs.mkr c.row k z k = [(.int .i64 z), (.int .i64 (IntKind.i64.wrap (z + 1))), (.int .i64 (IntKind.i64.wrap ((IntKind.i64.wrap (z + 1)) + 1))), (.int .i64 (IntKind.i64.wrap ((IntKind.i64.wrap ((IntKind.i64.wrap (z + 1)) + 1)) + 1))), (.int .i64 (IntKind.i64.wrap ((IntKind.i64.wrap ((IntKind.i64.wrap ((IntKind.i64.wrap (z + 1)) + 1)) + 1)) + 1))), (.int .i64 (IntKind.i64.wrap ((IntKind.i64.wrap ((IntKind.i64.wrap ((IntKind.i64.wrap ((IntKind.i64.wrap (z + 1)) + 1)) + 1)) + 1)) + 1))), (.int .i64 (IntKind.i64.wrap ((IntKind.i64.wrap ((IntKind.i64.wrap ((IntKind.i64.wrap ((IntKind.i64.wrap ((IntKind.i64.wrap (z + 1)) + 1)) + 1)) + 1)) + 1)) + 1))), (.int .i64 (IntKind.i64.wrap ((IntKind.i64.wrap ((IntKind.i64.wrap ((IntKind.i64.wrap ((IntKind.i64.wrap ((IntKind.i64.wrap ((IntKind.i64.wrap (z + 1)) + 1)) + 1)) + 1)) + 1)) + 1)) + 1)))] := Vs.ga8 c k z
theorem Vs.mk_ne (c : Vs) {i k : Nat} (h : i ≠ k) (z : Int) : Vs.mkr c.row k z i = c.row i := Vs.gn8 c h z
theorem Vs.wraps {z : Int} (h0 : 0 ≤ z) (h1 : z ≤ 4611686018427387000) : (IntKind.i64.wrap (z + 1)) = z + 1 ∧ (IntKind.i64.wrap ((IntKind.i64.wrap (z + 1)) + 1)) = z + 2 ∧ (IntKind.i64.wrap ((IntKind.i64.wrap ((IntKind.i64.wrap (z + 1)) + 1)) + 1)) = z + 3 ∧ (IntKind.i64.wrap ((IntKind.i64.wrap ((IntKind.i64.wrap ((IntKind.i64.wrap (z + 1)) + 1)) + 1)) + 1)) = z + 4 ∧ (IntKind.i64.wrap ((IntKind.i64.wrap ((IntKind.i64.wrap ((IntKind.i64.wrap ((IntKind.i64.wrap (z + 1)) + 1)) + 1)) + 1)) + 1)) = z + 5 ∧ (IntKind.i64.wrap ((IntKind.i64.wrap ((IntKind.i64.wrap ((IntKind.i64.wrap ((IntKind.i64.wrap ((IntKind.i64.wrap (z + 1)) + 1)) + 1)) + 1)) + 1)) + 1)) = z + 6 ∧ (IntKind.i64.wrap ((IntKind.i64.wrap ((IntKind.i64.wrap ((IntKind.i64.wrap ((IntKind.i64.wrap ((IntKind.i64.wrap ((IntKind.i64.wrap (z + 1)) + 1)) + 1)) + 1)) + 1)) + 1)) + 1)) = z + 7 ∧ (IntKind.i64.wrap ((IntKind.i64.wrap ((IntKind.i64.wrap ((IntKind.i64.wrap ((IntKind.i64.wrap ((IntKind.i64.wrap ((IntKind.i64.wrap ((IntKind.i64.wrap (z + 1)) + 1)) + 1)) + 1)) + 1)) + 1)) + 1)) + 1)) = z + 8 := by
  have w1 : (IntKind.i64.wrap (z + 1)) = z + 1 := by rw [i64_small (by omega) (by omega)] <;> omega
  have w2 : (IntKind.i64.wrap ((IntKind.i64.wrap (z + 1)) + 1)) = z + 2 := by rw [w1, i64_small (by omega) (by omega)] <;> omega
  have w3 : (IntKind.i64.wrap ((IntKind.i64.wrap ((IntKind.i64.wrap (z + 1)) + 1)) + 1)) = z + 3 := by rw [w2, i64_small (by omega) (by omega)] <;> omega
  have w4 : (IntKind.i64.wrap ((IntKind.i64.wrap ((IntKind.i64.wrap ((IntKind.i64.wrap (z + 1)) + 1)) + 1)) + 1)) = z + 4 := by rw [w3, i64_small (by omega) (by omega)] <;> omega
  have w5 : (IntKind.i64.wrap ((IntKind.i64.wrap ((IntKind.i64.wrap ((IntKind.i64.wrap ((IntKind.i64.wrap (z + 1)) + 1)) + 1)) + 1)) + 1)) = z + 5 := by rw [w4, i64_small (by omega) (by omega)] <;> omega
  have w6 : (IntKind.i64.wrap ((IntKind.i64.wrap ((IntKind.i64.wrap ((IntKind.i64.wrap ((IntKind.i64.wrap ((IntKind.i64.wrap (z + 1)) + 1)) + 1)) + 1)) + 1)) + 1)) = z + 6 := by rw [w5, i64_small (by omega) (by omega)] <;> omega
  have w7 : (IntKind.i64.wrap ((IntKind.i64.wrap ((IntKind.i64.wrap ((IntKind.i64.wrap ((IntKind.i64.wrap ((IntKind.i64.wrap ((IntKind.i64.wrap (z + 1)) + 1)) + 1)) + 1)) + 1)) + 1)) + 1)) = z + 7 := by rw [w6, i64_small (by omega) (by omega)] <;> omega
  have w8 : (IntKind.i64.wrap ((IntKind.i64.wrap ((IntKind.i64.wrap ((IntKind.i64.wrap ((IntKind.i64.wrap ((IntKind.i64.wrap ((IntKind.i64.wrap ((IntKind.i64.wrap (z + 1)) + 1)) + 1)) + 1)) + 1)) + 1)) + 1)) + 1)) = z + 8 := by rw [w7, i64_small (by omega) (by omega)] <;> omega
  exact ⟨w1, w2, w3, w4, w5, w6, w7, w8⟩
def Vs.cm (c : Vs) (z : Int) (k : Nat) : Vs := ⟨fun t => cond (Nat.blt t k) (z + 8 * (t : Int)) (c.v0 t), fun t => cond (Nat.blt t k) (z + 8 * (t : Int) + 1) (c.v1 t), fun t => cond (Nat.blt t k) (z + 8 * (t : Int) + 2) (c.v2 t), fun t => cond (Nat.blt t k) (z + 8 * (t : Int) + 3) (c.v3 t), fun t => cond (Nat.blt t k) (z + 8 * (t : Int) + 4) (c.v4 t), fun t => cond (Nat.blt t k) (z + 8 * (t : Int) + 5) (c.v5 t), fun t => cond (Nat.blt t k) (z + 8 * (t : Int) + 6) (c.v6 t), fun t => cond (Nat.blt t k) (z + 8 * (t : Int) + 7) (c.v7 t)⟩
def Vs.mz (z : Int) : Vs := ⟨fun t => z + 8 * (t : Int), fun t => z + 8 * (t : Int) + 1, fun t => z + 8 * (t : Int) + 2, fun t => z + 8 * (t : Int) + 3, fun t => z + 8 * (t : Int) + 4, fun t => z + 8 * (t : Int) + 5, fun t => z + 8 * (t : Int) + 6, fun t => z + 8 * (t : Int) + 7⟩
theorem Vs.mz_row (z : Int) (t : Nat) : (Vs.mz z).row t = Vs.mrow (z + 8 * (t : Int)) := rfl
theorem Vs.cm_lt (c : Vs) (z : Int) {k t : Nat} (h : t < k) : (c.cm z k).row t = (Vs.mz z).row t := by simp only [Vs.cm, Vs.mz, Vs.row, blt_lt h, cond_true]
theorem Vs.cm_ge (c : Vs) (z : Int) {k t : Nat} (h : k ≤ t) : (c.cm z k).row t = c.row t := by simp only [Vs.cm, Vs.row, blt_ge h, cond_false]
theorem Vs.loopm (n : Nat) (hn : n ≤ few) (c : Vs) (z : Int) (h0 : 0 ≤ z) (h1 : z ≤ 1099511627776) : LoopOk Try.prog 1 (loopN Try.prog 82 3) (Vs.Sm n c.row z 0) (.leaf (.ext 0, Vs.Em n (Vs.mz z).row (z + 8 * (n : Int)))) := by
  have hf := few_eq
  have key := loop_allH (callF_ok sxApart sxMixed extK_ok (N := 20) 8) sxMixed (N := 20) (L := noL) (B := 1) (body := loopN Try.prog 82 3) (fun _ _ _ _ h => by cases h) [0, 1, 5] [1] (gA 1 [0, 1, 5] [1]) (fun k => Vs.Sm n (c.cm z k).row (z + 8 * (k : Int)) (Int.ofNat k)) n (.ext 0, Vs.Em n (Vs.mz z).row (z + 8 * (n : Int))) (fun h => by cases h)
    (fun k hk => by
      obtain ⟨w1, w2, w3, w4, w5, w6, w7, w8⟩ := Vs.wraps (z := z + 8 * (k : Int)) (by omega) (by omega)
      refine ⟨_, by rw [show kH 1 [0, 1, 5] [1] (gA 1 [0, 1, 5] [1]) = kA 1 [0, 1, 5] [1] from rfl, Vs.stepm, Vs.obm_true hk, ofNat_lt, decide_eq_true hk]; rfl, ?_⟩
      refine ⟨rfl, ?_, ⟨BLe.rows fun t ht => ?_, trivial⟩⟩
      · simp only [Tr.get, cond_true, Vs.Sm]
        rw [w8, wrap_i64 (n := Int.ofNat k + 1) (by simp only [Int.ofNat_eq_natCast]; omega) (by simp only [Int.ofNat_eq_natCast]; omega), show z + 8 * (k : Int) + 8 = z + 8 * ((k + 1 : Nat) : Int) by omega]
        rfl
      · by_cases hkt : t = k
        · subst hkt
          rw [Vs.mk_at, Vs.cm_lt c z (Nat.lt_succ_self t), w7, w6, w5, w4, w3, w2, w1]
          rfl
        · rw [Vs.mk_ne _ hkt]
          rcases Nat.lt_or_ge t k with h | h
          · rw [Vs.cm_lt c z h, Vs.cm_lt c z (show t < k + 1 by omega)]
          · rw [Vs.cm_ge c z h, Vs.cm_ge c z (show k + 1 ≤ t by omega)])
    (by
      refine ⟨_, by rw [show kH 1 [0, 1, 5] [1] (gA 1 [0, 1, 5] [1]) = kA 1 [0, 1, 5] [1] from rfl, Vs.stepm, ofNat_lt, decide_eq_false (Nat.lt_irrefl n), imp_ff], ?_⟩
      refine ⟨rfl, rfl, ⟨BLe.rows fun t ht => ?_, trivial⟩⟩
      rw [Vs.cm_lt c z ht])
  refine key.from ⟨?_, ⟨BLe.rows fun t _ => ?_, trivial⟩⟩
  · simp only [Vs.Sm, Int.natCast_zero, Int.mul_zero, Int.add_zero]
    rfl
  · rw [Vs.cm_ge c z (Nat.zero_le t)]
noncomputable def Vs.runMark : List AV → List Blk → Option Lf := fun args H => match args.map delit with
  | [.slc 0 0 n, .int .i64 z] => some (.leaf (.int .i64 (z + 8 * (n : Int)), some [.rows true n 8 (Vs.mz z).row]), andB (pB (∃ c : Vs, H = [.rows true n 8 c.row])) (andB (Nat.ble n few) (andB (decide (0 ≤ z)) (decide (z ≤ 1099511627776)))))
  | _ => none
theorem Vs.mark_ok : SumOk Try.prog 82 (selRunM Vs.runMark) := sum_selMG sxApart sxMixed fun args H t hr _ => by
  unfold Vs.runMark at hr
  split at hr
  case h_2 => cases hr
  rename_i n z hargs
  simp only [Option.some.injEq, Prod.mk.injEq] at hr
  obtain ⟨rfl, hr⟩ := hr
  obtain ⟨g1, hr⟩ := andB_true hr
  obtain ⟨g2, hr⟩ := andB_true hr
  obtain ⟨g3, g4⟩ := andB_true hr
  obtain ⟨c, rfl⟩ := pB_of g1
  have g3 := of_decide_eq_true g3
  have g4 := of_decide_eq_true g4
  refine ⟨extK, loopAt 3 [0, 1, 5] (Vs.Sm n c.row z 0) (.leaf (.ext 0, Vs.Em n (Vs.mz z).row (z + 8 * (n : Int)))) noL, 20, 8, _, [.slc 0 0 n, .int .i64 z], extK_ok, loopAt_all (B := 1) (by decide +kernel) (Vs.loopm n (Nat.le_of_ble_eq_true g2) c z g3 g4) noL_all, fun ρ vals hv => by rw [← hargs]; exact delits_rel hv, ?_, LLe.refl _⟩
  have h : evM Try.prog extK (loopAt 3 [0, 1, 5] (Vs.Sm n c.row z 0) (.leaf (.ext 0, Vs.Em n (Vs.mz z).row (z + 8 * (n : Int)))) noL) 20 8 82 [.slc 0 0 n, .int .i64 z] [.rows true n 8 c.row] = some (.leaf (.int .i64 (z + 8 * (n : Int)), some [.rows true n 8 (Vs.mz z).row]), andB (deqS (Vs.Sm n c.row z 0) (Vs.Sm n c.row z 0)) true) := by kernel_rfl
  rw [deqS_self] at h
  exact h
noncomputable def Vs.okM (n : Nat) (c : Vs) (z : Int) : Bool := andB (pB (∃ c0 : Vs, [Blk.rows true n 8 c.row] = [.rows true n 8 c0.row])) (andB (Nat.ble n few) (andB (decide (0 ≤ z)) (decide (z ≤ 1099511627776))))
theorem Vs.okM_true {n : Nat} (hn : Nat.ble n few = true) (c : Vs) {z : Int} (h0 : 0 ≤ z) (h1 : z ≤ 1099511627776) : Vs.okM n c z = true := by unfold Vs.okM; rw [pB_true ⟨c, rfl⟩, hn, decide_eq_true h0, decide_eq_true h1]; rfl
-- are they held
def Vs.Sh (n : Nat) (c : Vs) (z k : Int) : St := ⟨[.slc 0 0 n, .int .i64 z, .junk, .junk, .junk, .int .i64 k] ++ junks 22, [.rows false n 8 c.row]⟩
def Vs.Eh (n : Nat) (c : Vs) (z : Int) : St := ⟨[.junk, .int .i64 z] ++ junks 26, [.rows false n 8 c.row]⟩
def Vs.Rh (n : Nat) (c : Vs) (z : Int) : St := ⟨[.junk, .int .i64 z, .junk, .junk, .int .i64 (-1)] ++ junks (23), [.rows false n 8 c.row]⟩
theorem Vs.steph (n : Nat) (c : Vs) (z : Int) (k : Nat) : evC JS Try.prog (callF Try.prog extK 20 8) noL 20 (loopN Try.prog 86 3) (Vs.Sh n c z (Int.ofNat k)) (kA 1 [0, 1, 5] [1, 4]) =
    some (.node (decide (Int.ofNat k < (n : Int))) (.node (!(c.v0 k == z)) (.leaf (.ret, Vs.Rh n c z)) (.node (!(c.v1 k == (IntKind.i64.wrap (z + 1)))) (.leaf (.ret, Vs.Rh n c (IntKind.i64.wrap (z + 1)))) (.node (!(c.v2 k == (IntKind.i64.wrap ((IntKind.i64.wrap (z + 1)) + 1)))) (.leaf (.ret, Vs.Rh n c (IntKind.i64.wrap ((IntKind.i64.wrap (z + 1)) + 1)))) (.node (!(c.v3 k == (IntKind.i64.wrap ((IntKind.i64.wrap ((IntKind.i64.wrap (z + 1)) + 1)) + 1)))) (.leaf (.ret, Vs.Rh n c (IntKind.i64.wrap ((IntKind.i64.wrap ((IntKind.i64.wrap (z + 1)) + 1)) + 1)))) (.node (!(c.v4 k == (IntKind.i64.wrap ((IntKind.i64.wrap ((IntKind.i64.wrap ((IntKind.i64.wrap (z + 1)) + 1)) + 1)) + 1)))) (.leaf (.ret, Vs.Rh n c (IntKind.i64.wrap ((IntKind.i64.wrap ((IntKind.i64.wrap ((IntKind.i64.wrap (z + 1)) + 1)) + 1)) + 1)))) (.node (!(c.v5 k == (IntKind.i64.wrap ((IntKind.i64.wrap ((IntKind.i64.wrap ((IntKind.i64.wrap ((IntKind.i64.wrap (z + 1)) + 1)) + 1)) + 1)) + 1)))) (.leaf (.ret, Vs.Rh n c (IntKind.i64.wrap ((IntKind.i64.wrap ((IntKind.i64.wrap ((IntKind.i64.wrap ((IntKind.i64.wrap (z + 1)) + 1)) + 1)) + 1)) + 1)))) (.node (!(c.v6 k == (IntKind.i64.wrap ((IntKind.i64.wrap ((IntKind.i64.wrap ((IntKind.i64.wrap ((IntKind.i64.wrap ((IntKind.i64.wrap (z + 1)) + 1)) + 1)) + 1)) + 1)) + 1)))) (.leaf (.ret, Vs.Rh n c (IntKind.i64.wrap ((IntKind.i64.wrap ((IntKind.i64.wrap ((IntKind.i64.wrap ((IntKind.i64.wrap ((IntKind.i64.wrap (z + 1)) + 1)) + 1)) + 1)) + 1)) + 1)))) (.node (!(c.v7 k == (IntKind.i64.wrap ((IntKind.i64.wrap ((IntKind.i64.wrap ((IntKind.i64.wrap ((IntKind.i64.wrap ((IntKind.i64.wrap ((IntKind.i64.wrap (z + 1)) + 1)) + 1)) + 1)) + 1)) + 1)) + 1)))) (.leaf (.ret, Vs.Rh n c (IntKind.i64.wrap ((IntKind.i64.wrap ((IntKind.i64.wrap ((IntKind.i64.wrap ((IntKind.i64.wrap ((IntKind.i64.wrap ((IntKind.i64.wrap (z + 1)) + 1)) + 1)) + 1)) + 1)) + 1)) + 1)))) (.leaf (.nrm, Vs.Sh n c (IntKind.i64.wrap ((IntKind.i64.wrap ((IntKind.i64.wrap ((IntKind.i64.wrap ((IntKind.i64.wrap ((IntKind.i64.wrap ((IntKind.i64.wrap ((IntKind.i64.wrap (z + 1)) + 1)) + 1)) + 1)) + 1)) + 1)) + 1)) + 1)) (IntKind.i64.wrap (Int.ofNat k + 1)))))))))))) (.leaf (.ext 0, Vs.Eh n c z)), andB (impB (decide (Int.ofNat k < (n : Int))) (andB (inB (Int.ofNat k) n) (andB (Nat.blt k n) (impB (!(!(c.v0 k == z))) (andB (inB (Int.ofNat k) n) (andB (Nat.blt k n) (impB (!(!(c.v1 k == (IntKind.i64.wrap (z + 1))))) (andB (inB (Int.ofNat k) n) (andB (Nat.blt k n) (impB (!(!(c.v2 k == (IntKind.i64.wrap ((IntKind.i64.wrap (z + 1)) + 1))))) (andB (inB (Int.ofNat k) n) (andB (Nat.blt k n) (impB (!(!(c.v3 k == (IntKind.i64.wrap ((IntKind.i64.wrap ((IntKind.i64.wrap (z + 1)) + 1)) + 1))))) (andB (inB (Int.ofNat k) n) (andB (Nat.blt k n) (impB (!(!(c.v4 k == (IntKind.i64.wrap ((IntKind.i64.wrap ((IntKind.i64.wrap ((IntKind.i64.wrap (z + 1)) + 1)) + 1)) + 1))))) (andB (inB (Int.ofNat k) n) (andB (Nat.blt k n) (impB (!(!(c.v5 k == (IntKind.i64.wrap ((IntKind.i64.wrap ((IntKind.i64.wrap ((IntKind.i64.wrap ((IntKind.i64.wrap (z + 1)) + 1)) + 1)) + 1)) + 1))))) (andB (inB (Int.ofNat k) n) (andB (Nat.blt k n) (impB (!(!(c.v6 k == (IntKind.i64.wrap ((IntKind.i64.wrap ((IntKind.i64.wrap ((IntKind.i64.wrap ((IntKind.i64.wrap ((IntKind.i64.wrap (z + 1)) + 1)) + 1)) + 1)) + 1)) + 1))))) (andB (inB (Int.ofNat k) n) (andB (Nat.blt k n) true)))))))))))))))))))))))) true) := by kernel_rfl
theorem Vs.looph (n : Nat) (hn : n ≤ few) (z : Int) (h0 : 0 ≤ z) (h1 : z ≤ 1099511627776) : LoopOk Try.prog 1 (loopN Try.prog 86 3) (Vs.Sh n (Vs.mz z) z 0) (.leaf (.ext 0, Vs.Eh n (Vs.mz z) (z + 8 * (n : Int)))) := by
  have hf := few_eq
  have key := loop_allH (callF_ok sxApart sxMixed extK_ok (N := 20) 8) sxMixed (N := 20) (L := noL) (B := 1) (body := loopN Try.prog 86 3) (fun _ _ _ _ h => by cases h) [0, 1, 5] [1, 4] (gA 1 [0, 1, 5] [1, 4]) (fun k => Vs.Sh n (Vs.mz z) (z + 8 * (k : Int)) (Int.ofNat k)) n (.ext 0, Vs.Eh n (Vs.mz z) (z + 8 * (n : Int))) (fun h => by cases h)
    (fun k hk => by
      obtain ⟨w1, w2, w3, w4, w5, w6, w7, w8⟩ := Vs.wraps (z := z + 8 * (k : Int)) (by omega) (by omega)
      have c0 : (!((Vs.mz z).v0 k == (z + 8 * (k : Int)))) = false := by
        have e : (Vs.mz z).v0 k = (z + 8 * (k : Int)) := by rfl
        rw [e]; simp
      have c1 : (!((Vs.mz z).v1 k == (IntKind.i64.wrap ((z + 8 * (k : Int)) + 1)))) = false := by
        have e : (Vs.mz z).v1 k = (IntKind.i64.wrap ((z + 8 * (k : Int)) + 1)) := by rw [w1]; rfl
        rw [e]; simp
      have c2 : (!((Vs.mz z).v2 k == (IntKind.i64.wrap ((IntKind.i64.wrap ((z + 8 * (k : Int)) + 1)) + 1)))) = false := by
        have e : (Vs.mz z).v2 k = (IntKind.i64.wrap ((IntKind.i64.wrap ((z + 8 * (k : Int)) + 1)) + 1)) := by rw [w2]; rfl
        rw [e]; simp
      have c3 : (!((Vs.mz z).v3 k == (IntKind.i64.wrap ((IntKind.i64.wrap ((IntKind.i64.wrap ((z + 8 * (k : Int)) + 1)) + 1)) + 1)))) = false := by
        have e : (Vs.mz z).v3 k = (IntKind.i64.wrap ((IntKind.i64.wrap ((IntKind.i64.wrap ((z + 8 * (k : Int)) + 1)) + 1)) + 1)) := by rw [w3]; rfl
        rw [e]; simp
      have c4 : (!((Vs.mz z).v4 k == (IntKind.i64.wrap ((IntKind.i64.wrap ((IntKind.i64.wrap ((IntKind.i64.wrap ((z + 8 * (k : Int)) + 1)) + 1)) + 1)) + 1)))) = false := by
        have e : (Vs.mz z).v4 k = (IntKind.i64.wrap ((IntKind.i64.wrap ((IntKind.i64.wrap ((IntKind.i64.wrap ((z + 8 * (k : Int)) + 1)) + 1)) + 1)) + 1)) := by rw [w4]; rfl
        rw [e]; simp
      have c5 : (!((Vs.mz z).v5 k == (IntKind.i64.wrap ((IntKind.i64.wrap ((IntKind.i64.wrap ((IntKind.i64.wrap ((IntKind.i64.wrap ((z + 8 * (k : Int)) + 1)) + 1)) + 1)) + 1)) + 1)))) = false := by
        have e : (Vs.mz z).v5 k = (IntKind.i64.wrap ((IntKind.i64.wrap ((IntKind.i64.wrap ((IntKind.i64.wrap ((IntKind.i64.wrap ((z + 8 * (k : Int)) + 1)) + 1)) + 1)) + 1)) + 1)) := by rw [w5]; rfl
        rw [e]; simp
      have c6 : (!((Vs.mz z).v6 k == (IntKind.i64.wrap ((IntKind.i64.wrap ((IntKind.i64.wrap ((IntKind.i64.wrap ((IntKind.i64.wrap ((IntKind.i64.wrap ((z + 8 * (k : Int)) + 1)) + 1)) + 1)) + 1)) + 1)) + 1)))) = false := by
        have e : (Vs.mz z).v6 k = (IntKind.i64.wrap ((IntKind.i64.wrap ((IntKind.i64.wrap ((IntKind.i64.wrap ((IntKind.i64.wrap ((IntKind.i64.wrap ((z + 8 * (k : Int)) + 1)) + 1)) + 1)) + 1)) + 1)) + 1)) := by rw [w6]; rfl
        rw [e]; simp
      have c7 : (!((Vs.mz z).v7 k == (IntKind.i64.wrap ((IntKind.i64.wrap ((IntKind.i64.wrap ((IntKind.i64.wrap ((IntKind.i64.wrap ((IntKind.i64.wrap ((IntKind.i64.wrap ((z + 8 * (k : Int)) + 1)) + 1)) + 1)) + 1)) + 1)) + 1)) + 1)))) = false := by
        have e : (Vs.mz z).v7 k = (IntKind.i64.wrap ((IntKind.i64.wrap ((IntKind.i64.wrap ((IntKind.i64.wrap ((IntKind.i64.wrap ((IntKind.i64.wrap ((IntKind.i64.wrap ((z + 8 * (k : Int)) + 1)) + 1)) + 1)) + 1)) + 1)) + 1)) + 1)) := by rw [w7]; rfl
        rw [e]; simp
      refine ⟨_, by rw [show kH 1 [0, 1, 5] [1, 4] (gA 1 [0, 1, 5] [1, 4]) = kA 1 [0, 1, 5] [1, 4] from rfl, Vs.steph, inB_nat hk, blt_lt hk, ofNat_lt, decide_eq_true hk, c0, c1, c2, c3, c4, c5, c6, c7]; rfl, ?_⟩
      simp only [Tr.get, cond_true, cond_false]
      rw [w8, wrap_i64 (n := Int.ofNat k + 1) (by simp only [Int.ofNat_eq_natCast]; omega) (by simp only [Int.ofNat_eq_natCast]; omega), show z + 8 * (k : Int) + 8 = z + 8 * ((k + 1 : Nat) : Int) by omega]
      exact XLe.refl _)
    (by
      refine ⟨_, by rw [show kH 1 [0, 1, 5] [1, 4] (gA 1 [0, 1, 5] [1, 4]) = kA 1 [0, 1, 5] [1, 4] from rfl, Vs.steph, ofNat_lt, decide_eq_false (Nat.lt_irrefl n), imp_ff], XLe.refl _⟩)
  refine key.from ⟨?_, HLe.refl _⟩
  simp only [Vs.Sh, Int.natCast_zero, Int.mul_zero, Int.add_zero]
  rfl
noncomputable def Vs.runHeld : List AV → List Blk → Option Lf := fun args H => match args.map delit with
  | [.slc 0 0 n, .int .i64 z] => some (.leaf (.int .i64 (z + 8 * (n : Int)), none), andB (pB (H = Vs.ro1 n (Vs.mz z))) (andB (Nat.ble n few) (andB (decide (0 ≤ z)) (decide (z ≤ 1099511627776)))))
  | _ => none
theorem Vs.held_ok : SumOk Try.prog 86 (selRun Vs.runHeld) := sum_selG sxApart sxMixed fun args H t hr _ => by
  unfold Vs.runHeld at hr
  split at hr
  case h_2 => cases hr
  rename_i n z hargs
  simp only [Option.some.injEq, Prod.mk.injEq] at hr
  obtain ⟨rfl, hr⟩ := hr
  obtain ⟨g1, hr⟩ := andB_true hr
  obtain ⟨g2, hr⟩ := andB_true hr
  obtain ⟨g3, g4⟩ := andB_true hr
  obtain rfl := pB_of g1
  have g3 := of_decide_eq_true g3
  have g4 := of_decide_eq_true g4
  refine ⟨extK, loopAt 3 [0, 1, 5] (Vs.Sh n (Vs.mz z) z 0) (.leaf (.ext 0, Vs.Eh n (Vs.mz z) (z + 8 * (n : Int)))) noL, 20, 8, _, [.slc 0 0 n, .int .i64 z], extK_ok, loopAt_all (B := 1) (by decide +kernel) (Vs.looph n (Nat.le_of_ble_eq_true g2) z g3 g4) noL_all, fun ρ vals hv => by rw [← hargs]; exact delits_rel hv, ?_, LLe.refl _⟩
  have h : evF Try.prog extK (loopAt 3 [0, 1, 5] (Vs.Sh n (Vs.mz z) z 0) (.leaf (.ext 0, Vs.Eh n (Vs.mz z) (z + 8 * (n : Int)))) noL) 20 8 86 [.slc 0 0 n, .int .i64 z] (Vs.ro1 n (Vs.mz z)) = some (.leaf (.int .i64 (z + 8 * (n : Int)), none), andB (deqS (Vs.Sh n (Vs.mz z) z 0) (Vs.Sh n (Vs.mz z) z 0)) true) := by kernel_rfl
  rw [deqS_self] at h
  exact h
noncomputable def Vs.okH (n : Nat) (z : Int) : Bool := andB (pB (Vs.ro1 n (Vs.mz z) = Vs.ro1 n (Vs.mz z))) (andB (Nat.ble n few) (andB (decide (0 ≤ z)) (decide (z ≤ 1099511627776))))
theorem Vs.okH_true {n : Nat} (hn : Nat.ble n few = true) {z : Int} (h0 : 0 ≤ z) (h1 : z ≤ 1099511627776) : Vs.okH n z = true := by unfold Vs.okH; rw [pB_true rfl, hn, decide_eq_true h0, decide_eq_true h1]; rfl


structure Ns where
  b : Nat → Bool
  t : Nat → Int
def Ns.row (c : Ns) (i : Nat) : List AV := [.bool (c.b i), .int .i64 (c.t i)]
def Ns.upd (c : Ns) (k : Nat) (c' : Ns) : Ns := ⟨fun i => cond (Nat.beq i k) (c.b k) (c'.b i), fun i => cond (Nat.beq i k) (c.t k) (c'.t i)⟩
def Ns.upto (c : Ns) (k : Nat) : Ns := ⟨fun i => cond (Nat.blt i k) (c.b i) false, fun i => cond (Nat.blt i k) (c.t i) 0⟩
def Ns.zero : Ns := ⟨fun _ => false, fun _ => 0⟩
def Ns.ro1 (n : Nat) (c : Ns) : List Blk := [.rows false n 2 c.row]
def Ns.ro2 (n : Nat) (c : Ns) : List Blk := [.rows false n 2 c.row, .rows false n 2 c.row]
noncomputable def Ns.okT (n : Nat) (c : Ns) : Bool := andB (pB (∃ c0 : Ns, Ns.ro1 n c = Ns.ro1 n c0)) (Nat.ble n few)
theorem Ns.okT_true {n : Nat} (hn : Nat.ble n few = true) (c : Ns) : Ns.okT n c = true := by unfold Ns.okT; rw [pB_true ⟨c, rfl⟩, hn]; rfl
noncomputable def Ns.okE (n : Nat) (c : Ns) : Bool := andB (pB (∃ c0 : Ns, n = n ∧ Ns.ro2 n c = Ns.ro2 n c0)) (Nat.ble n few)
theorem Ns.okE_true {n : Nat} (hn : Nat.ble n few = true) (c : Ns) : Ns.okE n c = true := by unfold Ns.okE; rw [pB_true ⟨c, rfl, rfl⟩, hn]; rfl

def Ns.St2 (n : Nat) (c : Ns) (k : Int) : St := ⟨[.slc 0 0 n, .slc 1 0 n, .junk, .junk, .junk, .int .i64 k] ++ junks 21, Ns.ro2 n c⟩
def Ns.Rt2 (n : Nat) (c : Ns) (b : Bool) : St := ⟨[.junk, .junk, .junk, .junk, .bool b, .junk] ++ junks 21, Ns.ro2 n c⟩
def Ns.Ex2 (n : Nat) (c : Ns) : St := ⟨junks 27, Ns.ro2 n c⟩
/-- a row compared with itself -/
noncomputable def Ns.runEq : List AV → List Blk → Option Lf := fun args _ => some (.leaf (.bool true, none), pB (∃ (c : Ns) (i : Nat), args = [.agg (c.row i), .agg (c.row i)]))
theorem Ns.eq1_ok : SumOk Try.prog 113 Ns.runEq := sum_pure0 sxApart sxMixed extK_ok (N := 20) (d := 8) fun args H t hr => by
  unfold Ns.runEq at hr
  simp only [Option.some.injEq, Prod.mk.injEq] at hr
  obtain ⟨rfl, hr⟩ := hr
  obtain ⟨c, i, rfl⟩ := pB_of hr
  refine ⟨rfl, rfl, rfl, noL, fun _ _ _ _ => noL_ok, ?_⟩
  have h : evF Try.prog extK noL 20 8 113 [.agg (c.row i), .agg (c.row i)] [] = some (.leaf (.bool (cond (c.b i != c.b i) false (cond (c.t i != c.t i) false true)), none), true) := by kernel_rfl
  refine ⟨_, h, ?_⟩
  simp [Tr.get, delitD, delit]
noncomputable def Ns.eqK : CallerT := addK 113 Ns.runEq extK
theorem Ns.eqK_ok : CallerTOk Try.prog Ns.eqK := addK_ok Ns.eq1_ok extK_ok
theorem Ns.step2 (n : Nat) (c : Ns) (k : Nat) :
    evC JS Try.prog (callF Try.prog Ns.eqK 20 8) noL 20 (loopN Try.prog 81 5) (Ns.St2 n c (Int.ofNat k)) (kG 2 [0, 1, 5] [4] none none) =
      some (.node (decide (Int.ofNat k < (n : Int))) (.node false (.leaf (.ret, Ns.Rt2 n c false)) (.leaf (.nrm, Ns.St2 n c (IntKind.i64.wrap (Int.ofNat k + 1))))) (.leaf (.ext 0, Ns.Ex2 n c)),
        ob2 (decide (Int.ofNat k < (n : Int))) (andB (andB (inB (Int.ofNat k) n) (andB (Nat.blt k n) (andB (inB (Int.ofNat k) n) (andB (Nat.blt k n) (andB (pB (∃ (c0 : Ns) (i0 : Nat), [AV.agg (c.row k), AV.agg (c.row k)] = [.agg (c0.row i0), .agg (c0.row i0)])) true))))) true) true) := by kernel_rfl
theorem Ns.loop2 (n : Nat) (hn : n ≤ few) (c : Ns) : LoopOk Try.prog 2 (loopN Try.prog 81 5) (Ns.St2 n c 0) (.leaf (.ext 0, Ns.Ex2 n c)) := by
  have hf : few = 1099511627776 := rfl
  exact loop_all (callF_ok sxApart sxMixed Ns.eqK_ok (N := 20) 8) sxMixed (body := loopN Try.prog 81 5) (L := noL) (N := 20) (B := 2) (fun _ _ _ _ h => by cases h) [0, 1, 5] [4] none none
    (fun k => Ns.St2 n c (Int.ofNat k)) n (.ext 0, Ns.Ex2 n c) (fun h => by cases h)
    (fun k hk => by
      have hp : pB (∃ (c0 : Ns) (i0 : Nat), [AV.agg (c.row k), AV.agg (c.row k)] = [.agg (c0.row i0), .agg (c0.row i0)]) = true := pB_true ⟨c, k, rfl⟩
      refine ⟨_, by rw [Ns.step2, hp, ofNat_lt, inB_nat hk, blt_lt hk, decide_eq_true hk]; rfl, rfl, ?_, HLe.refl _⟩
      simp only [Tr.get, Ns.St2]
      rw [wrap_i64 (by simp only [Int.ofNat_eq_natCast]; omega) (by simp only [Int.ofNat_eq_natCast]; omega)]
      rfl)
    (by
      refine ⟨_, by rw [Ns.step2, ofNat_lt, decide_eq_false (Nat.lt_irrefl n), ob2_f], rfl, rfl, ?_⟩
      exact HLe.refl _)

/-- rows compared with themselves -/
noncomputable def Ns.runEqS : List AV → List Blk → Option Lf := fun args H => match args with
  | [.slc 0 0 n, .slc 1 0 m] => some (.leaf (.bool true, none), andB (pB (∃ c : Ns, m = n ∧ H = Ns.ro2 n c)) (Nat.ble n few))
  | _ => none
theorem Ns.eq_ok : SumOk Try.prog 81 (selRun Ns.runEqS) := sum_sel sxApart sxMixed fun args H t hr => by
  unfold Ns.runEqS at hr
  split at hr
  case h_2 => cases hr
  rename_i n m
  simp only [Option.some.injEq, Prod.mk.injEq] at hr
  obtain ⟨rfl, hr⟩ := hr
  obtain ⟨h1, hn⟩ := andB_true hr
  obtain ⟨c, h2, rfl⟩ := pB_of h1
  have h2 := h2.symm
  subst h2
  rw [Nat.ble_eq] at hn
  refine ⟨Ns.eqK, loopAt 5 [0, 1, 5] (Ns.St2 n c 0) (.leaf (.ext 0, Ns.Ex2 n c)) noL, 20, 8, .leaf (.bool (cond (cond ((n : Int) == (n : Int)) false true) false true), none), Ns.eqK_ok,
    loopAt_all (B := 2) (by decide +kernel) (Ns.loop2 n hn c) noL_all, ?_, ?_⟩
  · have h : evF Try.prog Ns.eqK (loopAt 5 [0, 1, 5] (Ns.St2 n c 0) (.leaf (.ext 0, Ns.Ex2 n c)) noL) 20 8 81 [.slc 0 0 n, .slc 1 0 n] (Ns.ro2 n c) =
      some (.leaf (.bool (cond (cond ((n : Int) == (n : Int)) false true) false true), none), ob2 (cond ((n : Int) == (n : Int)) false true) true (andB (deqS (Ns.St2 n c 0) (Ns.St2 n c 0)) true)) := by kernel_rfl
    rw [deqS_self] at h
    rw [h]
    simp [ob2, impB, andB]
  · simp only [BEq.rfl, cond_true, cond_false]
    exact LLe.refl _

-- marks
/-- a row that holds the numbers from one on -/
def Ns.mrow (z : Int) : List AV := [(.bool ((z).tmod 3 == 0)), (.int .i64 (z + 1))]
def Ns.mkr (f : Nat → List AV) (k : Nat) (z : Int) : Nat → List AV := let f1 := Sx.upd f k (pt (f k) 0 (.bool ((z).tmod 3 == 0))); let f2 := Sx.upd f1 k (pt (f1 k) 1 (.int .i64 (IntKind.i64.wrap (z + 1)))); f2
def Ns.Sm (n : Nat) (f : Nat → List AV) (z k : Int) : St := ⟨[.slc 0 0 n, .int .i64 z, .junk, .junk, .junk, .int .i64 k] ++ junks 23, [.rows true n 2 f]⟩
def Ns.Em (n : Nat) (f : Nat → List AV) (z : Int) : St := ⟨[.junk, .int .i64 z] ++ junks 27, [.rows true n 2 f]⟩
def Ns.obm (n k : Nat) : Bool := andB (inB (Int.ofNat k) n) (andB (Nat.blt k n) (andB (inB (Int.ofNat k) n) (andB (Nat.blt k n) (true))))
theorem Ns.obm_true {n k : Nat} (h : k < n) : Ns.obm n k = true := by unfold Ns.obm; rw [inB_nat h, blt_lt h]; rfl
theorem Ns.stepm (n : Nat) (c : Ns) (z : Int) (k : Nat) : evC JS Try.prog (callF Try.prog extK 20 8) noL 20 (loopN Try.prog 85 3) (Ns.Sm n c.row z (Int.ofNat k)) (kA 1 [0, 1, 5] [1]) =
    some (.node (decide (Int.ofNat k < (n : Int))) (.leaf (.nrm, Ns.Sm n (Ns.mkr c.row k z) (IntKind.i64.wrap ((IntKind.i64.wrap (z + 1)) + 1)) (IntKind.i64.wrap (Int.ofNat k + 1)))) (.leaf (.ext 0, Ns.Em n c.row z)), andB (impB (decide (Int.ofNat k < (n : Int))) (Ns.obm n k)) true) := by kernel_rfl
theorem Ns.mk_at (c : Ns) (k : Nat) (z : Int) : Ns.mkr c.row k z k = [(.bool ((z).tmod 3 == 0)), (.int .i64 (IntKind.i64.wrap (z + 1)))] := by
  unfold Ns.mkr
  simp only [upd_at]
  rfl
theorem Ns.mk_ne (c : Ns) {i k : Nat} (h : i ≠ k) (z : Int) : Ns.mkr c.row k z i = c.row i := by
  unfold Ns.mkr
  simp only [upd_ne h]
  rfl
theorem Ns.wraps {z : Int} (h0 : 0 ≤ z) (h1 : z ≤ 4611686018427387000) : (IntKind.i64.wrap (z + 1)) = z + 1 ∧ (IntKind.i64.wrap ((IntKind.i64.wrap (z + 1)) + 1)) = z + 2 := by
  have w1 : (IntKind.i64.wrap (z + 1)) = z + 1 := by rw [i64_small (by omega) (by omega)] <;> omega
  have w2 : (IntKind.i64.wrap ((IntKind.i64.wrap (z + 1)) + 1)) = z + 2 := by rw [w1, i64_small (by omega) (by omega)] <;> omega
  exact ⟨w1, w2⟩
def Ns.cm (c : Ns) (z : Int) (k : Nat) : Ns := ⟨fun t => cond (Nat.blt t k) (((z + 2 * (t : Int)).tmod 3 == 0)) (c.b t), fun t => cond (Nat.blt t k) (z + 2 * (t : Int) + 1) (c.t t)⟩
def Ns.mz (z : Int) : Ns := ⟨fun t => ((z + 2 * (t : Int)).tmod 3 == 0), fun t => z + 2 * (t : Int) + 1⟩
theorem Ns.mz_row (z : Int) (t : Nat) : (Ns.mz z).row t = Ns.mrow (z + 2 * (t : Int)) := rfl
theorem Ns.cm_lt (c : Ns) (z : Int) {k t : Nat} (h : t < k) : (c.cm z k).row t = (Ns.mz z).row t := by simp only [Ns.cm, Ns.mz, Ns.row, blt_lt h, cond_true]
theorem Ns.cm_ge (c : Ns) (z : Int) {k t : Nat} (h : k ≤ t) : (c.cm z k).row t = c.row t := by simp only [Ns.cm, Ns.row, blt_ge h, cond_false]
theorem Ns.loopm (n : Nat) (hn : n ≤ few) (c : Ns) (z : Int) (h0 : 0 ≤ z) (h1 : z ≤ 1099511627776) : LoopOk Try.prog 1 (loopN Try.prog 85 3) (Ns.Sm n c.row z 0) (.leaf (.ext 0, Ns.Em n (Ns.mz z).row (z + 2 * (n : Int)))) := by
  have hf := few_eq
  have key := loop_allH (callF_ok sxApart sxMixed extK_ok (N := 20) 8) sxMixed (N := 20) (L := noL) (B := 1) (body := loopN Try.prog 85 3) (fun _ _ _ _ h => by cases h) [0, 1, 5] [1] (gA 1 [0, 1, 5] [1]) (fun k => Ns.Sm n (c.cm z k).row (z + 2 * (k : Int)) (Int.ofNat k)) n (.ext 0, Ns.Em n (Ns.mz z).row (z + 2 * (n : Int))) (fun h => by cases h)
    (fun k hk => by
      obtain ⟨w1, w2⟩ := Ns.wraps (z := z + 2 * (k : Int)) (by omega) (by omega)
      refine ⟨_, by rw [show kH 1 [0, 1, 5] [1] (gA 1 [0, 1, 5] [1]) = kA 1 [0, 1, 5] [1] from rfl, Ns.stepm, Ns.obm_true hk, ofNat_lt, decide_eq_true hk]; rfl, ?_⟩
      refine ⟨rfl, ?_, ⟨BLe.rows fun t ht => ?_, trivial⟩⟩
      · simp only [Tr.get, cond_true, Ns.Sm]
        rw [w2, wrap_i64 (n := Int.ofNat k + 1) (by simp only [Int.ofNat_eq_natCast]; omega) (by simp only [Int.ofNat_eq_natCast]; omega), show z + 2 * (k : Int) + 2 = z + 2 * ((k + 1 : Nat) : Int) by omega]
        rfl
      · by_cases hkt : t = k
        · subst hkt
          rw [Ns.mk_at, Ns.cm_lt c z (Nat.lt_succ_self t), w1]
          rfl
        · rw [Ns.mk_ne _ hkt]
          rcases Nat.lt_or_ge t k with h | h
          · rw [Ns.cm_lt c z h, Ns.cm_lt c z (show t < k + 1 by omega)]
          · rw [Ns.cm_ge c z h, Ns.cm_ge c z (show k + 1 ≤ t by omega)])
    (by
      refine ⟨_, by rw [show kH 1 [0, 1, 5] [1] (gA 1 [0, 1, 5] [1]) = kA 1 [0, 1, 5] [1] from rfl, Ns.stepm, ofNat_lt, decide_eq_false (Nat.lt_irrefl n), imp_ff], ?_⟩
      refine ⟨rfl, rfl, ⟨BLe.rows fun t ht => ?_, trivial⟩⟩
      rw [Ns.cm_lt c z ht])
  refine key.from ⟨?_, ⟨BLe.rows fun t _ => ?_, trivial⟩⟩
  · simp only [Ns.Sm, Int.natCast_zero, Int.mul_zero, Int.add_zero]
    rfl
  · rw [Ns.cm_ge c z (Nat.zero_le t)]
noncomputable def Ns.runMark : List AV → List Blk → Option Lf := fun args H => match args.map delit with
  | [.slc 0 0 n, .int .i64 z] => some (.leaf (.int .i64 (z + 2 * (n : Int)), some [.rows true n 2 (Ns.mz z).row]), andB (pB (∃ c : Ns, H = [.rows true n 2 c.row])) (andB (Nat.ble n few) (andB (decide (0 ≤ z)) (decide (z ≤ 1099511627776)))))
  | _ => none
theorem Ns.mark_ok : SumOk Try.prog 85 (selRunM Ns.runMark) := sum_selMG sxApart sxMixed fun args H t hr _ => by
  unfold Ns.runMark at hr
  split at hr
  case h_2 => cases hr
  rename_i n z hargs
  simp only [Option.some.injEq, Prod.mk.injEq] at hr
  obtain ⟨rfl, hr⟩ := hr
  obtain ⟨g1, hr⟩ := andB_true hr
  obtain ⟨g2, hr⟩ := andB_true hr
  obtain ⟨g3, g4⟩ := andB_true hr
  obtain ⟨c, rfl⟩ := pB_of g1
  have g3 := of_decide_eq_true g3
  have g4 := of_decide_eq_true g4
  refine ⟨extK, loopAt 3 [0, 1, 5] (Ns.Sm n c.row z 0) (.leaf (.ext 0, Ns.Em n (Ns.mz z).row (z + 2 * (n : Int)))) noL, 20, 8, _, [.slc 0 0 n, .int .i64 z], extK_ok, loopAt_all (B := 1) (by decide +kernel) (Ns.loopm n (Nat.le_of_ble_eq_true g2) c z g3 g4) noL_all, fun ρ vals hv => by rw [← hargs]; exact delits_rel hv, ?_, LLe.refl _⟩
  have h : evM Try.prog extK (loopAt 3 [0, 1, 5] (Ns.Sm n c.row z 0) (.leaf (.ext 0, Ns.Em n (Ns.mz z).row (z + 2 * (n : Int)))) noL) 20 8 85 [.slc 0 0 n, .int .i64 z] [.rows true n 2 c.row] = some (.leaf (.int .i64 (z + 2 * (n : Int)), some [.rows true n 2 (Ns.mz z).row]), andB (deqS (Ns.Sm n c.row z 0) (Ns.Sm n c.row z 0)) true) := by kernel_rfl
  rw [deqS_self] at h
  exact h
noncomputable def Ns.okM (n : Nat) (c : Ns) (z : Int) : Bool := andB (pB (∃ c0 : Ns, [Blk.rows true n 2 c.row] = [.rows true n 2 c0.row])) (andB (Nat.ble n few) (andB (decide (0 ≤ z)) (decide (z ≤ 1099511627776))))
theorem Ns.okM_true {n : Nat} (hn : Nat.ble n few = true) (c : Ns) {z : Int} (h0 : 0 ≤ z) (h1 : z ≤ 1099511627776) : Ns.okM n c z = true := by unfold Ns.okM; rw [pB_true ⟨c, rfl⟩, hn, decide_eq_true h0, decide_eq_true h1]; rfl
-- are they held
def Ns.Sh (n : Nat) (c : Ns) (z k : Int) : St := ⟨[.slc 0 0 n, .int .i64 z, .junk, .junk, .junk, .int .i64 k] ++ junks 27, [.rows false n 2 c.row]⟩
def Ns.Eh (n : Nat) (c : Ns) (z : Int) : St := ⟨[.junk, .int .i64 z] ++ junks 31, [.rows false n 2 c.row]⟩
def Ns.Rh (n : Nat) (c : Ns) (z : Int) : St := ⟨[.junk, .int .i64 z, .junk, .junk, .int .i64 (-1)] ++ junks (28), [.rows false n 2 c.row]⟩
theorem Ns.steph (n : Nat) (c : Ns) (z : Int) (k : Nat) : evC JS Try.prog (callF Try.prog extK 20 8) noL 20 (loopN Try.prog 89 3) (Ns.Sh n c z (Int.ofNat k)) (kA 1 [0, 1, 5] [1, 4]) =
    some (.node (decide (Int.ofNat k < (n : Int))) (.node (!(c.b k == ((z).tmod 3 == 0))) (.leaf (.ret, Ns.Rh n c z)) (.node (!(c.t k == (IntKind.i64.wrap (z + 1)))) (.leaf (.ret, Ns.Rh n c (IntKind.i64.wrap (z + 1)))) (.leaf (.nrm, Ns.Sh n c (IntKind.i64.wrap ((IntKind.i64.wrap (z + 1)) + 1)) (IntKind.i64.wrap (Int.ofNat k + 1)))))) (.leaf (.ext 0, Ns.Eh n c z)), andB (impB (decide (Int.ofNat k < (n : Int))) (andB (inB (Int.ofNat k) n) (andB (Nat.blt k n) (impB (!(!(c.b k == ((z).tmod 3 == 0)))) (andB (inB (Int.ofNat k) n) (andB (Nat.blt k n) true)))))) true) := by kernel_rfl
theorem Ns.looph (n : Nat) (hn : n ≤ few) (z : Int) (h0 : 0 ≤ z) (h1 : z ≤ 1099511627776) : LoopOk Try.prog 1 (loopN Try.prog 89 3) (Ns.Sh n (Ns.mz z) z 0) (.leaf (.ext 0, Ns.Eh n (Ns.mz z) (z + 2 * (n : Int)))) := by
  have hf := few_eq
  have key := loop_allH (callF_ok sxApart sxMixed extK_ok (N := 20) 8) sxMixed (N := 20) (L := noL) (B := 1) (body := loopN Try.prog 89 3) (fun _ _ _ _ h => by cases h) [0, 1, 5] [1, 4] (gA 1 [0, 1, 5] [1, 4]) (fun k => Ns.Sh n (Ns.mz z) (z + 2 * (k : Int)) (Int.ofNat k)) n (.ext 0, Ns.Eh n (Ns.mz z) (z + 2 * (n : Int))) (fun h => by cases h)
    (fun k hk => by
      obtain ⟨w1, w2⟩ := Ns.wraps (z := z + 2 * (k : Int)) (by omega) (by omega)
      have c0 : (!((Ns.mz z).b k == (((z + 2 * (k : Int))).tmod 3 == 0))) = false := by
        have e : (Ns.mz z).b k = (((z + 2 * (k : Int))).tmod 3 == 0) := by rfl
        rw [e]; simp
      have c1 : (!((Ns.mz z).t k == (IntKind.i64.wrap ((z + 2 * (k : Int)) + 1)))) = false := by
        have e : (Ns.mz z).t k = (IntKind.i64.wrap ((z + 2 * (k : Int)) + 1)) := by rw [w1]; rfl
        rw [e]; simp
      refine ⟨_, by rw [show kH 1 [0, 1, 5] [1, 4] (gA 1 [0, 1, 5] [1, 4]) = kA 1 [0, 1, 5] [1, 4] from rfl, Ns.steph, inB_nat hk, blt_lt hk, ofNat_lt, decide_eq_true hk, c0, c1]; rfl, ?_⟩
      simp only [Tr.get, cond_true, cond_false]
      rw [w2, wrap_i64 (n := Int.ofNat k + 1) (by simp only [Int.ofNat_eq_natCast]; omega) (by simp only [Int.ofNat_eq_natCast]; omega), show z + 2 * (k : Int) + 2 = z + 2 * ((k + 1 : Nat) : Int) by omega]
      exact XLe.refl _)
    (by
      refine ⟨_, by rw [show kH 1 [0, 1, 5] [1, 4] (gA 1 [0, 1, 5] [1, 4]) = kA 1 [0, 1, 5] [1, 4] from rfl, Ns.steph, ofNat_lt, decide_eq_false (Nat.lt_irrefl n), imp_ff], XLe.refl _⟩)
  refine key.from ⟨?_, HLe.refl _⟩
  simp only [Ns.Sh, Int.natCast_zero, Int.mul_zero, Int.add_zero]
  rfl
noncomputable def Ns.runHeld : List AV → List Blk → Option Lf := fun args H => match args.map delit with
  | [.slc 0 0 n, .int .i64 z] => some (.leaf (.int .i64 (z + 2 * (n : Int)), none), andB (pB (H = Ns.ro1 n (Ns.mz z))) (andB (Nat.ble n few) (andB (decide (0 ≤ z)) (decide (z ≤ 1099511627776)))))
  | _ => none
theorem Ns.held_ok : SumOk Try.prog 89 (selRun Ns.runHeld) := sum_selG sxApart sxMixed fun args H t hr _ => by
  unfold Ns.runHeld at hr
  split at hr
  case h_2 => cases hr
  rename_i n z hargs
  simp only [Option.some.injEq, Prod.mk.injEq] at hr
  obtain ⟨rfl, hr⟩ := hr
  obtain ⟨g1, hr⟩ := andB_true hr
  obtain ⟨g2, hr⟩ := andB_true hr
  obtain ⟨g3, g4⟩ := andB_true hr
  obtain rfl := pB_of g1
  have g3 := of_decide_eq_true g3
  have g4 := of_decide_eq_true g4
  refine ⟨extK, loopAt 3 [0, 1, 5] (Ns.Sh n (Ns.mz z) z 0) (.leaf (.ext 0, Ns.Eh n (Ns.mz z) (z + 2 * (n : Int)))) noL, 20, 8, _, [.slc 0 0 n, .int .i64 z], extK_ok, loopAt_all (B := 1) (by decide +kernel) (Ns.looph n (Nat.le_of_ble_eq_true g2) z g3 g4) noL_all, fun ρ vals hv => by rw [← hargs]; exact delits_rel hv, ?_, LLe.refl _⟩
  have h : evF Try.prog extK (loopAt 3 [0, 1, 5] (Ns.Sh n (Ns.mz z) z 0) (.leaf (.ext 0, Ns.Eh n (Ns.mz z) (z + 2 * (n : Int)))) noL) 20 8 89 [.slc 0 0 n, .int .i64 z] (Ns.ro1 n (Ns.mz z)) = some (.leaf (.int .i64 (z + 2 * (n : Int)), none), andB (deqS (Ns.Sh n (Ns.mz z) z 0) (Ns.Sh n (Ns.mz z) z 0)) true) := by kernel_rfl
  rw [deqS_self] at h
  exact h
noncomputable def Ns.okH (n : Nat) (z : Int) : Bool := andB (pB (Ns.ro1 n (Ns.mz z) = Ns.ro1 n (Ns.mz z))) (andB (Nat.ble n few) (andB (decide (0 ≤ z)) (decide (z ≤ 1099511627776))))
theorem Ns.okH_true {n : Nat} (hn : Nat.ble n few = true) {z : Int} (h0 : 0 ≤ z) (h1 : z ≤ 1099511627776) : Ns.okH n z = true := by unfold Ns.okH; rw [pB_true rfl, hn, decide_eq_true h0, decide_eq_true h1]; rfl


structure Bs where
  b : Nat → Bool
def Bs.row (c : Bs) (i : Nat) : List AV := [.bool (c.b i)]
def Bs.upd (c : Bs) (k : Nat) (c' : Bs) : Bs := ⟨fun i => cond (Nat.beq i k) (c.b k) (c'.b i)⟩
def Bs.upto (c : Bs) (k : Nat) : Bs := ⟨fun i => cond (Nat.blt i k) (c.b i) false⟩
def Bs.zero : Bs := ⟨fun _ => false⟩
def Bs.ro1 (n : Nat) (c : Bs) : List Blk := [.rows false n 1 c.row]
def Bs.ro2 (n : Nat) (c : Bs) : List Blk := [.rows false n 1 c.row, .rows false n 1 c.row]
noncomputable def Bs.okT (n : Nat) (c : Bs) : Bool := andB (pB (∃ c0 : Bs, Bs.ro1 n c = Bs.ro1 n c0)) (Nat.ble n few)
theorem Bs.okT_true {n : Nat} (hn : Nat.ble n few = true) (c : Bs) : Bs.okT n c = true := by unfold Bs.okT; rw [pB_true ⟨c, rfl⟩, hn]; rfl
noncomputable def Bs.okE (n : Nat) (c : Bs) : Bool := andB (pB (∃ c0 : Bs, n = n ∧ Bs.ro2 n c = Bs.ro2 n c0)) (Nat.ble n few)
theorem Bs.okE_true {n : Nat} (hn : Nat.ble n few = true) (c : Bs) : Bs.okE n c = true := by unfold Bs.okE; rw [pB_true ⟨c, rfl, rfl⟩, hn]; rfl

def Bs.St2 (n : Nat) (c : Bs) (k : Int) : St := ⟨[.slc 0 0 n, .slc 1 0 n, .junk, .junk, .junk, .int .i64 k] ++ junks 20, Bs.ro2 n c⟩
def Bs.Rt2 (n : Nat) (c : Bs) (b : Bool) : St := ⟨[.junk, .junk, .junk, .junk, .bool b, .junk] ++ junks 20, Bs.ro2 n c⟩
def Bs.Ex2 (n : Nat) (c : Bs) : St := ⟨junks 26, Bs.ro2 n c⟩
theorem Bs.step2 (n : Nat) (c : Bs) (k : Nat) :
    evC JS Try.prog (callF Try.prog extK 20 8) noL 20 (loopN Try.prog 80 5) (Bs.St2 n c (Int.ofNat k)) (kG 2 [0, 1, 5] [4] none none) =
      some (.node (decide (Int.ofNat k < (n : Int))) (.node (!(c.b k == c.b k)) (.leaf (.ret, Bs.Rt2 n c false)) (.leaf (.nrm, Bs.St2 n c (IntKind.i64.wrap (Int.ofNat k + 1))))) (.leaf (.ext 0, Bs.Ex2 n c)),
        ob2 (decide (Int.ofNat k < (n : Int))) (andB (andB (inB (Int.ofNat k) n) (andB (Nat.blt k n) (andB (inB (Int.ofNat k) n) (andB (Nat.blt k n) true)))) true) true) := by kernel_rfl
theorem Bs.loop2 (n : Nat) (hn : n ≤ few) (c : Bs) : LoopOk Try.prog 2 (loopN Try.prog 80 5) (Bs.St2 n c 0) (.leaf (.ext 0, Bs.Ex2 n c)) := by
  have hf : few = 1099511627776 := rfl
  exact loop_all (callF_ok sxApart sxMixed extK_ok (N := 20) 8) sxMixed (body := loopN Try.prog 80 5) (L := noL) (N := 20) (B := 2) (fun _ _ _ _ h => by cases h) [0, 1, 5] [4] none none
    (fun k => Bs.St2 n c (Int.ofNat k)) n (.ext 0, Bs.Ex2 n c) (fun h => by cases h)
    (fun k hk => by
      have hp : (!(c.b k == c.b k)) = false := by simp
      refine ⟨_, by rw [Bs.step2, hp, ofNat_lt, inB_nat hk, blt_lt hk, decide_eq_true hk]; rfl, rfl, ?_, HLe.refl _⟩
      simp only [Tr.get, Bs.St2]
      rw [wrap_i64 (by simp only [Int.ofNat_eq_natCast]; omega) (by simp only [Int.ofNat_eq_natCast]; omega)]
      rfl)
    (by
      refine ⟨_, by rw [Bs.step2, ofNat_lt, decide_eq_false (Nat.lt_irrefl n), ob2_f], rfl, rfl, ?_⟩
      exact HLe.refl _)

/-- rows compared with themselves -/
noncomputable def Bs.runEqS : List AV → List Blk → Option Lf := fun args H => match args with
  | [.slc 0 0 n, .slc 1 0 m] => some (.leaf (.bool true, none), andB (pB (∃ c : Bs, m = n ∧ H = Bs.ro2 n c)) (Nat.ble n few))
  | _ => none
theorem Bs.eq_ok : SumOk Try.prog 80 (selRun Bs.runEqS) := sum_sel sxApart sxMixed fun args H t hr => by
  unfold Bs.runEqS at hr
  split at hr
  case h_2 => cases hr
  rename_i n m
  simp only [Option.some.injEq, Prod.mk.injEq] at hr
  obtain ⟨rfl, hr⟩ := hr
  obtain ⟨h1, hn⟩ := andB_true hr
  obtain ⟨c, h2, rfl⟩ := pB_of h1
  have h2 := h2.symm
  subst h2
  rw [Nat.ble_eq] at hn
  refine ⟨extK, loopAt 5 [0, 1, 5] (Bs.St2 n c 0) (.leaf (.ext 0, Bs.Ex2 n c)) noL, 20, 8, .leaf (.bool (cond (cond ((n : Int) == (n : Int)) false true) false true), none), extK_ok,
    loopAt_all (B := 2) (by decide +kernel) (Bs.loop2 n hn c) noL_all, ?_, ?_⟩
  · have h : evF Try.prog extK (loopAt 5 [0, 1, 5] (Bs.St2 n c 0) (.leaf (.ext 0, Bs.Ex2 n c)) noL) 20 8 80 [.slc 0 0 n, .slc 1 0 n] (Bs.ro2 n c) =
      some (.leaf (.bool (cond (cond ((n : Int) == (n : Int)) false true) false true), none), ob2 (cond ((n : Int) == (n : Int)) false true) true (andB (deqS (Bs.St2 n c 0) (Bs.St2 n c 0)) true)) := by kernel_rfl
    rw [deqS_self] at h
    rw [h]
    simp [ob2, impB, andB]
  · simp only [BEq.rfl, cond_true, cond_false]
    exact LLe.refl _

-- marks
/-- a row that holds the numbers from one on -/
def Bs.mrow (z : Int) : List AV := [(.bool ((z).tmod 3 == 0))]
def Bs.mkr (f : Nat → List AV) (k : Nat) (z : Int) : Nat → List AV := let f1 := Sx.upd f k (pt (f k) 0 (.bool ((z).tmod 3 == 0))); f1
def Bs.Sm (n : Nat) (f : Nat → List AV) (z k : Int) : St := ⟨[.slc 0 0 n, .int .i64 z, .junk, .junk, .junk, .int .i64 k] ++ junks 15, [.rows true n 1 f]⟩
def Bs.Em (n : Nat) (f : Nat → List AV) (z : Int) : St := ⟨[.junk, .int .i64 z] ++ junks 19, [.rows true n 1 f]⟩
def Bs.obm (n k : Nat) : Bool := andB (inB (Int.ofNat k) n) (andB (Nat.blt k n) (true))
theorem Bs.obm_true {n k : Nat} (h : k < n) : Bs.obm n k = true := by unfold Bs.obm; rw [inB_nat h, blt_lt h]; rfl
theorem Bs.stepm (n : Nat) (c : Bs) (z : Int) (k : Nat) : evC JS Try.prog (callF Try.prog extK 20 8) noL 20 (loopN Try.prog 84 3) (Bs.Sm n c.row z (Int.ofNat k)) (kA 1 [0, 1, 5] [1]) =
    some (.node (decide (Int.ofNat k < (n : Int))) (.leaf (.nrm, Bs.Sm n (Bs.mkr c.row k z) (IntKind.i64.wrap (z + 1)) (IntKind.i64.wrap (Int.ofNat k + 1)))) (.leaf (.ext 0, Bs.Em n c.row z)), andB (impB (decide (Int.ofNat k < (n : Int))) (Bs.obm n k)) true) := by kernel_rfl
theorem Bs.mk_at (c : Bs) (k : Nat) (z : Int) : Bs.mkr c.row k z k = [(.bool ((z).tmod 3 == 0))] := by
  unfold Bs.mkr
  simp only [upd_at]
  rfl
theorem Bs.mk_ne (c : Bs) {i k : Nat} (h : i ≠ k) (z : Int) : Bs.mkr c.row k z i = c.row i := by
  unfold Bs.mkr
  simp only [upd_ne h]
  rfl
theorem Bs.wraps {z : Int} (h0 : 0 ≤ z) (h1 : z ≤ 4611686018427387000) : (IntKind.i64.wrap (z + 1)) = z + 1 := by
  have w1 : (IntKind.i64.wrap (z + 1)) = z + 1 := by rw [i64_small (by omega) (by omega)] <;> omega
  exact w1
def Bs.cm (c : Bs) (z : Int) (k : Nat) : Bs := ⟨fun t => cond (Nat.blt t k) (((z + 1 * (t : Int)).tmod 3 == 0)) (c.b t)⟩
def Bs.mz (z : Int) : Bs := ⟨fun t => ((z + 1 * (t : Int)).tmod 3 == 0)⟩
theorem Bs.mz_row (z : Int) (t : Nat) : (Bs.mz z).row t = Bs.mrow (z + 1 * (t : Int)) := rfl
theorem Bs.cm_lt (c : Bs) (z : Int) {k t : Nat} (h : t < k) : (c.cm z k).row t = (Bs.mz z).row t := by simp only [Bs.cm, Bs.mz, Bs.row, blt_lt h, cond_true]
theorem Bs.cm_ge (c : Bs) (z : Int) {k t : Nat} (h : k ≤ t) : (c.cm z k).row t = c.row t := by simp only [Bs.cm, Bs.row, blt_ge h, cond_false]
theorem Bs.loopm (n : Nat) (hn : n ≤ few) (c : Bs) (z : Int) (h0 : 0 ≤ z) (h1 : z ≤ 1099511627776) : LoopOk Try.prog 1 (loopN Try.prog 84 3) (Bs.Sm n c.row z 0) (.leaf (.ext 0, Bs.Em n (Bs.mz z).row (z + 1 * (n : Int)))) := by
  have hf := few_eq
  have key := loop_allH (callF_ok sxApart sxMixed extK_ok (N := 20) 8) sxMixed (N := 20) (L := noL) (B := 1) (body := loopN Try.prog 84 3) (fun _ _ _ _ h => by cases h) [0, 1, 5] [1] (gA 1 [0, 1, 5] [1]) (fun k => Bs.Sm n (c.cm z k).row (z + 1 * (k : Int)) (Int.ofNat k)) n (.ext 0, Bs.Em n (Bs.mz z).row (z + 1 * (n : Int))) (fun h => by cases h)
    (fun k hk => by
      have w1 := Bs.wraps (z := z + 1 * (k : Int)) (by omega) (by omega)
      refine ⟨_, by rw [show kH 1 [0, 1, 5] [1] (gA 1 [0, 1, 5] [1]) = kA 1 [0, 1, 5] [1] from rfl, Bs.stepm, Bs.obm_true hk, ofNat_lt, decide_eq_true hk]; rfl, ?_⟩
      refine ⟨rfl, ?_, ⟨BLe.rows fun t ht => ?_, trivial⟩⟩
      · simp only [Tr.get, cond_true, Bs.Sm]
        rw [w1, wrap_i64 (n := Int.ofNat k + 1) (by simp only [Int.ofNat_eq_natCast]; omega) (by simp only [Int.ofNat_eq_natCast]; omega), show z + 1 * (k : Int) + 1 = z + 1 * ((k + 1 : Nat) : Int) by omega]
        rfl
      · by_cases hkt : t = k
        · subst hkt
          rw [Bs.mk_at, Bs.cm_lt c z (Nat.lt_succ_self t)]
          rfl
        · rw [Bs.mk_ne _ hkt]
          rcases Nat.lt_or_ge t k with h | h
          · rw [Bs.cm_lt c z h, Bs.cm_lt c z (show t < k + 1 by omega)]
          · rw [Bs.cm_ge c z h, Bs.cm_ge c z (show k + 1 ≤ t by omega)])
    (by
      refine ⟨_, by rw [show kH 1 [0, 1, 5] [1] (gA 1 [0, 1, 5] [1]) = kA 1 [0, 1, 5] [1] from rfl, Bs.stepm, ofNat_lt, decide_eq_false (Nat.lt_irrefl n), imp_ff], ?_⟩
      refine ⟨rfl, rfl, ⟨BLe.rows fun t ht => ?_, trivial⟩⟩
      rw [Bs.cm_lt c z ht])
  refine key.from ⟨?_, ⟨BLe.rows fun t _ => ?_, trivial⟩⟩
  · simp only [Bs.Sm, Int.natCast_zero, Int.mul_zero, Int.add_zero]
    rfl
  · rw [Bs.cm_ge c z (Nat.zero_le t)]
noncomputable def Bs.runMark : List AV → List Blk → Option Lf := fun args H => match args.map delit with
  | [.slc 0 0 n, .int .i64 z] => some (.leaf (.int .i64 (z + 1 * (n : Int)), some [.rows true n 1 (Bs.mz z).row]), andB (pB (∃ c : Bs, H = [.rows true n 1 c.row])) (andB (Nat.ble n few) (andB (decide (0 ≤ z)) (decide (z ≤ 1099511627776)))))
  | _ => none
theorem Bs.mark_ok : SumOk Try.prog 84 (selRunM Bs.runMark) := sum_selMG sxApart sxMixed fun args H t hr _ => by
  unfold Bs.runMark at hr
  split at hr
  case h_2 => cases hr
  rename_i n z hargs
  simp only [Option.some.injEq, Prod.mk.injEq] at hr
  obtain ⟨rfl, hr⟩ := hr
  obtain ⟨g1, hr⟩ := andB_true hr
  obtain ⟨g2, hr⟩ := andB_true hr
  obtain ⟨g3, g4⟩ := andB_true hr
  obtain ⟨c, rfl⟩ := pB_of g1
  have g3 := of_decide_eq_true g3
  have g4 := of_decide_eq_true g4
  refine ⟨extK, loopAt 3 [0, 1, 5] (Bs.Sm n c.row z 0) (.leaf (.ext 0, Bs.Em n (Bs.mz z).row (z + 1 * (n : Int)))) noL, 20, 8, _, [.slc 0 0 n, .int .i64 z], extK_ok, loopAt_all (B := 1) (by decide +kernel) (Bs.loopm n (Nat.le_of_ble_eq_true g2) c z g3 g4) noL_all, fun ρ vals hv => by rw [← hargs]; exact delits_rel hv, ?_, LLe.refl _⟩
  have h : evM Try.prog extK (loopAt 3 [0, 1, 5] (Bs.Sm n c.row z 0) (.leaf (.ext 0, Bs.Em n (Bs.mz z).row (z + 1 * (n : Int)))) noL) 20 8 84 [.slc 0 0 n, .int .i64 z] [.rows true n 1 c.row] = some (.leaf (.int .i64 (z + 1 * (n : Int)), some [.rows true n 1 (Bs.mz z).row]), andB (deqS (Bs.Sm n c.row z 0) (Bs.Sm n c.row z 0)) true) := by kernel_rfl
  rw [deqS_self] at h
  exact h
noncomputable def Bs.okM (n : Nat) (c : Bs) (z : Int) : Bool := andB (pB (∃ c0 : Bs, [Blk.rows true n 1 c.row] = [.rows true n 1 c0.row])) (andB (Nat.ble n few) (andB (decide (0 ≤ z)) (decide (z ≤ 1099511627776))))
theorem Bs.okM_true {n : Nat} (hn : Nat.ble n few = true) (c : Bs) {z : Int} (h0 : 0 ≤ z) (h1 : z ≤ 1099511627776) : Bs.okM n c z = true := by unfold Bs.okM; rw [pB_true ⟨c, rfl⟩, hn, decide_eq_true h0, decide_eq_true h1]; rfl
-- are they held
def Bs.Sh (n : Nat) (c : Bs) (z k : Int) : St := ⟨[.slc 0 0 n, .int .i64 z, .junk, .junk, .junk, .int .i64 k] ++ junks 17, [.rows false n 1 c.row]⟩
def Bs.Eh (n : Nat) (c : Bs) (z : Int) : St := ⟨[.junk, .int .i64 z] ++ junks 21, [.rows false n 1 c.row]⟩
def Bs.Rh (n : Nat) (c : Bs) (z : Int) : St := ⟨[.junk, .int .i64 z, .junk, .junk, .int .i64 (-1)] ++ junks (18), [.rows false n 1 c.row]⟩
theorem Bs.steph (n : Nat) (c : Bs) (z : Int) (k : Nat) : evC JS Try.prog (callF Try.prog extK 20 8) noL 20 (loopN Try.prog 88 3) (Bs.Sh n c z (Int.ofNat k)) (kA 1 [0, 1, 5] [1, 4]) =
    some (.node (decide (Int.ofNat k < (n : Int))) (.node (!(c.b k == ((z).tmod 3 == 0))) (.leaf (.ret, Bs.Rh n c z)) (.leaf (.nrm, Bs.Sh n c (IntKind.i64.wrap (z + 1)) (IntKind.i64.wrap (Int.ofNat k + 1))))) (.leaf (.ext 0, Bs.Eh n c z)), andB (impB (decide (Int.ofNat k < (n : Int))) (andB (inB (Int.ofNat k) n) (andB (Nat.blt k n) true))) true) := by kernel_rfl
theorem Bs.looph (n : Nat) (hn : n ≤ few) (z : Int) (h0 : 0 ≤ z) (h1 : z ≤ 1099511627776) : LoopOk Try.prog 1 (loopN Try.prog 88 3) (Bs.Sh n (Bs.mz z) z 0) (.leaf (.ext 0, Bs.Eh n (Bs.mz z) (z + 1 * (n : Int)))) := by
  have hf := few_eq
  have key := loop_allH (callF_ok sxApart sxMixed extK_ok (N := 20) 8) sxMixed (N := 20) (L := noL) (B := 1) (body := loopN Try.prog 88 3) (fun _ _ _ _ h => by cases h) [0, 1, 5] [1, 4] (gA 1 [0, 1, 5] [1, 4]) (fun k => Bs.Sh n (Bs.mz z) (z + 1 * (k : Int)) (Int.ofNat k)) n (.ext 0, Bs.Eh n (Bs.mz z) (z + 1 * (n : Int))) (fun h => by cases h)
    (fun k hk => by
      have w1 := Bs.wraps (z := z + 1 * (k : Int)) (by omega) (by omega)
      have c0 : (!((Bs.mz z).b k == (((z + 1 * (k : Int))).tmod 3 == 0))) = false := by
        have e : (Bs.mz z).b k = (((z + 1 * (k : Int))).tmod 3 == 0) := by rfl
        rw [e]; simp
      refine ⟨_, by rw [show kH 1 [0, 1, 5] [1, 4] (gA 1 [0, 1, 5] [1, 4]) = kA 1 [0, 1, 5] [1, 4] from rfl, Bs.steph, inB_nat hk, blt_lt hk, ofNat_lt, decide_eq_true hk, c0]; rfl, ?_⟩
      simp only [Tr.get, cond_true, cond_false]
      rw [w1, wrap_i64 (n := Int.ofNat k + 1) (by simp only [Int.ofNat_eq_natCast]; omega) (by simp only [Int.ofNat_eq_natCast]; omega), show z + 1 * (k : Int) + 1 = z + 1 * ((k + 1 : Nat) : Int) by omega]
      exact XLe.refl _)
    (by
      refine ⟨_, by rw [show kH 1 [0, 1, 5] [1, 4] (gA 1 [0, 1, 5] [1, 4]) = kA 1 [0, 1, 5] [1, 4] from rfl, Bs.steph, ofNat_lt, decide_eq_false (Nat.lt_irrefl n), imp_ff], XLe.refl _⟩)
  refine key.from ⟨?_, HLe.refl _⟩
  simp only [Bs.Sh, Int.natCast_zero, Int.mul_zero, Int.add_zero]
  rfl
noncomputable def Bs.runHeld : List AV → List Blk → Option Lf := fun args H => match args.map delit with
  | [.slc 0 0 n, .int .i64 z] => some (.leaf (.int .i64 (z + 1 * (n : Int)), none), andB (pB (H = Bs.ro1 n (Bs.mz z))) (andB (Nat.ble n few) (andB (decide (0 ≤ z)) (decide (z ≤ 1099511627776)))))
  | _ => none
theorem Bs.held_ok : SumOk Try.prog 88 (selRun Bs.runHeld) := sum_selG sxApart sxMixed fun args H t hr _ => by
  unfold Bs.runHeld at hr
  split at hr
  case h_2 => cases hr
  rename_i n z hargs
  simp only [Option.some.injEq, Prod.mk.injEq] at hr
  obtain ⟨rfl, hr⟩ := hr
  obtain ⟨g1, hr⟩ := andB_true hr
  obtain ⟨g2, hr⟩ := andB_true hr
  obtain ⟨g3, g4⟩ := andB_true hr
  obtain rfl := pB_of g1
  have g3 := of_decide_eq_true g3
  have g4 := of_decide_eq_true g4
  refine ⟨extK, loopAt 3 [0, 1, 5] (Bs.Sh n (Bs.mz z) z 0) (.leaf (.ext 0, Bs.Eh n (Bs.mz z) (z + 1 * (n : Int)))) noL, 20, 8, _, [.slc 0 0 n, .int .i64 z], extK_ok, loopAt_all (B := 1) (by decide +kernel) (Bs.looph n (Nat.le_of_ble_eq_true g2) z g3 g4) noL_all, fun ρ vals hv => by rw [← hargs]; exact delits_rel hv, ?_, LLe.refl _⟩
  have h : evF Try.prog extK (loopAt 3 [0, 1, 5] (Bs.Sh n (Bs.mz z) z 0) (.leaf (.ext 0, Bs.Eh n (Bs.mz z) (z + 1 * (n : Int)))) noL) 20 8 88 [.slc 0 0 n, .int .i64 z] (Bs.ro1 n (Bs.mz z)) = some (.leaf (.int .i64 (z + 1 * (n : Int)), none), andB (deqS (Bs.Sh n (Bs.mz z) z 0) (Bs.Sh n (Bs.mz z) z 0)) true) := by kernel_rfl
  rw [deqS_self] at h
  exact h
noncomputable def Bs.okH (n : Nat) (z : Int) : Bool := andB (pB (Bs.ro1 n (Bs.mz z) = Bs.ro1 n (Bs.mz z))) (andB (Nat.ble n few) (andB (decide (0 ≤ z)) (decide (z ≤ 1099511627776))))
theorem Bs.okH_true {n : Nat} (hn : Nat.ble n few = true) {z : Int} (h0 : 0 ≤ z) (h1 : z ≤ 1099511627776) : Bs.okH n z = true := by unfold Bs.okH; rw [pB_true rfl, hn, decide_eq_true h0, decide_eq_true h1]; rfl
end Go.Proofs.Ytllonddgbjgmdaa.P22
set_option linter.unusedVariables false
set_option linter.unusedSimpArgs false
set_option maxRecDepth 100000
namespace Go.Proofs.Ytllonddgbjgmdaa.W9
open Go.Sx Go.Sx.R0 Go.RowKit Go.Proofs.Ytllonddgbjgmdaa.W1 Go.Proofs.Ytllonddgbjgmdaa.W2 Go.Proofs.Ytllonddgbjgmdaa.W3 Go.Proofs.Ytllonddgbjgmdaa.W5

-- marks
/-- a row that holds the numbers from one on -/
def Dd.mrow (z : Int) : List AV := [(.int .i64 z), (.int .i64 (z + 1))]
def Dd.mkr (f : Nat → List AV) (k : Nat) (z : Int) : Nat → List AV := let f1 := Sx.upd f k (pt (f k) 0 (.int .i64 z)); let f2 := Sx.upd f1 k (pt (f1 k) 1 (.int .i64 (IntKind.i64.wrap (z + 1)))); f2
def Dd.Sm (n : Nat) (f : Nat → List AV) (z k : Int) : St := ⟨[.slc 0 0 n, .int .i64 z, .junk, .junk, .junk, .int .i64 k] ++ junks 21, [.rows true n 2 f]⟩
def Dd.Em (n : Nat) (f : Nat → List AV) (z : Int) : St := ⟨[.junk, .int .i64 z] ++ junks 25, [.rows true n 2 f]⟩
def Dd.obm (n k : Nat) : Bool := andB (inB (Int.ofNat k) n) (andB (Nat.blt k n) (andB (inB (Int.ofNat k) n) (andB (Nat.blt k n) (true))))
theorem Dd.obm_true {n k : Nat} (h : k < n) : Dd.obm n k = true := by unfold Dd.obm; rw [inB_nat h, blt_lt h]; rfl
theorem Dd.stepm (n : Nat) (c : Dd) (z : Int) (k : Nat) : evC JS Try.prog (callF Try.prog extK 20 8) noL 20 (loopN Try.prog 43 3) (Dd.Sm n c.row z (Int.ofNat k)) (kA 1 [0, 1, 5] [1]) =
    some (.node (decide (Int.ofNat k < (n : Int))) (.leaf (.nrm, Dd.Sm n (Dd.mkr c.row k z) (IntKind.i64.wrap ((IntKind.i64.wrap (z + 1)) + 1)) (IntKind.i64.wrap (Int.ofNat k + 1)))) (.leaf (.ext 0, Dd.Em n c.row z)), andB (impB (decide (Int.ofNat k < (n : Int))) (Dd.obm n k)) true) := by kernel_rfl
theorem Dd.mk_at (c : Dd) (k : Nat) (z : Int) : Dd.mkr c.row k z k = [(.int .i64 z), (.int .i64 (IntKind.i64.wrap (z + 1)))] := by
  unfold Dd.mkr
  simp only [upd_at]
  rfl
theorem Dd.mk_ne (c : Dd) {i k : Nat} (h : i ≠ k) (z : Int) : Dd.mkr c.row k z i = c.row i := by
  unfold Dd.mkr
  simp only [upd_ne h]
  rfl
theorem Dd.wraps {z : Int} (h0 : 0 ≤ z) (h1 : z ≤ 4611686018427387000) : (IntKind.i64.wrap (z + 1)) = z + 1 ∧ (IntKind.i64.wrap ((IntKind.i64.wrap (z + 1)) + 1)) = z + 2 := by
  have w1 : (IntKind.i64.wrap (z + 1)) = z + 1 := by rw [i64_small (by omega) (by omega)] <;> omega
  have w2 : (IntKind.i64.wrap ((IntKind.i64.wrap (z + 1)) + 1)) = z + 2 := by rw [w1, i64_small (by omega) (by omega)] <;> omega
  exact ⟨w1, w2⟩
def Dd.cm (c : Dd) (z : Int) (k : Nat) : Dd := ⟨fun t => cond (Nat.blt t k) (z + 2 * (t : Int)) (c.k t), fun t => cond (Nat.blt t k) (z + 2 * (t : Int) + 1) (c.a t)⟩
def Dd.mz (z : Int) : Dd := ⟨fun t => z + 2 * (t : Int), fun t => z + 2 * (t : Int) + 1⟩
theorem Dd.mz_row (z : Int) (t : Nat) : (Dd.mz z).row t = Dd.mrow (z + 2 * (t : Int)) := rfl
theorem Dd.cm_lt (c : Dd) (z : Int) {k t : Nat} (h : t < k) : (c.cm z k).row t = (Dd.mz z).row t := by simp only [Dd.cm, Dd.mz, Dd.row, blt_lt h, cond_true]
theorem Dd.cm_ge (c : Dd) (z : Int) {k t : Nat} (h : k ≤ t) : (c.cm z k).row t = c.row t := by simp only [Dd.cm, Dd.row, blt_ge h, cond_false]
theorem Dd.loopm (n : Nat) (hn : n ≤ few) (c : Dd) (z : Int) (h0 : 0 ≤ z) (h1 : z ≤ 1099511627776) : LoopOk Try.prog 1 (loopN Try.prog 43 3) (Dd.Sm n c.row z 0) (.leaf (.ext 0, Dd.Em n (Dd.mz z).row (z + 2 * (n : Int)))) := by
  have hf := few_eq
  have key := loop_allH (callF_ok sxApart sxMixed extK_ok (N := 20) 8) sxMixed (N := 20) (L := noL) (B := 1) (body := loopN Try.prog 43 3) (fun _ _ _ _ h => by cases h) [0, 1, 5] [1] (gA 1 [0, 1, 5] [1]) (fun k => Dd.Sm n (c.cm z k).row (z + 2 * (k : Int)) (Int.ofNat k)) n (.ext 0, Dd.Em n (Dd.mz z).row (z + 2 * (n : Int))) (fun h => by cases h)
    (fun k hk => by
      obtain ⟨w1, w2⟩ := Dd.wraps (z := z + 2 * (k : Int)) (by omega) (by omega)
      refine ⟨_, by rw [show kH 1 [0, 1, 5] [1] (gA 1 [0, 1, 5] [1]) = kA 1 [0, 1, 5] [1] from rfl, Dd.stepm, Dd.obm_true hk, ofNat_lt, decide_eq_true hk]; rfl, ?_⟩
      refine ⟨rfl, ?_, ⟨BLe.rows fun t ht => ?_, trivial⟩⟩
      · simp only [Tr.get, cond_true, Dd.Sm]
        rw [w2, wrap_i64 (n := Int.ofNat k + 1) (by simp only [Int.ofNat_eq_natCast]; omega) (by simp only [Int.ofNat_eq_natCast]; omega), show z + 2 * (k : Int) + 2 = z + 2 * ((k + 1 : Nat) : Int) by omega]
        rfl
      · by_cases hkt : t = k
        · subst hkt
          rw [Dd.mk_at, Dd.cm_lt c z (Nat.lt_succ_self t), w1]
          rfl
        · rw [Dd.mk_ne _ hkt]
          rcases Nat.lt_or_ge t k with h | h
          · rw [Dd.cm_lt c z h, Dd.cm_lt c z (show t < k + 1 by omega)]
          · rw [Dd.cm_ge c z h, Dd.cm_ge c z (show k + 1 ≤ t by omega)])
    (by
      refine ⟨_, by rw [show kH 1 [0, 1, 5] [1] (gA 1 [0, 1, 5] [1]) = kA 1 [0, 1, 5] [1] from rfl, Dd.stepm, ofNat_lt, decide_eq_false (Nat.lt_irrefl n), imp_ff], ?_⟩
      refine ⟨rfl, rfl, ⟨BLe.rows fun t ht => ?_, trivial⟩⟩
      rw [Dd.cm_lt c z ht])
  refine key.from ⟨?_, ⟨BLe.rows fun t _ => ?_, trivial⟩⟩
  · simp only [Dd.Sm, Int.natCast_zero, Int.mul_zero, Int.add_zero]
    rfl
  · rw [Dd.cm_ge c z (Nat.zero_le t)]
noncomputable def Dd.runMark : List AV → List Blk → Option Lf := fun args H => match args.map delit with
  | [.slc 0 0 n, .int .i64 z] => some (.leaf (.int .i64 (z + 2 * (n : Int)), some [.rows true n 2 (Dd.mz z).row]), andB (pB (∃ c : Dd, H = [.rows true n 2 c.row])) (andB (Nat.ble n few) (andB (decide (0 ≤ z)) (decide (z ≤ 1099511627776)))))
  | _ => none
theorem Dd.mark_ok : SumOk Try.prog 43 (selRunM Dd.runMark) := sum_selMG sxApart sxMixed fun args H t hr _ => by
  unfold Dd.runMark at hr
  split at hr
  case h_2 => cases hr
  rename_i n z hargs
  simp only [Option.some.injEq, Prod.mk.injEq] at hr
  obtain ⟨rfl, hr⟩ := hr
  obtain ⟨g1, hr⟩ := andB_true hr
  obtain ⟨g2, hr⟩ := andB_true hr
  obtain ⟨g3, g4⟩ := andB_true hr
  obtain ⟨c, rfl⟩ := pB_of g1
  have g3 := of_decide_eq_true g3
  have g4 := of_decide_eq_true g4
  refine ⟨extK, loopAt 3 [0, 1, 5] (Dd.Sm n c.row z 0) (.leaf (.ext 0, Dd.Em n (Dd.mz z).row (z + 2 * (n : Int)))) noL, 20, 8, _, [.slc 0 0 n, .int .i64 z], extK_ok, loopAt_all (B := 1) (by decide +kernel) (Dd.loopm n (Nat.le_of_ble_eq_true g2) c z g3 g4) noL_all, fun ρ vals hv => by rw [← hargs]; exact delits_rel hv, ?_, LLe.refl _⟩
  have h : evM Try.prog extK (loopAt 3 [0, 1, 5] (Dd.Sm n c.row z 0) (.leaf (.ext 0, Dd.Em n (Dd.mz z).row (z + 2 * (n : Int)))) noL) 20 8 43 [.slc 0 0 n, .int .i64 z] [.rows true n 2 c.row] = some (.leaf (.int .i64 (z + 2 * (n : Int)), some [.rows true n 2 (Dd.mz z).row]), andB (deqS (Dd.Sm n c.row z 0) (Dd.Sm n c.row z 0)) true) := by kernel_rfl
  rw [deqS_self] at h
  exact h
noncomputable def Dd.okM (n : Nat) (c : Dd) (z : Int) : Bool := andB (pB (∃ c0 : Dd, [Blk.rows true n 2 c.row] = [.rows true n 2 c0.row])) (andB (Nat.ble n few) (andB (decide (0 ≤ z)) (decide (z ≤ 1099511627776))))
theorem Dd.okM_true {n : Nat} (hn : Nat.ble n few = true) (c : Dd) {z : Int} (h0 : 0 ≤ z) (h1 : z ≤ 1099511627776) : Dd.okM n c z = true := by unfold Dd.okM; rw [pB_true ⟨c, rfl⟩, hn, decide_eq_true h0, decide_eq_true h1]; rfl
-- are they held
def Dd.Sh (n : Nat) (c : Dd) (z k : Int) : St := ⟨[.slc 0 0 n, .int .i64 z, .junk, .junk, .junk, .int .i64 k] ++ junks 25, [.rows false n 2 c.row]⟩
def Dd.Eh (n : Nat) (c : Dd) (z : Int) : St := ⟨[.junk, .int .i64 z] ++ junks 29, [.rows false n 2 c.row]⟩
def Dd.Rh (n : Nat) (c : Dd) (z : Int) : St := ⟨[.junk, .int .i64 z, .junk, .junk, .int .i64 (-1)] ++ junks (26), [.rows false n 2 c.row]⟩
theorem Dd.steph (n : Nat) (c : Dd) (z : Int) (k : Nat) : evC JS Try.prog (callF Try.prog extK 20 8) noL 20 (loopN Try.prog 44 3) (Dd.Sh n c z (Int.ofNat k)) (kA 1 [0, 1, 5] [1, 4]) =
    some (.node (decide (Int.ofNat k < (n : Int))) (.node (!(c.k k == z)) (.leaf (.ret, Dd.Rh n c z)) (.node (!(c.a k == (IntKind.i64.wrap (z + 1)))) (.leaf (.ret, Dd.Rh n c (IntKind.i64.wrap (z + 1)))) (.leaf (.nrm, Dd.Sh n c (IntKind.i64.wrap ((IntKind.i64.wrap (z + 1)) + 1)) (IntKind.i64.wrap (Int.ofNat k + 1)))))) (.leaf (.ext 0, Dd.Eh n c z)), andB (impB (decide (Int.ofNat k < (n : Int))) (andB (inB (Int.ofNat k) n) (andB (Nat.blt k n) (impB (!(!(c.k k == z))) (andB (inB (Int.ofNat k) n) (andB (Nat.blt k n) true)))))) true) := by kernel_rfl
theorem Dd.looph (n : Nat) (hn : n ≤ few) (z : Int) (h0 : 0 ≤ z) (h1 : z ≤ 1099511627776) : LoopOk Try.prog 1 (loopN Try.prog 44 3) (Dd.Sh n (Dd.mz z) z 0) (.leaf (.ext 0, Dd.Eh n (Dd.mz z) (z + 2 * (n : Int)))) := by
  have hf := few_eq
  have key := loop_allH (callF_ok sxApart sxMixed extK_ok (N := 20) 8) sxMixed (N := 20) (L := noL) (B := 1) (body := loopN Try.prog 44 3) (fun _ _ _ _ h => by cases h) [0, 1, 5] [1, 4] (gA 1 [0, 1, 5] [1, 4]) (fun k => Dd.Sh n (Dd.mz z) (z + 2 * (k : Int)) (Int.ofNat k)) n (.ext 0, Dd.Eh n (Dd.mz z) (z + 2 * (n : Int))) (fun h => by cases h)
    (fun k hk => by
      obtain ⟨w1, w2⟩ := Dd.wraps (z := z + 2 * (k : Int)) (by omega) (by omega)
      have c0 : (!((Dd.mz z).k k == (z + 2 * (k : Int)))) = false := by
        have e : (Dd.mz z).k k = (z + 2 * (k : Int)) := by rfl
        rw [e]; simp
      have c1 : (!((Dd.mz z).a k == (IntKind.i64.wrap ((z + 2 * (k : Int)) + 1)))) = false := by
        have e : (Dd.mz z).a k = (IntKind.i64.wrap ((z + 2 * (k : Int)) + 1)) := by rw [w1]; rfl
        rw [e]; simp
      refine ⟨_, by rw [show kH 1 [0, 1, 5] [1, 4] (gA 1 [0, 1, 5] [1, 4]) = kA 1 [0, 1, 5] [1, 4] from rfl, Dd.steph, inB_nat hk, blt_lt hk, ofNat_lt, decide_eq_true hk, c0, c1]; rfl, ?_⟩
      simp only [Tr.get, cond_true, cond_false]
      rw [w2, wrap_i64 (n := Int.ofNat k + 1) (by simp only [Int.ofNat_eq_natCast]; omega) (by simp only [Int.ofNat_eq_natCast]; omega), show z + 2 * (k : Int) + 2 = z + 2 * ((k + 1 : Nat) : Int) by omega]
      exact XLe.refl _)
    (by
      refine ⟨_, by rw [show kH 1 [0, 1, 5] [1, 4] (gA 1 [0, 1, 5] [1, 4]) = kA 1 [0, 1, 5] [1, 4] from rfl, Dd.steph, ofNat_lt, decide_eq_false (Nat.lt_irrefl n), imp_ff], XLe.refl _⟩)
  refine key.from ⟨?_, HLe.refl _⟩
  simp only [Dd.Sh, Int.natCast_zero, Int.mul_zero, Int.add_zero]
  rfl
noncomputable def Dd.runHeld : List AV → List Blk → Option Lf := fun args H => match args.map delit with
  | [.slc 0 0 n, .int .i64 z] => some (.leaf (.int .i64 (z + 2 * (n : Int)), none), andB (pB (H = Dd.ro1 n (Dd.mz z))) (andB (Nat.ble n few) (andB (decide (0 ≤ z)) (decide (z ≤ 1099511627776)))))
  | _ => none
theorem Dd.held_ok : SumOk Try.prog 44 (selRun Dd.runHeld) := sum_selG sxApart sxMixed fun args H t hr _ => by
  unfold Dd.runHeld at hr
  split at hr
  case h_2 => cases hr
  rename_i n z hargs
  simp only [Option.some.injEq, Prod.mk.injEq] at hr
  obtain ⟨rfl, hr⟩ := hr
  obtain ⟨g1, hr⟩ := andB_true hr
  obtain ⟨g2, hr⟩ := andB_true hr
  obtain ⟨g3, g4⟩ := andB_true hr
  obtain rfl := pB_of g1
  have g3 := of_decide_eq_true g3
  have g4 := of_decide_eq_true g4
  refine ⟨extK, loopAt 3 [0, 1, 5] (Dd.Sh n (Dd.mz z) z 0) (.leaf (.ext 0, Dd.Eh n (Dd.mz z) (z + 2 * (n : Int)))) noL, 20, 8, _, [.slc 0 0 n, .int .i64 z], extK_ok, loopAt_all (B := 1) (by decide +kernel) (Dd.looph n (Nat.le_of_ble_eq_true g2) z g3 g4) noL_all, fun ρ vals hv => by rw [← hargs]; exact delits_rel hv, ?_, LLe.refl _⟩
  have h : evF Try.prog extK (loopAt 3 [0, 1, 5] (Dd.Sh n (Dd.mz z) z 0) (.leaf (.ext 0, Dd.Eh n (Dd.mz z) (z + 2 * (n : Int)))) noL) 20 8 44 [.slc 0 0 n, .int .i64 z] (Dd.ro1 n (Dd.mz z)) = some (.leaf (.int .i64 (z + 2 * (n : Int)), none), andB (deqS (Dd.Sh n (Dd.mz z) z 0) (Dd.Sh n (Dd.mz z) z 0)) true) := by kernel_rfl
  rw [deqS_self] at h
  exact h
noncomputable def Dd.okH (n : Nat) (z : Int) : Bool := andB (pB (Dd.ro1 n (Dd.mz z) = Dd.ro1 n (Dd.mz z))) (andB (Nat.ble n few) (andB (decide (0 ≤ z)) (decide (z ≤ 1099511627776))))
theorem Dd.okH_true {n : Nat} (hn : Nat.ble n few = true) {z : Int} (h0 : 0 ≤ z) (h1 : z ≤ 1099511627776) : Dd.okH n z = true := by unfold Dd.okH; rw [pB_true rfl, hn, decide_eq_true h0, decide_eq_true h1]; rfl
end Go.Proofs.Ytllonddgbjgmdaa.W9
