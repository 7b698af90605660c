/- Texts of one claim, put together. -/
import Derived.Test.YtllonddgbjgmdaaG9
set_option linter.unusedVariables false
set_option linter.unusedSimpArgs false
set_option maxRecDepth 100000
namespace Go.Proofs.Ytllonddgbjgmdaa.P19
open Go.Sx Go.Sx.R0 Go.RowKit Go.Proofs.Ytllonddgbjgmdaa.W1 Go.Proofs.Ytllonddgbjgmdaa.W3 Go.Proofs.Ytllonddgbjgmdaa.W5 Go.Proofs.Ytllonddgbjgmdaa.W9 Go.Proofs.Ytllonddgbjgmdaa.W10 Go.Proofs.Ytllonddgbjgmdaa.P1 Go.Proofs.Ytllonddgbjgmdaa.P2 Go.Proofs.Ytllonddgbjgmdaa.P3 Go.Proofs.Ytllonddgbjgmdaa.P4 Go.Proofs.Ytllonddgbjgmdaa.P5 Go.Proofs.Ytllonddgbjgmdaa.P6 Go.Proofs.Ytllonddgbjgmdaa.P7 Go.Proofs.Ytllonddgbjgmdaa.P8 Go.Proofs.Ytllonddgbjgmdaa.P9 Go.Proofs.Ytllonddgbjgmdaa.P10 Go.Proofs.Ytllonddgbjgmdaa.P11 Go.Proofs.Ytllonddgbjgmdaa.P12 Go.Proofs.Ytllonddgbjgmdaa.P13 Go.Proofs.Ytllonddgbjgmdaa.P14 Go.Proofs.Ytllonddgbjgmdaa.P15 Go.Proofs.Ytllonddgbjgmdaa.P17

-- the reference's loop over codes: all memory but the codes stands still
def pmF (r : Int) (R n m : Nat) (c : Bt) (d : Dd) (C : Nat → Int) (F : Fl) : List Blk :=
  [.rows false n 9 c.row, .rows false m 2 d.row, .one true [.nils, .nils, .nils, .nils, .nils],
   .one true [.ptr 5 0 0, .slc 6 0 (mOf c n), .slc 7 0 n, .slc 8 0 R, .slc 9 0 (mOf c n), .slc 10 0 (mOf c n), .slc 11 0 F.w], .rows true m 1 (crow C), .one true [.int .i64 r, .slc 0 0 n],
   .rows true (mOf c n) 3 (tsOf c n).row, .rows true n 8 F.vrow, .rows true R 1 (canT 12 (mOf c n) R), .rows true (mOf c n) 1 F.krow, .rows true (mOf c n) 1 F.srow, .rows true F.w 2 F.wrow] ++ bks (mOf c n) F R
def Fc (r : Int) (R n m : Nat) (c : Bt) (d : Dd) (C : Nat → Int) (F : Fl) (dn k : Int) : St := ⟨junks 4 ++ [.ptr 2 0 0] ++ junks 3 ++ [.ptr 3 0 0, .slc 4 0 m, .int .i64 dn, .int .i64 k] ++ junks 29, pmF r R n m c d C F⟩
def FcE (r : Int) (R n m : Nat) (c : Bt) (d : Dd) (C : Nat → Int) (F : Fl) (dn : Int) : St := ⟨junks 4 ++ [.ptr 2 0 0] ++ junks 3 ++ [.ptr 3 0 0, .junk, .int .i64 dn, .junk] ++ junks 29, pmF r R n m c d C F⟩
def obFc (m k : Nat) : Bool := andB (inB (Int.ofNat k) m) (andB (Nat.blt k m) true)
def gN : AX → St → Option (List Nat) := fun _ _ => none
theorem stepFc1 (B : Nat) (r : Int) (n m : Nat) (c : Bt) (d : Dd) (C : Nat → Int) (F : Fl) (dn : Int) (k : Nat) : evC JS Try.prog (callF Try.prog extK 20 8) noL 20 (loopN Try.prog 45 8) (Fc r 1 n m c d C F dn (Int.ofNat k)) (kH B [4, 8, 9, 10, 11] [4, 8, 10] gN) = some (.node (decide (Int.ofNat k < (m : Int))) (.leaf (.nrm, Fc r 1 n m c d C F (cond (C k == 0) (IntKind.i64.wrap (dn + 1)) dn) (IntKind.i64.wrap (Int.ofNat k + 1)))) (.leaf (.ext 0, FcE r 1 n m c d C F dn)), andB (impB (decide (Int.ofNat k < (m : Int))) (obFc m k)) true) := by kernel_rfl
theorem stepFc2 (B : Nat) (r : Int) (n m : Nat) (c : Bt) (d : Dd) (C : Nat → Int) (F : Fl) (dn : Int) (k : Nat) : evC JS Try.prog (callF Try.prog extK 20 8) noL 20 (loopN Try.prog 45 8) (Fc r 2 n m c d C F dn (Int.ofNat k)) (kH B [4, 8, 9, 10, 11] [4, 8, 10] gN) = some (.node (decide (Int.ofNat k < (m : Int))) (.leaf (.nrm, Fc r 2 n m c d C F (cond (C k == 0) (IntKind.i64.wrap (dn + 1)) dn) (IntKind.i64.wrap (Int.ofNat k + 1)))) (.leaf (.ext 0, FcE r 2 n m c d C F dn)), andB (impB (decide (Int.ofNat k < (m : Int))) (obFc m k)) true) := by kernel_rfl
theorem stepFc3 (B : Nat) (r : Int) (n m : Nat) (c : Bt) (d : Dd) (C : Nat → Int) (F : Fl) (dn : Int) (k : Nat) : evC JS Try.prog (callF Try.prog extK 20 8) noL 20 (loopN Try.prog 45 8) (Fc r 3 n m c d C F dn (Int.ofNat k)) (kH B [4, 8, 9, 10, 11] [4, 8, 10] gN) = some (.node (decide (Int.ofNat k < (m : Int))) (.leaf (.nrm, Fc r 3 n m c d C F (cond (C k == 0) (IntKind.i64.wrap (dn + 1)) dn) (IntKind.i64.wrap (Int.ofNat k + 1)))) (.leaf (.ext 0, FcE r 3 n m c d C F dn)), andB (impB (decide (Int.ofNat k < (m : Int))) (obFc m k)) true) := by kernel_rfl
theorem stepFc4 (B : Nat) (r : Int) (n m : Nat) (c : Bt) (d : Dd) (C : Nat → Int) (F : Fl) (dn : Int) (k : Nat) : evC JS Try.prog (callF Try.prog extK 20 8) noL 20 (loopN Try.prog 45 8) (Fc r 4 n m c d C F dn (Int.ofNat k)) (kH B [4, 8, 9, 10, 11] [4, 8, 10] gN) = some (.node (decide (Int.ofNat k < (m : Int))) (.leaf (.nrm, Fc r 4 n m c d C F (cond (C k == 0) (IntKind.i64.wrap (dn + 1)) dn) (IntKind.i64.wrap (Int.ofNat k + 1)))) (.leaf (.ext 0, FcE r 4 n m c d C F dn)), andB (impB (decide (Int.ofNat k < (m : Int))) (obFc m k)) true) := by kernel_rfl
theorem stepFc (B : Nat) (r : Int) {R : Nat} (h1 : 1 ≤ R) (h2 : R ≤ 4) (n m : Nat) (c : Bt) (d : Dd) (C : Nat → Int) (F : Fl) (dn : Int) (k : Nat) : evC JS Try.prog (callF Try.prog extK 20 8) noL 20 (loopN Try.prog 45 8) (Fc r R n m c d C F dn (Int.ofNat k)) (kH B [4, 8, 9, 10, 11] [4, 8, 10] gN) = some (.node (decide (Int.ofNat k < (m : Int))) (.leaf (.nrm, Fc r R n m c d C F (cond (C k == 0) (IntKind.i64.wrap (dn + 1)) dn) (IntKind.i64.wrap (Int.ofNat k + 1)))) (.leaf (.ext 0, FcE r R n m c d C F dn)), andB (impB (decide (Int.ofNat k < (m : Int))) (obFc m k)) true) := by
  have hR : R = 1 ∨ R = 2 ∨ R = 3 ∨ R = 4 := by omega
  rcases hR with rfl | rfl | rfl | rfl
  · exact stepFc1 B r n m c d C F dn k
  · exact stepFc2 B r n m c d C F dn k
  · exact stepFc3 B r n m c d C F dn k
  · exact stepFc4 B r n m c d C F dn k
def cnt (C : Nat → Int) : Nat → Nat
  | 0 => 0
  | k + 1 => cond (C k == 0) (cnt C k + 1) (cnt C k)
theorem cnt_le (C : Nat → Int) : ∀ k, cnt C k ≤ k
  | 0 => Nat.le_refl _
  | k + 1 => by
    have := cnt_le C k
    unfold cnt
    cases (C k == 0) with
    | true => simp only [cond_true]; omega
    | false => simp only [cond_false]; omega
theorem cnt_int (C : Nat → Int) {k : Nat} (h : k ≤ 1000) : cond (C k == 0) (IntKind.i64.wrap ((cnt C k : Int) + 1)) (cnt C k : Int) = (cnt C (k + 1) : Int) := by
  have := cnt_le C k
  rw [show cnt C (k + 1) = cond (C k == 0) (cnt C k + 1) (cnt C k) from rfl]
  cases (C k == 0) with
  | true => simp only [cond_true]; rw [wrap_i64 (by omega) (by omega)]; omega
  | false => rfl
theorem cnt_dnc (E : En) (R : Nat) (d : Dd) : ∀ k, cnt (sc E R d) k = dnc E R d k
  | 0 => rfl
  | k + 1 => by
    show cond _ (cnt (sc E R d) k + 1) (cnt (sc E R d) k) = _
    rw [cnt_dnc E R d k]; rfl
theorem loopFc (B : Nat) (r : Int) {R : Nat} (h1 : 1 ≤ R) (h2 : R ≤ 4) (n : Nat) {m : Nat} (hm : m ≤ 1000) (c : Bt) (d : Dd) (C : Nat → Int) (F : Fl) : LoopOk Try.prog B (loopN Try.prog 45 8) (Fc r R n m c d C F 0 0) (.leaf (.ext 0, FcE r R n m c d C F (cnt C m))) :=
  loop_allH (callF_ok sxApart sxMixed extK_ok (N := 20) 8) sxMixed (N := 20) (L := noL) (fun _ _ _ _ h => by cases h) [4, 8, 9, 10, 11] [4, 8, 10] gN (fun k => Fc r R n m c d C F (cnt C k) (Int.ofNat k)) m _ (fun h => by cases h)
    (fun k hk => by
      refine ⟨_, by rw [stepFc B r h1 h2, ofNat_lt, decide_eq_true hk, show obFc m k = true from by unfold obFc; rw [inB_nat hk, blt_lt hk]; rfl]; rfl, ?_⟩
      simp only [Tr.get, cond_true]
      rw [cnt_int C (by omega), wrap_i64 (n := Int.ofNat k + 1) (by simp only [Int.ofNat_eq_natCast]; omega) (by simp only [Int.ofNat_eq_natCast]; omega)]
      exact XLe.refl _)
    ⟨_, by rw [stepFc B r h1 h2, ofNat_lt, decide_eq_false (Nat.lt_irrefl m), imp_ff], XLe.refl _⟩
end Go.Proofs.Ytllonddgbjgmdaa.P19
