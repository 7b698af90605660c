/- Texts of one claim, put together. -/
import Derived.Test.YtllonddgbjgmdaaSxW1
set_option linter.unusedVariables false
set_option linter.unusedSimpArgs false
set_option maxRecDepth 100000
namespace Go.Proofs.Ytllonddgbjgmdaa.W2
open Go.Sx Go.Sx.R0 Go.RowKit Go.Proofs.Ytllonddgbjgmdaa.W1

-- names
def chB (s : List UInt8) (k : Nat) : Bool := cond (decide (((s.getD k 0).toNat : Int) < 97)) true (decide (((s.getD k 0).toNat : Int) > 122))
def obN (s : List UInt8) (k : Nat) : Bool := andB (inB (Int.ofNat k) s.length) (andB (impB (!decide (((s.getD k 0).toNat : Int) < 97)) (andB (inB (Int.ofNat k) s.length) true)) true)
theorem obN_true {s : List UInt8} {k : Nat} (h : k < s.length) : obN s k = true := by unfold obN; rw [inB_nat h, show andB true true = true from rfl, imp_t rfl]; rfl
def Na (s : List UInt8) (k : Int) : St := ⟨[.str s, .junk, .junk, .int .i64 k] ++ junks 19, []⟩
def NaR (s : List UInt8) : St := ⟨[.str s, .junk, .bool false] ++ junks 20, []⟩
def NaE (s : List UInt8) : St := ⟨[.str s] ++ junks 22, []⟩
noncomputable def tNa (s : List UInt8) : Tr (AX × St) := .node (allB s.length fun k => !chB s k) (.leaf (.ext 0, NaE s)) (.leaf (.ret, NaR s))
theorem stepNa (s : List UInt8) (k : Nat) : evC JS Try.prog (callF Try.prog extK 20 8) noL 20 (loopN Try.prog 94 3) (Na s (Int.ofNat k)) (kG 0 [0, 3] [0, 2] none none) =
    some (.node (decide (Int.ofNat k < (s.length : Int))) (.node (chB s k) (.leaf (.ret, NaR s)) (.leaf (.nrm, Na s (IntKind.i64.wrap (Int.ofNat k + 1))))) (.leaf (.ext 0, NaE s)), andB (impB (decide (Int.ofNat k < (s.length : Int))) (obN s k)) true) := by kernel_rfl
theorem loopNa (s : List UInt8) (hs : s.length ≤ 9223372036854775807) : LoopOk Try.prog 0 (loopN Try.prog 94 3) (Na s 0) (tNa s) :=
  loopF (callF_ok sxApart sxMixed extK_ok (N := 20) 8) sxMixed [0, 3] [0, 2] none none (fun k => Na s (Int.ofNat k)) (fun k => Na s (IntKind.i64.wrap (Int.ofNat k + 1))) s.length hs (chB s) (fun _ => (.ret, NaR s)) (.ext 0, NaE s) (obN s) (fun _ h => by cases h) (fun h => by cases h) (stepNa s) (fun k h => obN_true h) fun k _ _ hw => by rw [hw]; exact SLe.refl _
def Nb (s : List UInt8) (k : Int) : St := ⟨[.str s, .junk, .junk, .junk, .junk, .int .i64 (s.length : Int), .int .i64 k] ++ junks 16, []⟩
theorem stepNb (s : List UInt8) (k : Nat) : evC JS Try.prog (callF Try.prog extK 20 8) noL 20 (loopN Try.prog 59 3) (Nb s (Int.ofNat k)) (kG 0 [0, 5, 6] [0, 2] none none) =
    some (.node (decide (Int.ofNat k < (s.length : Int))) (.node (chB s k) (.leaf (.ret, NaR s)) (.leaf (.nrm, Nb s (IntKind.i64.wrap (Int.ofNat k + 1))))) (.leaf (.ext 0, NaE s)), andB (impB (decide (Int.ofNat k < (s.length : Int))) (obN s k)) true) := by kernel_rfl
theorem loopNb (s : List UInt8) (hs : s.length ≤ 9223372036854775807) : LoopOk Try.prog 0 (loopN Try.prog 59 3) (Nb s 0) (tNa s) :=
  loopF (callF_ok sxApart sxMixed extK_ok (N := 20) 8) sxMixed [0, 5, 6] [0, 2] none none (fun k => Nb s (Int.ofNat k)) (fun k => Nb s (IntKind.i64.wrap (Int.ofNat k + 1))) s.length hs (chB s) (fun _ => (.ret, NaR s)) (.ext 0, NaE s) (obN s) (fun _ h => by cases h) (fun h => by cases h) (stepNb s) (fun k h => obN_true h) fun k _ _ hw => by rw [hw]; exact SLe.refl _
/-- is it a name -/
def nm (s : List UInt8) : Bool := cond (allB s.length fun k => !chB s k) (cond (decide ((s.length : Int) ≥ 1)) (decide ((s.length : Int) ≤ 12)) false) false
def selS : List AV → Option (List UInt8)
  | [.str s] => some s
  | [.lit (.str s)] => some s
  | _ => none
noncomputable def runNm : List AV → List Blk → Option Lf := famK selS fun s => selRun (runAtD [.str s] [] (.leaf (.bool (nm s), none)) (Nat.ble s.length 9223372036854775807))
noncomputable def okNm (s : List UInt8) : Bool := andB (deq [.str s] [.str s]) (andB (deqH [] []) (Nat.ble s.length 9223372036854775807))
theorem okNm_true {s : List UInt8} (h : s.length ≤ 9223372036854775807) : okNm s = true := by unfold okNm; rw [deq_self, deqH_self, Nat.ble_eq_true_of_le h]; rfl
theorem nmS : SumOk Try.prog 94 runNm := famK_ok fun s => sum_atD sxApart sxMixed extK_ok (loopAt 3 [0, 3] (Na s 0) (tNa s) noL) (N := 20) (d := 8) fun hn => by
  refine ⟨loopAt_all (B := 0) (by decide +kernel) (loopNa s (Nat.le_of_ble_eq_true hn)) noL_all, _, ?_, LLe.refl _⟩
  have h : evF Try.prog extK (loopAt 3 [0, 3] (Na s 0) (tNa s) noL) 20 8 94 [.str s] [] = some (.leaf (.bool (nm s), none), andB (deqS (Na s 0) (Na s 0)) true) := by kernel_rfl
  rw [deqS_self] at h
  exact h
theorem nmI : SumOk Try.prog 59 runNm := famK_ok fun s => sum_atD sxApart sxMixed extK_ok (loopAt 3 [0, 5, 6] (Nb s 0) (tNa s) noL) (N := 20) (d := 8) fun hn => by
  refine ⟨loopAt_all (B := 0) (by decide +kernel) (loopNb s (Nat.le_of_ble_eq_true hn)) noL_all, _, ?_, LLe.refl _⟩
  have h : evF Try.prog extK (loopAt 3 [0, 5, 6] (Nb s 0) (tNa s) noL) 20 8 59 [.str s] [] = some (.leaf (.bool (nm s), none), andB (deqS (Nb s 0) (Nb s 0)) true) := by kernel_rfl
  rw [deqS_self] at h
  exact h

-- places of names
def hit (c : Bt) (s : List UInt8) (k : Nat) : Bool := c.n k == s
def fnd (c : Bt) (s : List UInt8) (i : Nat) : Int := cond (allB i fun k => !hit c s k) (-1) (Int.ofNat (fb (fun k => !hit c s k) i))
def obF (i n k : Nat) : Bool := andB (inB (Int.ofNat k) i) (andB (Nat.blt k n) true)
theorem obF_true {i n k : Nat} (h : k < i) (hn : i ≤ n) : obF i n k = true := by unfold obF; rw [inB_nat h, blt_lt (show k < n by omega)]; rfl
def Fa (i n : Nat) (c : Bt) (s : List UInt8) (k : Int) : St := ⟨[.slc 0 0 i, .str s, .junk, .junk, .junk, .int .i64 k] ++ junks 14, Bt.ro1 n c⟩
def FaR (n : Nat) (c : Bt) (k : Nat) : St := ⟨junks 4 ++ [.int .i64 (Int.ofNat k)] ++ junks 15, Bt.ro1 n c⟩
def FaE (n : Nat) (c : Bt) : St := ⟨junks 20, Bt.ro1 n c⟩
noncomputable def tFa (i n : Nat) (c : Bt) (s : List UInt8) : Tr (AX × St) := .node (allB i fun k => !hit c s k) (.leaf (.ext 0, FaE n c)) (.leaf (.ret, FaR n c (fb (fun k => !hit c s k) i)))
theorem stepFa (i n : Nat) (c : Bt) (s : List UInt8) (k : Nat) : evC JS Try.prog (callF Try.prog extK 20 8) noL 20 (loopN Try.prog 95 3) (Fa i n c s (Int.ofNat k)) (kG 1 [0, 1, 5] [4] none none) =
    some (.node (decide (Int.ofNat k < (i : Int))) (.node (hit c s k) (.leaf (.ret, FaR n c k)) (.leaf (.nrm, Fa i n c s (IntKind.i64.wrap (Int.ofNat k + 1))))) (.leaf (.ext 0, FaE n c)), andB (impB (decide (Int.ofNat k < (i : Int))) (obF i n k)) true) := by kernel_rfl
theorem loopFa {i n : Nat} (hi : i ≤ n) (hn : n ≤ few) (c : Bt) (s : List UInt8) : LoopOk Try.prog 1 (loopN Try.prog 95 3) (Fa i n c s 0) (tFa i n c s) :=
  loopF (callF_ok sxApart sxMixed extK_ok (N := 20) 8) sxMixed [0, 1, 5] [4] none none (fun k => Fa i n c s (Int.ofNat k)) (fun k => Fa i n c s (IntKind.i64.wrap (Int.ofNat k + 1))) i (by have := few_eq; omega) (hit c s) (fun k => (.ret, FaR n c k)) (.ext 0, FaE n c) (obF i n) (fun _ h => by cases h) (fun h => by cases h) (stepFa i n c s) (fun k h => obF_true h hi) fun k _ _ hw => by rw [hw]; exact SLe.refl _
def fH (n : Nat) (c : Bt) (s : List UInt8) : List Blk := [.rows false n 9 c.row, .one false [.str s]]
def Fb (i n : Nat) (c : Bt) (s : List UInt8) (k : Int) : St := ⟨[.slc 0 0 i, .fn (.func 100) [] [.ptr 1 0 0]] ++ junks 5 ++ [.int .i64 (i : Int), .int .i64 k] ++ junks 10, fH n c s⟩
def FbR (n : Nat) (c : Bt) (s : List UInt8) (k : Nat) : St := ⟨junks 4 ++ [.int .i64 (Int.ofNat k)] ++ junks 14, fH n c s⟩
def FbE (n : Nat) (c : Bt) (s : List UInt8) : St := ⟨junks 19, fH n c s⟩
noncomputable def tFb (i n : Nat) (c : Bt) (s : List UInt8) : Tr (AX × St) := .node (allB i fun k => !hit c s k) (.leaf (.ext 0, FbE n c s)) (.leaf (.ret, FbR n c s (fb (fun k => !hit c s k) i)))
theorem stepFb (i n : Nat) (c : Bt) (s : List UInt8) (k : Nat) : evC JS Try.prog (callF Try.prog extK 20 8) noL 20 (loopN Try.prog 99 3) (Fb i n c s (Int.ofNat k)) (kG 2 [0, 1, 7, 8] [4] (some [0, 1]) (some [0, 1])) =
    some (.node (decide (Int.ofNat k < (i : Int))) (.node (hit c s k) (.leaf (.ret, FbR n c s k)) (.leaf (.nrm, Fb i n c s (IntKind.i64.wrap (Int.ofNat k + 1))))) (.leaf (.ext 0, FbE n c s)), andB (impB (decide (Int.ofNat k < (i : Int))) (obF i n k)) true) := by kernel_rfl
theorem loopFb {i n : Nat} (hi : i ≤ n) (hn : n ≤ few) (c : Bt) (s : List UInt8) : LoopOk Try.prog 2 (loopN Try.prog 99 3) (Fb i n c s 0) (tFb i n c s) :=
  loopF (callF_ok sxApart sxMixed extK_ok (N := 20) 8) sxMixed [0, 1, 7, 8] [4] (some [0, 1]) (some [0, 1]) (fun k => Fb i n c s (Int.ofNat k)) (fun k => Fb i n c s (IntKind.i64.wrap (Int.ofNat k + 1))) i (by have := few_eq; omega) (hit c s) (fun k => (.ret, FbR n c s k)) (.ext 0, FbE n c s) (obF i n) (fun _ h => by cases h) (fun h => by cases h) (stepFb i n c s) (fun k h => obF_true h hi) fun k _ _ hw => by rw [hw]; exact SLe.refl _
def selF : List AV → Option (Nat × List UInt8)
  | [.slc _ _ i, .str s] => some (i, s)
  | _ => none
noncomputable def runFn (n : Nat) (c : Bt) : List AV → List Blk → Option Lf := famK selF fun x => selRun (runAtH [.slc 0 0 x.1, .str x.2] (Bt.ro1 n c) (.leaf (.int .i64 (fnd c x.2 x.1), none)) (andB (Nat.ble x.1 n) (Nat.ble n few)))
noncomputable def okFn (n : Nat) (c : Bt) (i : Nat) (s : List UInt8) : Bool := andB (deq [.slc 0 0 i, .str s] [.slc 0 0 i, .str s]) (andB (deqH (Bt.ro1 n c) (Bt.ro1 n c)) (andB (Nat.ble i n) (Nat.ble n few)))
theorem okFn_true {n i : Nat} (hi : i ≤ n) (hn : n ≤ few) (c : Bt) (s : List UInt8) : okFn n c i s = true := by unfold okFn; rw [deq_self, deqH_self, Nat.ble_eq_true_of_le hi, Nat.ble_eq_true_of_le hn]; rfl
theorem fnS (n : Nat) (c : Bt) : SumOk Try.prog 95 (runFn n c) := famK_ok fun x => sum_atH sxApart sxMixed extK_ok (loopAt 3 [0, 1, 5] (Fa x.1 n c x.2 0) (tFa x.1 n c x.2) noL) (N := 20) (d := 8) fun hg => by
  obtain ⟨h1, h2⟩ := andB_true hg
  refine ⟨loopAt_all (B := 1) (by decide +kernel) (loopFa (Nat.le_of_ble_eq_true h1) (Nat.le_of_ble_eq_true h2) c x.2) noL_all, _, ?_, LLe.refl _⟩
  have h : evF Try.prog extK (loopAt 3 [0, 1, 5] (Fa x.1 n c x.2 0) (tFa x.1 n c x.2) noL) 20 8 95 [.slc 0 0 x.1, .str x.2] (Bt.ro1 n c) = some (.leaf (.int .i64 (fnd c x.2 x.1), none), andB (deqS (Fa x.1 n c x.2 0) (Fa x.1 n c x.2 0)) true) := by kernel_rfl
  rw [deqS_self] at h
  exact h
noncomputable def runFx (n : Nat) (c : Bt) (i : Nat) (s : List UInt8) : List AV → List Blk → Option Lf := selRun (runAtH [.slc 0 0 i, .fn (.func 100) [] [.ptr 1 0 0]] (fH n c s) (.leaf (.int .i64 (fnd c s i), none)) (andB (Nat.ble i n) (Nat.ble n few)))
theorem fxI (n : Nat) (c : Bt) (i : Nat) (s : List UInt8) : SumOk Try.prog 99 (runFx n c i s) := sum_atH sxApart sxMixed extK_ok (loopAt 3 [0, 1, 7, 8] (Fb i n c s 0) (tFb i n c s) noL) (N := 20) (d := 8) fun hg => by
  obtain ⟨h1, h2⟩ := andB_true hg
  refine ⟨loopAt_all (B := 2) (by decide +kernel) (loopFb (Nat.le_of_ble_eq_true h1) (Nat.le_of_ble_eq_true h2) c s) noL_all, _, ?_, LLe.refl _⟩
  have h : evF Try.prog extK (loopAt 3 [0, 1, 7, 8] (Fb i n c s 0) (tFb i n c s) noL) 20 8 99 [.slc 0 0 i, .fn (.func 100) [] [.ptr 1 0 0]] (fH n c s) = some (.leaf (.int .i64 (fnd c s i), none), andB (deqS (Fb i n c s 0) (Fb i n c s 0)) true) := by kernel_rfl
  rw [deqS_self] at h
  exact h
noncomputable def okFx (n : Nat) (c : Bt) (i : Nat) (s : List UInt8) : Bool := andB (deq [.slc 0 0 i, .fn (.func 100) [] [.ptr 1 0 0]] [.slc 0 0 i, .fn (.func 100) [] [.ptr 1 0 0]]) (andB (deqH (fH n c s) (fH n c s)) (andB (Nat.ble i n) (Nat.ble n few)))
theorem fnI (n : Nat) (c : Bt) : SumOk Try.prog 61 (runFn n c) := famK_ok fun x => sum_atH sxApart sxMixed (addK_ok (fxI n c x.1 x.2) extK_ok) noL (N := 20) (d := 8) fun hg => by
  refine ⟨noL_all, _, ?_, LLe.refl _⟩
  have h : evF Try.prog (addK 99 (runFx n c x.1 x.2) extK) noL 20 8 61 [.slc 0 0 x.1, .str x.2] (Bt.ro1 n c) = some (.leaf (.int .i64 (fnd c x.2 x.1), none), andB (okFx n c x.1 x.2) true) := by kernel_rfl
  rw [h]
  unfold okFx
  rw [deq_self, deqH_self, hg]; rfl

-- drops
def d8 (d : Nat → Int) : List AV := [.int .i64 (d 0), .int .i64 (d 1), .int .i64 (d 2), .int .i64 (d 3), .int .i64 (d 4), .int .i64 (d 5), .int .i64 (d 6), .int .i64 (d 7)]
def inD (x : Int) : Bool := cond (decide (0 ≤ x)) (decide (x ≤ 100000)) false
def drV (d : Nat → Int) : Bool := cond (!inD (d 0)) false (cond (!inD (d 1)) false (cond (!inD (d 2)) false (cond (!inD (d 3)) false (cond (!inD (d 4)) false (cond (!inD (d 5)) false (cond (!inD (d 6)) false (cond (!inD (d 7)) false (true))))))))
def drI (d : Nat → Int) : Bool := !decide ((cond (!inD (d 0)) (0) (cond (!inD (d 1)) (IntKind.i64.wrap (0 + 1)) (cond (!inD (d 2)) (IntKind.i64.wrap (IntKind.i64.wrap (0 + 1) + 1)) (cond (!inD (d 3)) (IntKind.i64.wrap (IntKind.i64.wrap (IntKind.i64.wrap (0 + 1) + 1) + 1)) (cond (!inD (d 4)) (IntKind.i64.wrap (IntKind.i64.wrap (IntKind.i64.wrap (IntKind.i64.wrap (0 + 1) + 1) + 1) + 1)) (cond (!inD (d 5)) (IntKind.i64.wrap (IntKind.i64.wrap (IntKind.i64.wrap (IntKind.i64.wrap (IntKind.i64.wrap (0 + 1) + 1) + 1) + 1) + 1)) (cond (!inD (d 6)) (IntKind.i64.wrap (IntKind.i64.wrap (IntKind.i64.wrap (IntKind.i64.wrap (IntKind.i64.wrap (IntKind.i64.wrap (0 + 1) + 1) + 1) + 1) + 1) + 1)) (cond (!inD (d 7)) (IntKind.i64.wrap (IntKind.i64.wrap (IntKind.i64.wrap (IntKind.i64.wrap (IntKind.i64.wrap (IntKind.i64.wrap (IntKind.i64.wrap (0 + 1) + 1) + 1) + 1) + 1) + 1) + 1)) (-1)))))))) : Int) ≥ 0)
theorem drI_drV (d : Nat → Int) : drI d = drV d := by
  unfold drI drV
  generalize inD (d 0) = a0
  generalize inD (d 1) = a1
  generalize inD (d 2) = a2
  generalize inD (d 3) = a3
  generalize inD (d 4) = a4
  generalize inD (d 5) = a5
  generalize inD (d 6) = a6
  generalize inD (d 7) = a7
  revert a0 a1 a2 a3 a4 a5 a6 a7
  decide
def selD : List AV → Option (Nat → Int)
  | [.agg [.int .i64 c0, .int .i64 c1, .int .i64 c2, .int .i64 c3, .int .i64 c4, .int .i64 c5, .int .i64 c6, .int .i64 c7]] => some (fun i => [c0, c1, c2, c3, c4, c5, c6, c7].getD i 0)
  | _ => none
noncomputable def runDr : List AV → List Blk → Option Lf := famK selD fun d => selRun (runAtH [.agg (d8 d)] [] (.leaf (.bool (drV d), none)) true)
noncomputable def okDr (d : Nat → Int) : Bool := andB (deq [.agg (d8 d)] [.agg (d8 d)]) (andB (deqH [] []) true)
theorem okDr_true (d : Nat → Int) : okDr d = true := by unfold okDr; rw [deq_self, deqH_self]; rfl
theorem drS : SumOk Try.prog 96 runDr := famK_ok fun d => sum_atH sxApart sxMixed extK_ok noL (N := 20) (d := 8) fun _ => by
  refine ⟨noL_all, _, ?_, LLe.refl _⟩
  have h : evF Try.prog extK noL 20 8 96 [.agg (d8 d)] [] = some (.leaf (.bool (drV d), none), true) := by kernel_rfl
  exact h
theorem drIo : SumOk Try.prog 60 runDr := famK_ok fun d => sum_atH sxApart sxMixed extK_ok noL (N := 20) (d := 8) fun _ => by
  have h : evF Try.prog extK noL 20 8 60 [.agg (d8 d)] [] = some (.leaf (.bool (drI d), none), true) := by kernel_rfl
  refine ⟨noL_all, _, h, ?_⟩
  rw [drI_drV]
  exact LLe.refl _
end Go.Proofs.Ytllonddgbjgmdaa.W2
set_option linter.unusedVariables false
set_option linter.unusedSimpArgs false
set_option maxRecDepth 100000
namespace Go.Proofs.Ytllonddgbjgmdaa.W3
open Go.Sx Go.Sx.R0 Go.RowKit Go.Proofs.Ytllonddgbjgmdaa.W1 Go.Proofs.Ytllonddgbjgmdaa.W2

noncomputable def vK (n : Nat) (c : Bt) : CallerT := addK 94 runNm (addK 59 runNm (addK 95 (runFn n c) (addK 61 (runFn n c) (addK 96 runDr (addK 60 runDr extK)))))
theorem vK_ok (n : Nat) (c : Bt) : CallerTOk Try.prog (vK n c) := addK_ok nmS (addK_ok nmI (addK_ok (fnS n c) (addK_ok (fnI n c) (addK_ok drS (addK_ok drIo extK_ok)))))
def dk (c : Bt) (k : Nat) : Nat → Int := fun j => c.d j k
def badS (c : Bt) (k : Nat) : Bool := cond (cond (!nm (c.n k)) true (decide (fnd c (c.n k) k ≥ 0))) true (!drV (dk c k))
def badI (n : Nat) (c : Bt) (k : Nat) : Bool := cond (cond (!nm (c.n k)) true (!drV (dk c k))) true (fnd c (c.n k) n != Int.ofNat k)
def bx (r : Int) (n : Nat) (c : Bt) : List Blk := [.one false [.int .i64 r, .slc 1 0 n], .rows false n 9 c.row]
def by' (r : Int) (n : Nat) (c : Bt) : List Blk := [.rows false n 9 c.row, .one true [.int .i64 r, .slc 0 0 n]]
def Va (r : Int) (n : Nat) (c : Bt) (k : Int) : St := ⟨[.ptr 0 0 0, .junk, .junk, .int .i64 k] ++ junks 64, bx r n c⟩
def VaR (r : Int) (n : Nat) (c : Bt) : St := ⟨junks 2 ++ [.bool false] ++ junks 65, bx r n c⟩
def VaE (r : Int) (n : Nat) (c : Bt) : St := ⟨junks 68, bx r n c⟩
def ik (n k : Nat) (q : Bool) : Bool := andB (inB (Int.ofNat k) n) (andB (Nat.blt k n) (andB q true))
theorem ik_true {n k : Nat} (h : k < n) {q : Bool} (hq : q = true) : ik n k q = true := by unfold ik; rw [inB_nat h, blt_lt h, hq]; rfl
def sl (n k : Nat) : Bool := decide (Int.ofNat k ≤ (n : Int)) || decide (((0 : Nat) : Int) + Int.ofNat k ≤ (n : Int))
theorem sl_true {n k : Nat} (h : k < n) : sl n k = true := by unfold sl; rw [decide_eq_true (show Int.ofNat k ≤ (n : Int) by simp; omega)]; rfl
noncomputable def obA (n : Nat) (c : Bt) (k : Nat) : Bool := andB (andB (inB (Int.ofNat k) n) (andB (Nat.blt k n) (andB (okNm (c.n k)) (andB (impB (!!nm (c.n k)) (andB (sl n k) (ik n k (okFn n c k (c.n k))))) (andB (impB (!(cond (!nm (c.n k)) true (decide (fnd c (c.n k) k ≥ 0)))) (ik n k (okDr (dk c k)))) true))))) true
theorem obA_true {n : Nat} {c : Bt} (hn : n ≤ few) (hc : NmOk n c) (k : Nat) (h : k < n) : obA n c k = true := by
  unfold obA
  rw [inB_nat h, blt_lt h, okNm_true (by have := hc k h; omega), sl_true h, ik_true h (okFn_true (by omega) hn c _), ik_true h (okDr_true _), show andB true true = true from rfl, imp_t rfl, imp_t rfl]
  rfl
theorem stepVa (r : Int) (n : Nat) (c : Bt) (k : Nat) : evC JS Try.prog (callF Try.prog (vK n c) 20 8) noL 20 (loopN Try.prog 57 5) (Va r n c (Int.ofNat k)) (kG 2 [0, 3] [2] none none) =
    some (.node (decide (Int.ofNat k < (n : Int))) (.node (badS c k) (.leaf (.ret, VaR r n c)) (.leaf (.nrm, Va r n c (IntKind.i64.wrap (Int.ofNat k + 1))))) (.leaf (.ext 0, VaE r n c)), andB (impB (decide (Int.ofNat k < (n : Int))) (obA n c k)) true) := by kernel_rfl
noncomputable def tVa (r : Int) (n : Nat) (c : Bt) : Tr (AX × St) := .node (allB n fun k => !badS c k) (.leaf (.ext 0, VaE r n c)) (.leaf (.ret, VaR r n c))
theorem loopVa (r : Int) {n : Nat} (hn : n ≤ few) {c : Bt} (hc : NmOk n c) : LoopOk Try.prog 2 (loopN Try.prog 57 5) (Va r n c 0) (tVa r n c) :=
  loopF (callF_ok sxApart sxMixed (vK_ok n c) (N := 20) 8) sxMixed [0, 3] [2] none none (fun k => Va r n c (Int.ofNat k)) (fun k => Va r n c (IntKind.i64.wrap (Int.ofNat k + 1))) n (by have := few_eq; omega) (badS c) (fun _ => (.ret, VaR r n c)) (.ext 0, VaE r n c) (obA n c) (fun _ h => by cases h) (fun h => by cases h) (stepVa r n c) (obA_true hn hc) fun k _ _ hw => by rw [hw]; exact SLe.refl _
-- the program
def Vb (r : Int) (n : Nat) (c : Bt) (k : Int) : St := ⟨[.junk, .ptr 1 0 0] ++ junks 15 ++ [.slc 0 0 n, .int .i64 n, .int .i64 k] ++ junks 24, by' r n c⟩
def VbR (r : Int) (n : Nat) (c : Bt) : St := ⟨junks 2 ++ [.bool false] ++ junks 41, by' r n c⟩
def VbE (r : Int) (n : Nat) (c : Bt) : St := ⟨junks 44, by' r n c⟩
noncomputable def obB (n : Nat) (c : Bt) (k : Nat) : Bool := andB (inB (Int.ofNat k) n) (andB (Nat.blt k n) (andB (okNm (c.n k)) (andB (impB (!!nm (c.n k)) (andB (okDr (dk c k)) true)) (andB (impB (!(cond (!nm (c.n k)) true (!drV (dk c k)))) (andB (okFn n c n (c.n k)) true)) true))))
theorem obB_true {n : Nat} {c : Bt} (hn : n ≤ few) (hc : NmOk n c) (k : Nat) (h : k < n) : obB n c k = true := by
  unfold obB
  rw [inB_nat h, blt_lt h, okNm_true (by have := hc k h; omega), okFn_true (Nat.le_refl n) hn c _, okDr_true, show andB true true = true from rfl, imp_t rfl, imp_t rfl]
  rfl
theorem stepVb (r : Int) (n : Nat) (c : Bt) (k : Nat) : evC JS Try.prog (callF Try.prog (vK n c) 20 8) noL 20 (loopN Try.prog 22 5) (Vb r n c (Int.ofNat k)) (kG 1 [1, 17, 18, 19] [2] (some [0, 1]) (some [0, 1])) =
    some (.node (decide (Int.ofNat k < (n : Int))) (.node (badI n c k) (.leaf (.ret, VbR r n c)) (.leaf (.nrm, Vb r n c (IntKind.i64.wrap (Int.ofNat k + 1))))) (.leaf (.ext 0, VbE r n c)), andB (impB (decide (Int.ofNat k < (n : Int))) (obB n c k)) true) := by kernel_rfl
noncomputable def tVb (r : Int) (n : Nat) (c : Bt) : Tr (AX × St) := .node (allB n fun k => !badI n c k) (.leaf (.ext 0, VbE r n c)) (.leaf (.ret, VbR r n c))
theorem loopVb (r : Int) {n : Nat} (hn : n ≤ few) {c : Bt} (hc : NmOk n c) : LoopOk Try.prog 1 (loopN Try.prog 22 5) (Vb r n c 0) (tVb r n c) :=
  loopF (callF_ok sxApart sxMixed (vK_ok n c) (N := 20) 8) sxMixed [1, 17, 18, 19] [2] (some [0, 1]) (some [0, 1]) (fun k => Vb r n c (Int.ofNat k)) (fun k => Vb r n c (IntKind.i64.wrap (Int.ofNat k + 1))) n (by have := few_eq; omega) (badI n c) (fun _ => (.ret, VbR r n c)) (.ext 0, VbE r n c) (obB n c) (fun _ h => by cases h) (fun h => by cases h) (stepVb r n c) (obB_true hn hc) fun k _ _ hw => by rw [hw]; exact SLe.refl _

-- both ask the same
theorem first_bad {ok : Nat → Bool} : ∀ {i : Nat}, allB i ok = false → ∃ k, k < i ∧ allB k ok = true ∧ ok k = false
  | 0, h => by simp [allB] at h
  | i + 1, h => by
    cases hi : allB i ok with
    | false => obtain ⟨k, h1, h2, h3⟩ := first_bad hi; exact ⟨k, by omega, h2, h3⟩
    | true =>
      cases hk : ok i with
      | false => exact ⟨i, by omega, hi, hk⟩
      | true =>
        have : allB (i + 1) ok = true := allB_true.2 fun j hj => by
          rcases Nat.lt_or_ge j i with h' | h'
          · exact allB_true.1 hi j h'
          · have : j = i := by omega
            subst this; exact hk
        rw [this] at h; cases h
theorem fnd_eq (n : Nat) (c : Bt) (k : Nat) (hk : k < n) : decide (fnd c (c.n k) k ≥ 0) = (fnd c (c.n k) n != Int.ofNat k) := by
  have hself : (fun j => !hit c (c.n k) j) k = false := by simp [hit]
  cases ha : allB k (fun j => !hit c (c.n k) j) with
  | true =>
    unfold fnd
    rw [ha, allB_false hk hself, fb_eq ha hself n hk]
    simp
  | false =>
    obtain ⟨k0, h1, h2, h3⟩ := first_bad ha
    unfold fnd
    rw [ha, allB_false (show k0 < n by omega) h3, fb_eq h2 h3 k h1, fb_eq h2 h3 n (by omega)]
    simp only [cond_false]
    have e1 : Int.ofNat k0 ≥ 0 := Int.natCast_nonneg k0
    have e2 : Int.ofNat k0 ≠ Int.ofNat k := fun e => by simp at e; omega
    rw [decide_eq_true e1]
    exact (bne_iff_ne.2 e2).symm
theorem allB_congr {n : Nat} {p q : Nat → Bool} (h : ∀ k, k < n → p k = q k) : allB n p = allB n q := by
  cases hq : allB n q with
  | true => exact allB_true.2 fun k hk => by rw [h k hk]; exact allB_true.1 hq k hk
  | false =>
    obtain ⟨k, h1, _, h3⟩ := first_bad hq
    exact allB_false h1 (by rw [h k h1]; exact h3)
theorem bad_eq (n : Nat) (c : Bt) : (allB n fun k => !badI n c k) = allB n fun k => !badS c k := allB_congr fun k hk => by
  unfold badI badS
  rw [fnd_eq n c k hk]
  cases nm (c.n k) <;> cases drV (dk c k) <;> cases (fnd c (c.n k) n != Int.ofNat k) <;> rfl
/-- are works valid -/
def vW (r : Int) (n : Nat) (c : Bt) : Bool := cond (cond (!cond (decide (1 ≤ r)) (decide (r ≤ 4)) false) true (!cond (decide (1 ≤ (n : Int))) (decide ((n : Int) ≤ 6)) false)) false (cond (allB n fun k => !badS c k) true false)
noncomputable def runVp (r : Int) (n : Nat) (c : Bt) : List AV → List Blk → Option Lf := selRun (runAtH [.ptr 0 0 0] (bx r n c) (.leaf (.bool (vW r n c), none)) (andB (Nat.ble n few) (pB (NmOk n c))))
noncomputable def okVp (r : Int) (n : Nat) (c : Bt) : Bool := andB (deq [.ptr 0 0 0] [.ptr 0 0 0]) (andB (deqH (bx r n c) (bx r n c)) (andB (Nat.ble n few) (pB (NmOk n c))))
theorem okVp_true (r : Int) {n : Nat} (hn : n ≤ few) {c : Bt} (hc : NmOk n c) : okVp r n c = true := by unfold okVp; rw [deq_self, deqH_self, Nat.ble_eq_true_of_le hn, pB_true hc]; rfl
theorem vpS (r : Int) (n : Nat) (c : Bt) : SumOk Try.prog 57 (runVp r n c) := sum_atH sxApart sxMixed (vK_ok n c) (loopAt 5 [0, 3] (Va r n c 0) (tVa r n c) noL) (N := 20) (d := 8) fun hg => by
  obtain ⟨h1, h2⟩ := andB_true hg
  refine ⟨loopAt_all (B := 2) (by decide +kernel) (loopVa r (Nat.le_of_ble_eq_true h1) (pB_of h2)) noL_all, _, ?_, LLe.refl _⟩
  have h : evF Try.prog (vK n c) (loopAt 5 [0, 3] (Va r n c 0) (tVa r n c) noL) 20 8 57 [.ptr 0 0 0] (bx r n c) = some (.leaf (.bool (vW r n c), none), impB (!cond (!cond (decide (1 ≤ r)) (decide (r ≤ 4)) false) true (!cond (decide (1 ≤ (n : Int))) (decide ((n : Int) ≤ 6)) false)) (andB (deqS (Va r n c 0) (Va r n c 0)) true)) := by kernel_rfl
  rw [deqS_self, show andB true true = true from rfl, imp_t rfl] at h
  exact h
def AV1 (r : Int) (n : Nat) : List AV := [.agg [.int .i64 r, .slc 0 0 n]]
noncomputable def runV (r : Int) (n : Nat) (c : Bt) : List AV → List Blk → Option Lf := selRun (runAtH (AV1 r n) (Bt.ro1 n c) (.leaf (.bool (vW r n c), none)) (andB (Nat.ble n few) (pB (NmOk n c))))
noncomputable def okV (r : Int) (n : Nat) (c : Bt) : Bool := andB (deq (AV1 r n) (AV1 r n)) (andB (deqH (Bt.ro1 n c) (Bt.ro1 n c)) (andB (Nat.ble n few) (pB (NmOk n c))))
theorem okV_true (r : Int) {n : Nat} (hn : n ≤ few) {c : Bt} (hc : NmOk n c) : okV r n c = true := by unfold okV; rw [deq_self, deqH_self, Nat.ble_eq_true_of_le hn, pB_true hc]; rfl
theorem vI (r : Int) (n : Nat) (c : Bt) : SumOk Try.prog 22 (runV r n c) := sum_atH sxApart sxMixed (vK_ok n c) (loopAt 5 [1, 17, 18, 19] (Vb r n c 0) (tVb r n c) noL) (N := 20) (d := 8) fun hg => by
  obtain ⟨h1, h2⟩ := andB_true hg
  refine ⟨loopAt_all (B := 1) (by decide +kernel) (loopVb r (Nat.le_of_ble_eq_true h1) (pB_of h2)) noL_all, .leaf (.bool (cond (cond (!cond (decide (1 ≤ r)) (decide (r ≤ 4)) false) true (!cond (decide (1 ≤ (n : Int))) (decide ((n : Int) ≤ 6)) false)) false (cond (allB n fun k => !badI n c k) true false)), none), ?_, ?_⟩
  · have h : evF Try.prog (vK n c) (loopAt 5 [1, 17, 18, 19] (Vb r n c 0) (tVb r n c) noL) 20 8 22 (AV1 r n) (Bt.ro1 n c) = some (.leaf (.bool (cond (cond (!cond (decide (1 ≤ r)) (decide (r ≤ 4)) false) true (!cond (decide (1 ≤ (n : Int))) (decide ((n : Int) ≤ 6)) false)) false (cond (allB n fun k => !badI n c k) true false)), none), impB (!cond (!cond (decide (1 ≤ r)) (decide (r ≤ 4)) false) true (!cond (decide (1 ≤ (n : Int))) (decide ((n : Int) ≤ 6)) false)) (andB (deqS (Vb r n c 0) (Vb r n c 0)) true)) := by kernel_rfl
    rw [deqS_self, show andB true true = true from rfl, imp_t rfl] at h
    exact h
  · rw [bad_eq]; exact LLe.refl _
theorem vS (r : Int) (n : Nat) (c : Bt) : SumOk Try.prog 21 (runV r n c) := sum_atH sxApart sxMixed (addK_ok (vpS r n c) extK_ok) noL (N := 20) (d := 8) fun hg => by
  refine ⟨noL_all, _, ?_, LLe.refl _⟩
  have h : evF Try.prog (addK 57 (runVp r n c) extK) noL 20 8 21 (AV1 r n) (Bt.ro1 n c) = some (.leaf (.bool (vW r n c), none), andB (okVp r n c) true) := by kernel_rfl
  rw [h]
  obtain ⟨h1, h2⟩ := andB_true hg
  rw [okVp_true r (Nat.le_of_ble_eq_true h1) (pB_of h2)]; rfl
end Go.Proofs.Ytllonddgbjgmdaa.W3
set_option linter.unusedVariables false
set_option linter.unusedSimpArgs false
set_option maxRecDepth 100000
namespace Go.Proofs.Ytllonddgbjgmdaa.W4
open Go.Sx Go.Sx.R0 Go.RowKit Go.Proofs.Ytllonddgbjgmdaa.W1

noncomputable def K1 (n : Nat) (c : Bt) (K : CallerT) : CallerT := addK 52 (runSz n c) (addK 54 (selRun Bt.runTo) (addK 56 (selRun Bt.runEqS) K))
theorem K1_ok (n : Nat) (c : Bt) {K : CallerT} (hK : CallerTOk Try.prog K) : CallerTOk Try.prog (K1 n c K) := addK_ok (sumSz n c) (addK_ok Bt.to_ok (addK_ok Bt.eq_ok hK))
def val1 (a x r : Bool) : Bool := bif a then true else bif x then false else bif bif bif bif r then false else true then false else true then false else true then false else true
def owed1 (a x r q0 t w e0 : Bool) : Bool := andB (andB q0 true) (impB (!a) (andB (andB t true) (andB w (andB (andB t true) (andB w (impB (!x) (andB (andB (andB t true) true) (andB (impB (bif bif r then false else true then false else true) (andB e0 true)) true))))))))
theorem owed1_t : ∀ a x r q0 t w e0 : Bool, q0 = true → (a = false → t = true ∧ w = true ∧ e0 = true) → owed1 a x r q0 t w e0 = true := by decide
theorem val1_t : ∀ a : Bool, val1 a false true = true := by decide
noncomputable def neg1 (n : Nat) (c : Bt) : Bool := decide (Ln (szB n c 1048576) < 0)
theorem few_of {n : Nat} {c : Bt} (ln : n ≤ 9223372036854775807) (k0 : NmOk n c) (h : neg1 n c = false) : n ≤ few := by
  unfold neg1 at h
  rw [Ln_neg] at h
  have := szB_few ln k0 (by omega) (by omega) h
  rw [few_eq]; omega
theorem end1 {n : Nat} {c : Bt} (ln : n ≤ 9223372036854775807) (k0 : NmOk n c) (x r w : Bool) (hw : n ≤ few → w = true) : owed1 (neg1 n c) x r (okSz n c 1048576) (Bt.okT n c) w (Bt.okE n c) = true :=
  owed1_t _ _ _ _ _ _ _ (okSz_true ln _ _) fun ha => by
    have hf := few_of ln k0 ha
    have hb : Nat.ble n few = true := Nat.ble_eq_true_of_le hf
    exact ⟨Bt.okT_true hb _, hw hf, Bt.okE_true hb _⟩
end Go.Proofs.Ytllonddgbjgmdaa.W4
set_option linter.unusedVariables false
set_option linter.unusedSimpArgs false
set_option maxRecDepth 100000
namespace Go.Proofs.Ytllonddgbjgmdaa.W5
open Go.Sx Go.Sx.R0 Go.RowKit Go.Proofs.Ytllonddgbjgmdaa.W1 Go.Proofs.Ytllonddgbjgmdaa.W2 Go.Proofs.Ytllonddgbjgmdaa.W3

structure Tk where
  b : Nat → Int
  j : Nat → Int
  n : Nat → Int
def Tk.row (c : Tk) (i : Nat) : List AV := [.int .i64 (c.b i), .int .i64 (c.j i), .int .i64 (c.n i)]
def Tk.upd (c : Tk) (k : Nat) (c' : Tk) : Tk := ⟨fun i => cond (Nat.beq i k) (c.b k) (c'.b i), fun i => cond (Nat.beq i k) (c.j k) (c'.j i), fun i => cond (Nat.beq i k) (c.n k) (c'.n i)⟩
def Tk.upto (c : Tk) (k : Nat) : Tk := ⟨fun i => cond (Nat.blt i k) (c.b i) 0, fun i => cond (Nat.blt i k) (c.j i) 0, fun i => cond (Nat.blt i k) (c.n i) 0⟩
def Tk.zero : Tk := ⟨fun _ => 0, fun _ => 0, fun _ => 0⟩
def Tk.ro1 (n : Nat) (c : Tk) : List Blk := [.rows false n 3 c.row]
def Tk.ro2 (n : Nat) (c : Tk) : List Blk := [.rows false n 3 c.row, .rows false n 3 c.row]
abbrev TL := List (Int × Int × Int)
def lc (L : TL) : Tk := ⟨fun t => (L.getD t (0, 0, 0)).1, fun t => (L.getD t (0, 0, 0)).2.1, fun t => (L.getD t (0, 0, 0)).2.2⟩
def addT (c : Bt) (i j : Nat) (L : TL) : TL := bif decide (c.d j i > 0) then L ++ [((i : Int), (j : Int), c.d j i)] else L
def inn (c : Bt) (i : Nat) : Nat → Nat → TL → TL
  | 0, _, L => L
  | f + 1, j, L => inn c i f (j + 1) (addT c i j L)
def outL (c : Bt) : Nat → TL
  | 0 => []
  | k + 1 => inn c k 8 0 (outL c k)
theorem addT_len (c : Bt) (i j : Nat) (L : TL) : (addT c i j L).length ≤ L.length + 1 := by unfold addT; cases decide (c.d j i > 0) <;> simp
theorem inn_len (c : Bt) (i : Nat) : ∀ (f j : Nat) (L : TL), (inn c i f j L).length ≤ L.length + f
  | 0, _, L => by simp [inn]
  | f + 1, j, L => by
    have := inn_len c i f (j + 1) (addT c i j L)
    have := addT_len c i j L
    simp only [inn]; omega
theorem outL_len (c : Bt) : ∀ k, (outL c k).length ≤ 8 * k
  | 0 => by simp [outL]
  | k + 1 => by
    have := inn_len c k 8 0 (outL c k)
    have := outL_len c k
    simp only [outL]; omega
def z3 : List AV := List.replicate 3 (.int .i64 0)
def tB (m : Nat) (t : Tk) : Blk := .rows true m 3 t.row
def tl (L : TL) : Blk := tB L.length (lc L)
def apT (p : List Nat) (m : Nat) (t : Tk) (x y z : Int) : Blk := .rows true (m + 1) 3 (fun i => renVL (idxP p) (catF m (shF t.row 0) (shF (fun j => bif Nat.blt j 1 then (([AV.int .i64 x, .int .i64 y, .int .i64 z].drop (j * 3)).take 3) else z3) 0) i))
theorem apT_le (p : List Nat) (L : TL) (x y z : Int) : BLe (apT p L.length (lc L) x y z) (tl (L ++ [(x, y, z)])) := by
  unfold tl tB
  rw [show (L ++ [(x, y, z)]).length = L.length + 1 by simp]
  refine BLe.rows fun i hi => ?_
  have h0 : i - L.length = 0 := by omega
  simp only [catF, shF, h0]
  by_cases h : i < L.length
  · rw [blt_lt h]
    have e : (L ++ [(x, y, z)]).getD i (0, 0, 0) = L.getD i (0, 0, 0) := by simp [List.getD, List.getElem?_append_left h]
    simp only [Tk.row, lc, e]
    rfl
  · have : i = L.length := by omega
    subst this
    have e : (L ++ [(x, y, z)]).getD L.length (0, 0, 0) = (x, y, z) := by simp [List.getD]
    rw [blt_ge (Nat.le_refl _)]
    simp only [Tk.row, lc, e]
    rfl
def oi (n i m : Nat) : Bool := andB (andB (inB (Int.ofNat i) n) (andB (Nat.blt i n) true)) true

-- the reference
def mS (r : Int) (n : Nat) (c : Bt) (b : Blk) : List Blk := [.one false [.int .i64 r, .slc 1 0 n], .rows false n 9 c.row, b]
def Ta (r : Int) (n : Nat) (c : Bt) (i m : Nat) (b : Blk) (j : AV) : St := ⟨[.ptr 0 0 0, .junk, .junk, .slc 2 0 m, .int .i64 (Int.ofNat i), j] ++ junks 35, mS r n c b⟩
def TaE (r : Int) (n : Nat) (c : Bt) (i m : Nat) (b : Blk) : St := ⟨[.ptr 0 0 0, .junk, .junk, .slc 2 0 m, .int .i64 (Int.ofNat i)] ++ junks 36, mS r n c b⟩
def obG (m : Nat) (g : Bool) : Bool := impB g (andB (andB (andB (Nat.ble (0 + m) m) true) (Nat.ble (m + 1) few)) true)
theorem obG_true {m : Nat} (hm : m + 1 ≤ few) (g : Bool) : obG m g = true := by
  unfold obG
  rw [Nat.ble_eq_true_of_le (show 0 + m ≤ m by omega), Nat.ble_eq_true_of_le hm, show andB (andB (andB true true) true) true = true from rfl, imp_t rfl]
def obS (n i m : Nat) (g : Bool) : Bool := andB (inB (Int.ofNat i) n) (andB (Nat.blt i n) (andB (obG m g) true))
theorem obS_true {n i m : Nat} (hi : i < n) (hm : m + 1 ≤ few) (g : Bool) : obS n i m g = true := by
  unfold obS
  rw [inB_nat hi, blt_lt hi, obG_true hm]
  rfl
def ij (j : Nat) : AV := .lit (.int .i64 (Int.ofNat j))
theorem stepTa (r : Int) (n : Nat) (c : Bt) (i m : Nat) (t : Tk) : ∀ j, j < 8 → evC JS Try.prog (callF Try.prog extK 20 8) noL 20 (loopN Try.prog 62 7) (Ta r n c i m (tB m t) (ij j)) (kA 2 [0, 3, 4, 5] [0, 3, 4]) =
    some (.node (decide (c.d j i > 0)) (.leaf (.nrm, Ta r n c i (m + 1) (apT [0, 1, 4] m t (i : Int) (j : Int) (c.d j i)) (.int .i64 (Int.ofNat (j + 1))))) (.leaf (.nrm, Ta r n c i m (tB m t) (.int .i64 (Int.ofNat (j + 1))))),
      obS n i m (decide (c.d j i > 0)))
  | 0, _ => by kernel_rfl
  | 1, _ => by kernel_rfl
  | 2, _ => by kernel_rfl
  | 3, _ => by kernel_rfl
  | 4, _ => by kernel_rfl
  | 5, _ => by kernel_rfl
  | 6, _ => by kernel_rfl
  | 7, _ => by kernel_rfl
  | j + 8, h => absurd h (by omega)
theorem endTa (r : Int) (n : Nat) (c : Bt) (i m : Nat) (t : Tk) : evC JS Try.prog (callF Try.prog extK 20 8) noL 20 (loopN Try.prog 62 7) (Ta r n c i m (tB m t) (ij 8)) (kA 2 [0, 3, 4, 5] [0, 3, 4]) =
    some (.leaf (.ext 2, TaE r n c i m (tB m t)), true) := by kernel_rfl
/-- a loop over the eight jars -/
theorem loop8 {call : CallerT} (hcall : CallerTOk Try.prog call) {body : Code} (ws we : List Nat) (g : AX → St → Option (List Nat)) (S : Nat → TL → St) (E : TL → St) (c : Bt) (i : Nat)
    (step : ∀ j L, j < 8 → L.length ≤ 8 * i + j → ∃ t, evC JS Try.prog call noL 20 body (S j L) (kH 2 ws we g) = some (t, true) ∧ XLe t.get (.nrm, S (j + 1) (addT c i j L)))
    (fin : ∀ L, ∃ t, evC JS Try.prog call noL 20 body (S 8 L) (kH 2 ws we g) = some (t, true) ∧ XLe t.get (.ext 2, E L)) : LoopOk Try.prog 2 body (S 0 (outL c i)) (.leaf (.ext 2, E (outL c (i + 1)))) := by
  have key := loop_indH hcall sxMixed (N := 20) (B := 2) (L := noL) (fun _ _ _ _ h => by cases h) ws we g (σ := Nat × TL) (fun x => S x.1 x.2) (fun x => x.1 ≤ 8 ∧ x.2.length ≤ 8 * i + x.1) (fun x => 8 - x.1) (fun x => (.ext 2, E (inn c i (8 - x.1) x.1 x.2)))
    (fun ⟨j, L⟩ ⟨h1, h2⟩ => by
      simp only at h1 h2
      rcases Nat.lt_or_ge j 8 with hj | hj
      · obtain ⟨t, ht, hx⟩ := step j L hj h2
        refine ⟨t, ht, .inl ⟨(j + 1, addT c i j L), hx, ⟨by simp only; omega, by have := addT_len c i j L; simp only; omega⟩, by simp only; omega, ?_⟩⟩
        simp only
        rw [show 8 - j = (8 - (j + 1)) + 1 by omega]
        rfl
      · have : j = 8 := by omega
        subst this
        obtain ⟨t, ht, hx⟩ := fin L
        exact ⟨t, ht, .inr ⟨hx, by simp⟩⟩) (0, outL c i) ⟨by simp, by have := outL_len c i; simpa using this⟩
  exact key
theorem loopTa (r : Int) {n : Nat} (hn : n ≤ 1000) (c : Bt) {i : Nat} (hi : i < n) : LoopOk Try.prog 2 (loopN Try.prog 62 7) (Ta r n c i (outL c i).length (tl (outL c i)) (.int .i64 0)) (.leaf (.ext 2, TaE r n c i (outL c (i + 1)).length (tl (outL c (i + 1))))) :=
  LoopOk.from (loop8 (callF_ok sxApart sxMixed extK_ok (N := 20) 8) [0, 3, 4, 5] [0, 3, 4] (gA 2 [0, 3, 4, 5] [0, 3, 4]) (fun j L => Ta r n c i L.length (tl L) (ij j)) (fun L => TaE r n c i L.length (tl L)) c i
    (fun j L hj hL => by
      refine ⟨_, by rw [show kH 2 [0, 3, 4, 5] [0, 3, 4] (gA 2 [0, 3, 4, 5] [0, 3, 4]) = kA 2 [0, 3, 4, 5] [0, 3, 4] from rfl, show tl L = tB L.length (lc L) from rfl, stepTa r n c i L.length (lc L) j hj, obS_true hi (by rw [few_eq]; omega)], ?_⟩
      unfold addT
      cases decide (c.d j i > 0) with
      | true => exact ⟨rfl, by simp only [Tr.get, cond_true, Ta, List.length_append, List.length_singleton]; rfl, ⟨BLe.refl _, BLe.refl _, apT_le _ _ _ _ _, trivial⟩⟩
      | false => exact ⟨rfl, rfl, HLe.refl _⟩)
    (fun L => ⟨_, endTa r n c i L.length (lc L), XLe.refl _⟩)) ⟨rfl, HLe.refl _⟩
-- the program
def mI (r : Int) (n : Nat) (c : Bt) (b : Blk) : List Blk := [.rows false n 9 c.row, .one true [.int .i64 r, .slc 0 0 n], b]
def Tb (r : Int) (n : Nat) (c : Bt) (i m : Nat) (b : Blk) (j : AV) : St := ⟨[.junk, .ptr 1 0 0, .junk, .slc 2 0 m, .int .i64 (Int.ofNat i), .ptr 3 0 0] ++ junks 4 ++ [.slc 0 0 n, .int .i64 n, .int .i64 (Int.ofNat i)] ++ junks 5 ++ [.agg (d8 (dk c i)), j] ++ junks 15, mI r n c b ++ [.one true (c.row i)]⟩
def TbE (r : Int) (n : Nat) (c : Bt) (i m : Nat) (b : Blk) : St := ⟨[.junk, .ptr 1 0 0, .junk, .slc 2 0 m, .int .i64 (Int.ofNat i)] ++ junks 5 ++ [.slc 0 0 n, .int .i64 n, .int .i64 (Int.ofNat i)] ++ junks 22, mI r n c b⟩
def obI (m : Nat) (g : Bool) : Bool := andB (obG m g) true
theorem obI_true {m : Nat} (hm : m + 1 ≤ few) (g : Bool) : obI m g = true := by unfold obI; rw [obG_true hm]; rfl
theorem stepTb (r : Int) (n : Nat) (c : Bt) (i m : Nat) (t : Tk) : ∀ j, j < 8 → evC JS Try.prog (callF Try.prog extK 20 8) noL 20 (loopN Try.prog 63 7) (Tb r n c i m (tB m t) (ij j)) (kA 2 [1, 3, 4, 5, 10, 11, 12, 18, 19] [1, 3, 4, 10, 11, 12]) =
    some (.node (decide (c.d j i > 0)) (.leaf (.nrm, Tb r n c i (m + 1) (apT [0, 1, 5, 3] m t (i : Int) (j : Int) (c.d j i)) (.int .i64 (Int.ofNat (j + 1))))) (.leaf (.nrm, Tb r n c i m (tB m t) (.int .i64 (Int.ofNat (j + 1))))),
      obI m (decide (c.d j i > 0)))
  | 0, _ => by kernel_rfl
  | 1, _ => by kernel_rfl
  | 2, _ => by kernel_rfl
  | 3, _ => by kernel_rfl
  | 4, _ => by kernel_rfl
  | 5, _ => by kernel_rfl
  | 6, _ => by kernel_rfl
  | 7, _ => by kernel_rfl
  | j + 8, h => absurd h (by omega)
theorem endTb (r : Int) (n : Nat) (c : Bt) (i m : Nat) (t : Tk) : evC JS Try.prog (callF Try.prog extK 20 8) noL 20 (loopN Try.prog 63 7) (Tb r n c i m (tB m t) (ij 8)) (kA 2 [1, 3, 4, 5, 10, 11, 12, 18, 19] [1, 3, 4, 10, 11, 12]) =
    some (.leaf (.ext 2, TbE r n c i m (tB m t)), true) := by kernel_rfl
theorem loopTb (r : Int) {n : Nat} (hn : n ≤ 1000) (c : Bt) {i : Nat} (hi : i < n) : LoopOk Try.prog 2 (loopN Try.prog 63 7) (Tb r n c i (outL c i).length (tl (outL c i)) (.int .i64 0)) (.leaf (.ext 2, TbE r n c i (outL c (i + 1)).length (tl (outL c (i + 1))))) :=
  LoopOk.from (loop8 (callF_ok sxApart sxMixed extK_ok (N := 20) 8) [1, 3, 4, 5, 10, 11, 12, 18, 19] [1, 3, 4, 10, 11, 12] (gA 2 [1, 3, 4, 5, 10, 11, 12, 18, 19] [1, 3, 4, 10, 11, 12]) (fun j L => Tb r n c i L.length (tl L) (ij j)) (fun L => TbE r n c i L.length (tl L)) c i
    (fun j L hj hL => by
      refine ⟨_, by rw [show kH 2 [1, 3, 4, 5, 10, 11, 12, 18, 19] [1, 3, 4, 10, 11, 12] (gA 2 [1, 3, 4, 5, 10, 11, 12, 18, 19] [1, 3, 4, 10, 11, 12]) = kA 2 [1, 3, 4, 5, 10, 11, 12, 18, 19] [1, 3, 4, 10, 11, 12] from rfl, show tl L = tB L.length (lc L) from rfl, stepTb r n c i L.length (lc L) j hj, obI_true (by rw [few_eq]; omega)], ?_⟩
      unfold addT
      cases decide (c.d j i > 0) with
      | true => exact ⟨rfl, by simp only [Tr.get, cond_true, Tb, List.length_append, List.length_singleton]; rfl, ⟨BLe.refl _, BLe.refl _, apT_le _ _ _ _ _, BLe.refl _, trivial⟩⟩
      | false => exact ⟨rfl, rfl, HLe.refl _⟩)
    (fun L => ⟨_, endTb r n c i L.length (lc L), XLe.refl _⟩)) ⟨rfl, HLe.refl _⟩
-- the outer loops
def selI (st : St) : Option Nat := match delit (gt st.slots 4) with | .int .i64 (.ofNat i) => some i | _ => none
noncomputable def LTa (r : Int) (n : Nat) (c : Bt) : LoopOr := loopFam 7 [0, 3, 4, 5] selI (fun i => Ta r n c i (outL c i).length (tl (outL c i)) (.int .i64 0)) (fun i => .leaf (.ext 2, TaE r n c i (outL c (i + 1)).length (tl (outL c (i + 1))))) (fun i => Nat.blt i n) noL
noncomputable def LTb (r : Int) (n : Nat) (c : Bt) : LoopOr := loopFam 7 [1, 3, 4, 5, 10, 11, 12, 18, 19] selI (fun i => Tb r n c i (outL c i).length (tl (outL c i)) (.int .i64 0)) (fun i => .leaf (.ext 2, TbE r n c i (outL c (i + 1)).length (tl (outL c (i + 1))))) (fun i => Nat.blt i n) noL
theorem LTa_ok (r : Int) {n : Nat} (hn : n ≤ 1000) (c : Bt) : LOk Try.prog 2 62 (LTa r n c) := loopFam_all (by decide +kernel) (fun i hi => loopTa r hn c (by simpa [Nat.blt_eq] using hi)) noL_all
theorem LTb_ok (r : Int) {n : Nat} (hn : n ≤ 1000) (c : Bt) {f : Nat} (hf : f = 63) : LOk Try.prog 2 f (LTb r n c) := by
  subst hf
  exact loopFam_all (by decide +kernel) (fun i hi => loopTb r hn c (by simpa [Nat.blt_eq] using hi)) noL_all
def Ua (r : Int) (n : Nat) (c : Bt) (b : Blk) (m : Nat) (i : Int) : St := ⟨[.ptr 0 0 0, .junk, .junk, .slc 2 0 m, .int .i64 i] ++ junks 36, mS r n c b⟩
def UaE (r : Int) (n : Nat) (c : Bt) (b : Blk) (m : Nat) : St := ⟨[.junk, .junk, .junk, .slc 2 0 m] ++ junks 37, mS r n c b⟩
noncomputable def qTa (r : Int) (n : Nat) (c : Bt) (i : Nat) : Bool := andB (Nat.blt i n) (deqS (Ta r n c i (outL c i).length (tl (outL c i)) (.int .i64 0)) (Ta r n c i (outL c i).length (tl (outL c i)) (.int .i64 0)))
noncomputable def qTb (r : Int) (n : Nat) (c : Bt) (i : Nat) : Bool := andB (Nat.blt i n) (deqS (Tb r n c i (outL c i).length (tl (outL c i)) (.int .i64 0)) (Tb r n c i (outL c i).length (tl (outL c i)) (.int .i64 0)))
theorem stepUa (r : Int) (n : Nat) (c : Bt) (i : Nat) : evC JS Try.prog (callF Try.prog extK 20 8) (LTa r n c) 20 (loopN Try.prog 62 4) (Ua r n c (tl (outL c i)) (outL c i).length (Int.ofNat i)) (kA 2 [0, 3, 4] [3]) =
    some (.node (decide (Int.ofNat i < (n : Int))) (.leaf (.nrm, Ua r n c (tl (outL c (i + 1))) (outL c (i + 1)).length (IntKind.i64.wrap (Int.ofNat i + 1)))) (.leaf (.ext 0, UaE r n c (tl (outL c i)) (outL c i).length)), andB (impB (decide (Int.ofNat i < (n : Int))) (andB (qTa r n c i) true)) true) := by kernel_rfl
theorem loopUa (r : Int) {n : Nat} (hn : n ≤ 1000) (c : Bt) : LoopOk Try.prog 2 (loopN Try.prog 62 4) (Ua r n c (tl []) 0 0) (.leaf (.ext 0, UaE r n c (tl (outL c n)) (outL c n).length)) :=
  loop_allH (callF_ok sxApart sxMixed extK_ok (N := 20) 8) sxMixed (N := 20) (inner_ok (LTa_ok r hn c) 4) [0, 3, 4] [3] (gA 2 [0, 3, 4] [3]) (fun i => Ua r n c (tl (outL c i)) (outL c i).length (Int.ofNat i)) n (.ext 0, UaE r n c (tl (outL c n)) (outL c n).length) (fun h => by cases h)
    (fun i hi => by
      have hq : qTa r n c i = true := by unfold qTa; rw [deqS_self, blt_lt hi]; rfl
      refine ⟨_, by rw [show kH 2 [0, 3, 4] [3] (gA 2 [0, 3, 4] [3]) = kA 2 [0, 3, 4] [3] from rfl, stepUa, hq, ofNat_lt, decide_eq_true hi]; rfl, ?_⟩
      simp only [Tr.get, cond_true]
      rw [wrap_i64 (n := Int.ofNat i + 1) (by simp only [Int.ofNat_eq_natCast]; omega) (by simp only [Int.ofNat_eq_natCast]; omega)]
      exact XLe.refl _)
    ⟨_, by rw [show kH 2 [0, 3, 4] [3] (gA 2 [0, 3, 4] [3]) = kA 2 [0, 3, 4] [3] from rfl, stepUa, ofNat_lt, decide_eq_false (Nat.lt_irrefl n), imp_ff], XLe.refl _⟩
def Ub (r : Int) (n : Nat) (c : Bt) (b : Blk) (m : Nat) (i : Int) : St := ⟨[.junk, .ptr 1 0 0, .junk, .slc 2 0 m] ++ junks 6 ++ [.slc 0 0 n, .int .i64 n, .int .i64 i] ++ junks 22, mI r n c b⟩
def UbE (r : Int) (n : Nat) (c : Bt) (b : Blk) (m : Nat) : St := ⟨[.junk, .junk, .junk, .slc 2 0 m] ++ junks 31, mI r n c b⟩
theorem stepUb (r : Int) (n : Nat) (c : Bt) (i : Nat) : evC JS Try.prog (callF Try.prog extK 20 8) (LTb r n c) 20 (loopN Try.prog 63 4) (Ub r n c (tl (outL c i)) (outL c i).length (Int.ofNat i)) (kA 2 [1, 3, 10, 11, 12] [3]) =
    some (.node (decide (Int.ofNat i < (n : Int))) (.leaf (.nrm, Ub r n c (tl (outL c (i + 1))) (outL c (i + 1)).length (IntKind.i64.wrap (Int.ofNat i + 1)))) (.leaf (.ext 0, UbE r n c (tl (outL c i)) (outL c i).length)), andB (impB (decide (Int.ofNat i < (n : Int))) (andB (inB (Int.ofNat i) n) (andB (Nat.blt i n) (andB (qTb r n c i) true)))) true) := by kernel_rfl
theorem loopUb (r : Int) {n : Nat} (hn : n ≤ 1000) (c : Bt) : LoopOk Try.prog 2 (loopN Try.prog 63 4) (Ub r n c (tl []) 0 0) (.leaf (.ext 0, UbE r n c (tl (outL c n)) (outL c n).length)) :=
  loop_allH (callF_ok sxApart sxMixed extK_ok (N := 20) 8) sxMixed (N := 20) (inner_ok (LTb_ok r hn c rfl) 4) [1, 3, 10, 11, 12] [3] (gA 2 [1, 3, 10, 11, 12] [3]) (fun i => Ub r n c (tl (outL c i)) (outL c i).length (Int.ofNat i)) n (.ext 0, UbE r n c (tl (outL c n)) (outL c n).length) (fun h => by cases h)
    (fun i hi => by
      have hq : qTb r n c i = true := by unfold qTb; rw [deqS_self, blt_lt hi]; rfl
      refine ⟨_, by rw [show kH 2 [1, 3, 10, 11, 12] [3] (gA 2 [1, 3, 10, 11, 12] [3]) = kA 2 [1, 3, 10, 11, 12] [3] from rfl, stepUb, hq, inB_nat hi, blt_lt hi, ofNat_lt, decide_eq_true hi]; rfl, ?_⟩
      simp only [Tr.get, cond_true]
      rw [wrap_i64 (n := Int.ofNat i + 1) (by simp only [Int.ofNat_eq_natCast]; omega) (by simp only [Int.ofNat_eq_natCast]; omega)]
      exact XLe.refl _)
    ⟨_, by rw [show kH 2 [1, 3, 10, 11, 12] [3] (gA 2 [1, 3, 10, 11, 12] [3]) = kA 2 [1, 3, 10, 11, 12] [3] from rfl, stepUb, ofNat_lt, decide_eq_false (Nat.lt_irrefl n), imp_ff], XLe.refl _⟩
-- the whole
def zR3 : Blk := .rows true 0 3 (fun i => bif Nat.blt i 0 then (([] : List AV).drop (i * 3)).take 3 else z3)
theorem loopUa' (r : Int) {n : Nat} (hn : n ≤ 1000) (c : Bt) : LoopOk Try.prog 2 (loopN Try.prog 62 4) (Ua r n c zR3 0 0) (.leaf (.ext 0, UaE r n c (tl (outL c n)) (outL c n).length)) := (loopUa r hn c).from ⟨rfl, BLe.refl _, BLe.refl _, BLe.rows fun i hi => absurd hi (Nat.not_lt_zero i), trivial⟩
theorem loopUb' (r : Int) {n : Nat} (hn : n ≤ 1000) (c : Bt) : LoopOk Try.prog 2 (loopN Try.prog 63 4) (Ub r n c zR3 0 0) (.leaf (.ext 0, UbE r n c (tl (outL c n)) (outL c n).length)) := (loopUb r hn c).from ⟨rfl, BLe.refl _, BLe.refl _, BLe.rows fun i hi => absurd hi (Nat.not_lt_zero i), trivial⟩
noncomputable def runTa (r : Int) (n : Nat) (c : Bt) : List AV → List Blk → Option Lf := selRun (runAtH [.ptr 0 0 0] (bx r n c) (.leaf (.slc 2 0 (outL c n).length, some (bx r n c ++ [tl (outL c n)]))) (Nat.ble n 1000))
noncomputable def okTa (r : Int) (n : Nat) (c : Bt) : Bool := andB (deq [.ptr 0 0 0] [.ptr 0 0 0]) (andB (deqH (bx r n c) (bx r n c)) (Nat.ble n 1000))
theorem okTa_true (r : Int) {n : Nat} (hn : n ≤ 1000) (c : Bt) : okTa r n c = true := by unfold okTa; rw [deq_self, deqH_self, Nat.ble_eq_true_of_le hn]; rfl
theorem taS (r : Int) (n : Nat) (c : Bt) : SumOk Try.prog 62 (runTa r n c) := sum_atH sxApart sxMixed extK_ok (loopAt 4 [0, 3, 4] (Ua r n c zR3 0 0) (.leaf (.ext 0, UaE r n c (tl (outL c n)) (outL c n).length)) noL) (N := 20) (d := 8) fun hg => by
  refine ⟨loopAt_all (B := 2) (by decide +kernel) (loopUa' r (Nat.le_of_ble_eq_true hg) c) noL_all, _, ?_, LLe.refl _⟩
  have h : evF Try.prog extK (loopAt 4 [0, 3, 4] (Ua r n c zR3 0 0) (.leaf (.ext 0, UaE r n c (tl (outL c n)) (outL c n).length)) noL) 20 8 62 [.ptr 0 0 0] (bx r n c) = some (.leaf (.slc 2 0 (outL c n).length, some (bx r n c ++ [tl (outL c n)])), andB (deqS (Ua r n c zR3 0 0) (Ua r n c zR3 0 0)) true) := by kernel_rfl
  rw [deqS_self] at h
  exact h
noncomputable def runTb (r : Int) (n : Nat) (c : Bt) : List AV → List Blk → Option Lf := selRun (runAtH (AV1 r n) (Bt.ro1 n c) (.leaf (.slc 2 0 (outL c n).length, some (mI r n c (tl (outL c n))))) (Nat.ble n 1000))
noncomputable def okTb (r : Int) (n : Nat) (c : Bt) : Bool := andB (deq (AV1 r n) (AV1 r n)) (andB (deqH (Bt.ro1 n c) (Bt.ro1 n c)) (Nat.ble n 1000))
theorem okTb_true (r : Int) {n : Nat} (hn : n ≤ 1000) (c : Bt) : okTb r n c = true := by unfold okTb; rw [deq_self, deqH_self, Nat.ble_eq_true_of_le hn]; rfl
theorem tbI (r : Int) (n : Nat) (c : Bt) : SumOk Try.prog 63 (runTb r n c) := sum_atH sxApart sxMixed extK_ok (loopAt 4 [1, 3, 10, 11, 12] (Ub r n c zR3 0 0) (.leaf (.ext 0, UbE r n c (tl (outL c n)) (outL c n).length)) noL) (N := 20) (d := 8) fun hg => by
  refine ⟨loopAt_all (B := 1) (by decide +kernel) ((loopUb' r (Nat.le_of_ble_eq_true hg) c).less (by decide) (by simp [Ub, mI])) noL_all, _, ?_, LLe.refl _⟩
  have h : evF Try.prog extK (loopAt 4 [1, 3, 10, 11, 12] (Ub r n c zR3 0 0) (.leaf (.ext 0, UbE r n c (tl (outL c n)) (outL c n).length)) noL) 20 8 63 (AV1 r n) (Bt.ro1 n c) = some (.leaf (.slc 2 0 (outL c n).length, some (mI r n c (tl (outL c n)))), andB (deqS (Ub r n c zR3 0 0) (Ub r n c zR3 0 0)) true) := by kernel_rfl
  rw [deqS_self] at h
  exact h
end Go.Proofs.Ytllonddgbjgmdaa.W5
set_option linter.unusedVariables false
set_option linter.unusedSimpArgs false
set_option maxRecDepth 100000
namespace Go.Proofs.Ytllonddgbjgmdaa.W5
open Go.Sx Go.Sx.R0 Go.RowKit Go.Proofs.Ytllonddgbjgmdaa.W1 Go.Proofs.Ytllonddgbjgmdaa.W2 Go.Proofs.Ytllonddgbjgmdaa.W3

noncomputable def Tk.okT (n : Nat) (c : Tk) : Bool := andB (pB (∃ c0 : Tk, Tk.ro1 n c = Tk.ro1 n c0)) (Nat.ble n few)
theorem Tk.okT_true {n : Nat} (hn : Nat.ble n few = true) (c : Tk) : Tk.okT n c = true := by unfold Tk.okT; rw [pB_true ⟨c, rfl⟩, hn]; rfl
noncomputable def Tk.okE (n : Nat) (c : Tk) : Bool := andB (pB (∃ c0 : Tk, n = n ∧ Tk.ro2 n c = Tk.ro2 n c0)) (Nat.ble n few)
theorem Tk.okE_true {n : Nat} (hn : Nat.ble n few = true) (c : Tk) : Tk.okE n c = true := by unfold Tk.okE; rw [pB_true ⟨c, rfl, rfl⟩, hn]; rfl

def Tk.St2 (n : Nat) (c : Tk) (k : Int) : St := ⟨[.slc 0 0 n, .slc 1 0 n, .junk, .junk, .junk, .int .i64 k] ++ junks 21, Tk.ro2 n c⟩
def Tk.Rt2 (n : Nat) (c : Tk) (b : Bool) : St := ⟨[.junk, .junk, .junk, .junk, .bool b, .junk] ++ junks 21, Tk.ro2 n c⟩
def Tk.Ex2 (n : Nat) (c : Tk) : St := ⟨junks 27, Tk.ro2 n c⟩
/-- a row compared with itself -/
noncomputable def Tk.runEq : List AV → List Blk → Option Lf := fun args _ => some (.leaf (.bool true, none), pB (∃ (c : Tk) (i : Nat), args = [.agg (c.row i), .agg (c.row i)]))
theorem Tk.eq1_ok : SumOk Try.prog 64 Tk.runEq := sum_pure0 sxApart sxMixed extK_ok (N := 20) (d := 8) fun args H t hr => by
  unfold Tk.runEq at hr
  simp only [Option.some.injEq, Prod.mk.injEq] at hr
  obtain ⟨rfl, hr⟩ := hr
  obtain ⟨c, i, rfl⟩ := pB_of hr
  refine ⟨rfl, rfl, rfl, noL, fun _ _ _ _ => noL_ok, ?_⟩
  have h : evF Try.prog extK noL 20 8 64 [.agg (c.row i), .agg (c.row i)] [] = some (.leaf (.bool (cond (c.b i != c.b i) false (cond (c.j i != c.j i) false (cond (c.n i != c.n i) false true))), none), true) := by kernel_rfl
  refine ⟨_, h, ?_⟩
  simp [Tr.get, delitD, delit]
noncomputable def Tk.eqK : CallerT := addK 64 Tk.runEq extK
theorem Tk.eqK_ok : CallerTOk Try.prog Tk.eqK := addK_ok Tk.eq1_ok extK_ok
theorem Tk.step2 (n : Nat) (c : Tk) (k : Nat) :
    evC JS Try.prog (callF Try.prog Tk.eqK 20 8) noL 20 (loopN Try.prog 28 5) (Tk.St2 n c (Int.ofNat k)) (kG 2 [0, 1, 5] [4] none none) =
      some (.node (decide (Int.ofNat k < (n : Int))) (.node false (.leaf (.ret, Tk.Rt2 n c false)) (.leaf (.nrm, Tk.St2 n c (IntKind.i64.wrap (Int.ofNat k + 1))))) (.leaf (.ext 0, Tk.Ex2 n c)),
        ob2 (decide (Int.ofNat k < (n : Int))) (andB (andB (inB (Int.ofNat k) n) (andB (Nat.blt k n) (andB (inB (Int.ofNat k) n) (andB (Nat.blt k n) (andB (pB (∃ (c0 : Tk) (i0 : Nat), [AV.agg (c.row k), AV.agg (c.row k)] = [.agg (c0.row i0), .agg (c0.row i0)])) true))))) true) true) := by kernel_rfl
theorem Tk.loop2 (n : Nat) (hn : n ≤ few) (c : Tk) : LoopOk Try.prog 2 (loopN Try.prog 28 5) (Tk.St2 n c 0) (.leaf (.ext 0, Tk.Ex2 n c)) := by
  have hf : few = 1099511627776 := rfl
  exact loop_all (callF_ok sxApart sxMixed Tk.eqK_ok (N := 20) 8) sxMixed (body := loopN Try.prog 28 5) (L := noL) (N := 20) (B := 2) (fun _ _ _ _ h => by cases h) [0, 1, 5] [4] none none
    (fun k => Tk.St2 n c (Int.ofNat k)) n (.ext 0, Tk.Ex2 n c) (fun h => by cases h)
    (fun k hk => by
      have hp : pB (∃ (c0 : Tk) (i0 : Nat), [AV.agg (c.row k), AV.agg (c.row k)] = [.agg (c0.row i0), .agg (c0.row i0)]) = true := pB_true ⟨c, k, rfl⟩
      refine ⟨_, by rw [Tk.step2, hp, ofNat_lt, inB_nat hk, blt_lt hk, decide_eq_true hk]; rfl, rfl, ?_, HLe.refl _⟩
      simp only [Tr.get, Tk.St2]
      rw [wrap_i64 (by simp only [Int.ofNat_eq_natCast]; omega) (by simp only [Int.ofNat_eq_natCast]; omega)]
      rfl)
    (by
      refine ⟨_, by rw [Tk.step2, ofNat_lt, decide_eq_false (Nat.lt_irrefl n), ob2_f], rfl, rfl, ?_⟩
      exact HLe.refl _)

/-- rows compared with themselves -/
noncomputable def Tk.runEqS : List AV → List Blk → Option Lf := fun args H => match args with
  | [.slc 0 0 n, .slc 1 0 m] => some (.leaf (.bool true, none), andB (pB (∃ c : Tk, m = n ∧ H = Tk.ro2 n c)) (Nat.ble n few))
  | _ => none
theorem Tk.eq_ok : SumOk Try.prog 28 (selRun Tk.runEqS) := sum_sel sxApart sxMixed fun args H t hr => by
  unfold Tk.runEqS at hr
  split at hr
  case h_2 => cases hr
  rename_i n m
  simp only [Option.some.injEq, Prod.mk.injEq] at hr
  obtain ⟨rfl, hr⟩ := hr
  obtain ⟨h1, hn⟩ := andB_true hr
  obtain ⟨c, h2, rfl⟩ := pB_of h1
  have h2 := h2.symm
  subst h2
  rw [Nat.ble_eq] at hn
  refine ⟨Tk.eqK, loopAt 5 [0, 1, 5] (Tk.St2 n c 0) (.leaf (.ext 0, Tk.Ex2 n c)) noL, 20, 8, .leaf (.bool (cond (cond ((n : Int) == (n : Int)) false true) false true), none), Tk.eqK_ok,
    loopAt_all (B := 2) (by decide +kernel) (Tk.loop2 n hn c) noL_all, ?_, ?_⟩
  · have h : evF Try.prog Tk.eqK (loopAt 5 [0, 1, 5] (Tk.St2 n c 0) (.leaf (.ext 0, Tk.Ex2 n c)) noL) 20 8 28 [.slc 0 0 n, .slc 1 0 n] (Tk.ro2 n c) =
      some (.leaf (.bool (cond (cond ((n : Int) == (n : Int)) false true) false true), none), ob2 (cond ((n : Int) == (n : Int)) false true) true (andB (deqS (Tk.St2 n c 0) (Tk.St2 n c 0)) true)) := by kernel_rfl
    rw [deqS_self] at h
    rw [h]
    simp [ob2, impB, andB]
  · simp only [BEq.rfl, cond_true, cond_false]
    exact LLe.refl _

-- marks
/-- a row that holds the numbers from one on -/
def Tk.mrow (z : Int) : List AV := [(.int .i64 z), (.int .i64 (z + 1)), (.int .i64 (z + 2))]
def Tk.mkr (f : Nat → List AV) (k : Nat) (z : Int) : Nat → List AV := let f1 := Sx.upd f k (pt (f k) 0 (.int .i64 z)); let f2 := Sx.upd f1 k (pt (f1 k) 1 (.int .i64 (IntKind.i64.wrap (z + 1)))); let f3 := Sx.upd f2 k (pt (f2 k) 2 (.int .i64 (IntKind.i64.wrap ((IntKind.i64.wrap (z + 1)) + 1)))); f3
def Tk.Sm (n : Nat) (f : Nat → List AV) (z k : Int) : St := ⟨[.slc 0 0 n, .int .i64 z, .junk, .junk, .junk, .int .i64 k] ++ junks 28, [.rows true n 3 f]⟩
def Tk.Em (n : Nat) (f : Nat → List AV) (z : Int) : St := ⟨[.junk, .int .i64 z] ++ junks 32, [.rows true n 3 f]⟩
def Tk.obm (n k : Nat) : Bool := andB (inB (Int.ofNat k) n) (andB (Nat.blt k n) (andB (inB (Int.ofNat k) n) (andB (Nat.blt k n) (andB (inB (Int.ofNat k) n) (andB (Nat.blt k n) (true))))))
theorem Tk.obm_true {n k : Nat} (h : k < n) : Tk.obm n k = true := by unfold Tk.obm; rw [inB_nat h, blt_lt h]; rfl
theorem Tk.stepm (n : Nat) (c : Tk) (z : Int) (k : Nat) : evC JS Try.prog (callF Try.prog extK 20 8) noL 20 (loopN Try.prog 30 3) (Tk.Sm n c.row z (Int.ofNat k)) (kA 1 [0, 1, 5] [1]) =
    some (.node (decide (Int.ofNat k < (n : Int))) (.leaf (.nrm, Tk.Sm n (Tk.mkr c.row k z) (IntKind.i64.wrap ((IntKind.i64.wrap ((IntKind.i64.wrap (z + 1)) + 1)) + 1)) (IntKind.i64.wrap (Int.ofNat k + 1)))) (.leaf (.ext 0, Tk.Em n c.row z)), andB (impB (decide (Int.ofNat k < (n : Int))) (Tk.obm n k)) true) := by kernel_rfl
theorem Tk.mk_at (c : Tk) (k : Nat) (z : Int) : Tk.mkr c.row k z k = [(.int .i64 z), (.int .i64 (IntKind.i64.wrap (z + 1))), (.int .i64 (IntKind.i64.wrap ((IntKind.i64.wrap (z + 1)) + 1)))] := by
  unfold Tk.mkr
  simp only [upd_at]
  rfl
theorem Tk.mk_ne (c : Tk) {i k : Nat} (h : i ≠ k) (z : Int) : Tk.mkr c.row k z i = c.row i := by
  unfold Tk.mkr
  simp only [upd_ne h]
  rfl
theorem Tk.wraps {z : Int} (h0 : 0 ≤ z) (h1 : z ≤ 4611686018427387000) : (IntKind.i64.wrap (z + 1)) = z + 1 ∧ (IntKind.i64.wrap ((IntKind.i64.wrap (z + 1)) + 1)) = z + 2 ∧ (IntKind.i64.wrap ((IntKind.i64.wrap ((IntKind.i64.wrap (z + 1)) + 1)) + 1)) = z + 3 := by
  have w1 : (IntKind.i64.wrap (z + 1)) = z + 1 := by rw [i64_small (by omega) (by omega)] <;> omega
  have w2 : (IntKind.i64.wrap ((IntKind.i64.wrap (z + 1)) + 1)) = z + 2 := by rw [w1, i64_small (by omega) (by omega)] <;> omega
  have w3 : (IntKind.i64.wrap ((IntKind.i64.wrap ((IntKind.i64.wrap (z + 1)) + 1)) + 1)) = z + 3 := by rw [w2, i64_small (by omega) (by omega)] <;> omega
  exact ⟨w1, w2, w3⟩
def Tk.cm (c : Tk) (z : Int) (k : Nat) : Tk := ⟨fun t => cond (Nat.blt t k) (z + 3 * (t : Int)) (c.b t), fun t => cond (Nat.blt t k) (z + 3 * (t : Int) + 1) (c.j t), fun t => cond (Nat.blt t k) (z + 3 * (t : Int) + 2) (c.n t)⟩
def Tk.mz (z : Int) : Tk := ⟨fun t => z + 3 * (t : Int), fun t => z + 3 * (t : Int) + 1, fun t => z + 3 * (t : Int) + 2⟩
theorem Tk.mz_row (z : Int) (t : Nat) : (Tk.mz z).row t = Tk.mrow (z + 3 * (t : Int)) := rfl
theorem Tk.cm_lt (c : Tk) (z : Int) {k t : Nat} (h : t < k) : (c.cm z k).row t = (Tk.mz z).row t := by simp only [Tk.cm, Tk.mz, Tk.row, blt_lt h, cond_true]
theorem Tk.cm_ge (c : Tk) (z : Int) {k t : Nat} (h : k ≤ t) : (c.cm z k).row t = c.row t := by simp only [Tk.cm, Tk.row, blt_ge h, cond_false]
theorem Tk.loopm (n : Nat) (hn : n ≤ few) (c : Tk) (z : Int) (h0 : 0 ≤ z) (h1 : z ≤ 1099511627776) : LoopOk Try.prog 1 (loopN Try.prog 30 3) (Tk.Sm n c.row z 0) (.leaf (.ext 0, Tk.Em n (Tk.mz z).row (z + 3 * (n : Int)))) := by
  have hf := few_eq
  have key := loop_allH (callF_ok sxApart sxMixed extK_ok (N := 20) 8) sxMixed (N := 20) (L := noL) (B := 1) (body := loopN Try.prog 30 3) (fun _ _ _ _ h => by cases h) [0, 1, 5] [1] (gA 1 [0, 1, 5] [1]) (fun k => Tk.Sm n (c.cm z k).row (z + 3 * (k : Int)) (Int.ofNat k)) n (.ext 0, Tk.Em n (Tk.mz z).row (z + 3 * (n : Int))) (fun h => by cases h)
    (fun k hk => by
      obtain ⟨w1, w2, w3⟩ := Tk.wraps (z := z + 3 * (k : Int)) (by omega) (by omega)
      refine ⟨_, by rw [show kH 1 [0, 1, 5] [1] (gA 1 [0, 1, 5] [1]) = kA 1 [0, 1, 5] [1] from rfl, Tk.stepm, Tk.obm_true hk, ofNat_lt, decide_eq_true hk]; rfl, ?_⟩
      refine ⟨rfl, ?_, ⟨BLe.rows fun t ht => ?_, trivial⟩⟩
      · simp only [Tr.get, cond_true, Tk.Sm]
        rw [w3, wrap_i64 (n := Int.ofNat k + 1) (by simp only [Int.ofNat_eq_natCast]; omega) (by simp only [Int.ofNat_eq_natCast]; omega), show z + 3 * (k : Int) + 3 = z + 3 * ((k + 1 : Nat) : Int) by omega]
        rfl
      · by_cases hkt : t = k
        · subst hkt
          rw [Tk.mk_at, Tk.cm_lt c z (Nat.lt_succ_self t), w2, w1]
          rfl
        · rw [Tk.mk_ne _ hkt]
          rcases Nat.lt_or_ge t k with h | h
          · rw [Tk.cm_lt c z h, Tk.cm_lt c z (show t < k + 1 by omega)]
          · rw [Tk.cm_ge c z h, Tk.cm_ge c z (show k + 1 ≤ t by omega)])
    (by
      refine ⟨_, by rw [show kH 1 [0, 1, 5] [1] (gA 1 [0, 1, 5] [1]) = kA 1 [0, 1, 5] [1] from rfl, Tk.stepm, ofNat_lt, decide_eq_false (Nat.lt_irrefl n), imp_ff], ?_⟩
      refine ⟨rfl, rfl, ⟨BLe.rows fun t ht => ?_, trivial⟩⟩
      rw [Tk.cm_lt c z ht])
  refine key.from ⟨?_, ⟨BLe.rows fun t _ => ?_, trivial⟩⟩
  · simp only [Tk.Sm, Int.natCast_zero, Int.mul_zero, Int.add_zero]
    rfl
  · rw [Tk.cm_ge c z (Nat.zero_le t)]
noncomputable def Tk.runMark : List AV → List Blk → Option Lf := fun args H => match args.map delit with
  | [.slc 0 0 n, .int .i64 z] => some (.leaf (.int .i64 (z + 3 * (n : Int)), some [.rows true n 3 (Tk.mz z).row]), andB (pB (∃ c : Tk, H = [.rows true n 3 c.row])) (andB (Nat.ble n few) (andB (decide (0 ≤ z)) (decide (z ≤ 1099511627776)))))
  | _ => none
theorem Tk.mark_ok : SumOk Try.prog 30 (selRunM Tk.runMark) := sum_selMG sxApart sxMixed fun args H t hr _ => by
  unfold Tk.runMark at hr
  split at hr
  case h_2 => cases hr
  rename_i n z hargs
  simp only [Option.some.injEq, Prod.mk.injEq] at hr
  obtain ⟨rfl, hr⟩ := hr
  obtain ⟨g1, hr⟩ := andB_true hr
  obtain ⟨g2, hr⟩ := andB_true hr
  obtain ⟨g3, g4⟩ := andB_true hr
  obtain ⟨c, rfl⟩ := pB_of g1
  have g3 := of_decide_eq_true g3
  have g4 := of_decide_eq_true g4
  refine ⟨extK, loopAt 3 [0, 1, 5] (Tk.Sm n c.row z 0) (.leaf (.ext 0, Tk.Em n (Tk.mz z).row (z + 3 * (n : Int)))) noL, 20, 8, _, [.slc 0 0 n, .int .i64 z], extK_ok, loopAt_all (B := 1) (by decide +kernel) (Tk.loopm n (Nat.le_of_ble_eq_true g2) c z g3 g4) noL_all, fun ρ vals hv => by rw [← hargs]; exact delits_rel hv, ?_, LLe.refl _⟩
  have h : evM Try.prog extK (loopAt 3 [0, 1, 5] (Tk.Sm n c.row z 0) (.leaf (.ext 0, Tk.Em n (Tk.mz z).row (z + 3 * (n : Int)))) noL) 20 8 30 [.slc 0 0 n, .int .i64 z] [.rows true n 3 c.row] = some (.leaf (.int .i64 (z + 3 * (n : Int)), some [.rows true n 3 (Tk.mz z).row]), andB (deqS (Tk.Sm n c.row z 0) (Tk.Sm n c.row z 0)) true) := by kernel_rfl
  rw [deqS_self] at h
  exact h
noncomputable def Tk.okM (n : Nat) (c : Tk) (z : Int) : Bool := andB (pB (∃ c0 : Tk, [Blk.rows true n 3 c.row] = [.rows true n 3 c0.row])) (andB (Nat.ble n few) (andB (decide (0 ≤ z)) (decide (z ≤ 1099511627776))))
theorem Tk.okM_true {n : Nat} (hn : Nat.ble n few = true) (c : Tk) {z : Int} (h0 : 0 ≤ z) (h1 : z ≤ 1099511627776) : Tk.okM n c z = true := by unfold Tk.okM; rw [pB_true ⟨c, rfl⟩, hn, decide_eq_true h0, decide_eq_true h1]; rfl
-- are they held
def Tk.Sh (n : Nat) (c : Tk) (z k : Int) : St := ⟨[.slc 0 0 n, .int .i64 z, .junk, .junk, .junk, .int .i64 k] ++ junks 34, [.rows false n 3 c.row]⟩
def Tk.Eh (n : Nat) (c : Tk) (z : Int) : St := ⟨[.junk, .int .i64 z] ++ junks 38, [.rows false n 3 c.row]⟩
def Tk.Rh (n : Nat) (c : Tk) (z : Int) : St := ⟨[.junk, .int .i64 z, .junk, .junk, .int .i64 (-1)] ++ junks (35), [.rows false n 3 c.row]⟩
theorem Tk.steph (n : Nat) (c : Tk) (z : Int) (k : Nat) : evC JS Try.prog (callF Try.prog extK 20 8) noL 20 (loopN Try.prog 31 3) (Tk.Sh n c z (Int.ofNat k)) (kA 1 [0, 1, 5] [1, 4]) =
    some (.node (decide (Int.ofNat k < (n : Int))) (.node (!(c.b k == z)) (.leaf (.ret, Tk.Rh n c z)) (.node (!(c.j k == (IntKind.i64.wrap (z + 1)))) (.leaf (.ret, Tk.Rh n c (IntKind.i64.wrap (z + 1)))) (.node (!(c.n k == (IntKind.i64.wrap ((IntKind.i64.wrap (z + 1)) + 1)))) (.leaf (.ret, Tk.Rh n c (IntKind.i64.wrap ((IntKind.i64.wrap (z + 1)) + 1)))) (.leaf (.nrm, Tk.Sh n c (IntKind.i64.wrap ((IntKind.i64.wrap ((IntKind.i64.wrap (z + 1)) + 1)) + 1)) (IntKind.i64.wrap (Int.ofNat k + 1))))))) (.leaf (.ext 0, Tk.Eh n c z)), andB (impB (decide (Int.ofNat k < (n : Int))) (andB (inB (Int.ofNat k) n) (andB (Nat.blt k n) (impB (!(!(c.b k == z))) (andB (inB (Int.ofNat k) n) (andB (Nat.blt k n) (impB (!(!(c.j k == (IntKind.i64.wrap (z + 1))))) (andB (inB (Int.ofNat k) n) (andB (Nat.blt k n) true))))))))) true) := by kernel_rfl
theorem Tk.looph (n : Nat) (hn : n ≤ few) (z : Int) (h0 : 0 ≤ z) (h1 : z ≤ 1099511627776) : LoopOk Try.prog 1 (loopN Try.prog 31 3) (Tk.Sh n (Tk.mz z) z 0) (.leaf (.ext 0, Tk.Eh n (Tk.mz z) (z + 3 * (n : Int)))) := by
  have hf := few_eq
  have key := loop_allH (callF_ok sxApart sxMixed extK_ok (N := 20) 8) sxMixed (N := 20) (L := noL) (B := 1) (body := loopN Try.prog 31 3) (fun _ _ _ _ h => by cases h) [0, 1, 5] [1, 4] (gA 1 [0, 1, 5] [1, 4]) (fun k => Tk.Sh n (Tk.mz z) (z + 3 * (k : Int)) (Int.ofNat k)) n (.ext 0, Tk.Eh n (Tk.mz z) (z + 3 * (n : Int))) (fun h => by cases h)
    (fun k hk => by
      obtain ⟨w1, w2, w3⟩ := Tk.wraps (z := z + 3 * (k : Int)) (by omega) (by omega)
      have c0 : (!((Tk.mz z).b k == (z + 3 * (k : Int)))) = false := by
        have e : (Tk.mz z).b k = (z + 3 * (k : Int)) := by rfl
        rw [e]; simp
      have c1 : (!((Tk.mz z).j k == (IntKind.i64.wrap ((z + 3 * (k : Int)) + 1)))) = false := by
        have e : (Tk.mz z).j k = (IntKind.i64.wrap ((z + 3 * (k : Int)) + 1)) := by rw [w1]; rfl
        rw [e]; simp
      have c2 : (!((Tk.mz z).n k == (IntKind.i64.wrap ((IntKind.i64.wrap ((z + 3 * (k : Int)) + 1)) + 1)))) = false := by
        have e : (Tk.mz z).n k = (IntKind.i64.wrap ((IntKind.i64.wrap ((z + 3 * (k : Int)) + 1)) + 1)) := by rw [w2]; rfl
        rw [e]; simp
      refine ⟨_, by rw [show kH 1 [0, 1, 5] [1, 4] (gA 1 [0, 1, 5] [1, 4]) = kA 1 [0, 1, 5] [1, 4] from rfl, Tk.steph, inB_nat hk, blt_lt hk, ofNat_lt, decide_eq_true hk, c0, c1, c2]; rfl, ?_⟩
      simp only [Tr.get, cond_true, cond_false]
      rw [w3, wrap_i64 (n := Int.ofNat k + 1) (by simp only [Int.ofNat_eq_natCast]; omega) (by simp only [Int.ofNat_eq_natCast]; omega), show z + 3 * (k : Int) + 3 = z + 3 * ((k + 1 : Nat) : Int) by omega]
      exact XLe.refl _)
    (by
      refine ⟨_, by rw [show kH 1 [0, 1, 5] [1, 4] (gA 1 [0, 1, 5] [1, 4]) = kA 1 [0, 1, 5] [1, 4] from rfl, Tk.steph, ofNat_lt, decide_eq_false (Nat.lt_irrefl n), imp_ff], XLe.refl _⟩)
  refine key.from ⟨?_, HLe.refl _⟩
  simp only [Tk.Sh, Int.natCast_zero, Int.mul_zero, Int.add_zero]
  rfl
noncomputable def Tk.runHeld : List AV → List Blk → Option Lf := fun args H => match args.map delit with
  | [.slc 0 0 n, .int .i64 z] => some (.leaf (.int .i64 (z + 3 * (n : Int)), none), andB (pB (H = Tk.ro1 n (Tk.mz z))) (andB (Nat.ble n few) (andB (decide (0 ≤ z)) (decide (z ≤ 1099511627776)))))
  | _ => none
theorem Tk.held_ok : SumOk Try.prog 31 (selRun Tk.runHeld) := sum_selG sxApart sxMixed fun args H t hr _ => by
  unfold Tk.runHeld at hr
  split at hr
  case h_2 => cases hr
  rename_i n z hargs
  simp only [Option.some.injEq, Prod.mk.injEq] at hr
  obtain ⟨rfl, hr⟩ := hr
  obtain ⟨g1, hr⟩ := andB_true hr
  obtain ⟨g2, hr⟩ := andB_true hr
  obtain ⟨g3, g4⟩ := andB_true hr
  obtain rfl := pB_of g1
  have g3 := of_decide_eq_true g3
  have g4 := of_decide_eq_true g4
  refine ⟨extK, loopAt 3 [0, 1, 5] (Tk.Sh n (Tk.mz z) z 0) (.leaf (.ext 0, Tk.Eh n (Tk.mz z) (z + 3 * (n : Int)))) noL, 20, 8, _, [.slc 0 0 n, .int .i64 z], extK_ok, loopAt_all (B := 1) (by decide +kernel) (Tk.looph n (Nat.le_of_ble_eq_true g2) z g3 g4) noL_all, fun ρ vals hv => by rw [← hargs]; exact delits_rel hv, ?_, LLe.refl _⟩
  have h : evF Try.prog extK (loopAt 3 [0, 1, 5] (Tk.Sh n (Tk.mz z) z 0) (.leaf (.ext 0, Tk.Eh n (Tk.mz z) (z + 3 * (n : Int)))) noL) 20 8 31 [.slc 0 0 n, .int .i64 z] (Tk.ro1 n (Tk.mz z)) = some (.leaf (.int .i64 (z + 3 * (n : Int)), none), andB (deqS (Tk.Sh n (Tk.mz z) z 0) (Tk.Sh n (Tk.mz z) z 0)) true) := by kernel_rfl
  rw [deqS_self] at h
  exact h
noncomputable def Tk.okH (n : Nat) (z : Int) : Bool := andB (pB (Tk.ro1 n (Tk.mz z) = Tk.ro1 n (Tk.mz z))) (andB (Nat.ble n few) (andB (decide (0 ≤ z)) (decide (z ≤ 1099511627776))))
theorem Tk.okH_true {n : Nat} (hn : Nat.ble n few = true) {z : Int} (h0 : 0 ≤ z) (h1 : z ≤ 1099511627776) : Tk.okH n z = true := by unfold Tk.okH; rw [pB_true rfl, hn, decide_eq_true h0, decide_eq_true h1]; rfl
end Go.Proofs.Ytllonddgbjgmdaa.W5
