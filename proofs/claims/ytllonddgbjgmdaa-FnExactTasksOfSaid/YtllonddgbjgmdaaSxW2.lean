/- Names, places of names, drops: contracts; valid works. -/
import Derived.Test.YtllonddgbjgmdaaSxW1
set_option linter.unusedVariables false
set_option linter.unusedSimpArgs false
set_option maxRecDepth 100000
namespace Go.Proofs.Ytllonddgbjgmdaa.W2
open Go.Sx Go.Sx.R0 Go.RowKit Go.Proofs.Ytllonddgbjgmdaa.W1

-- names
def chB (s : List UInt8) (k : Nat) : Bool := cond (decide (((s.getD k 0).toNat : Int) < 97)) true (decide (((s.getD k 0).toNat : Int) > 122))
def obN (s : List UInt8) (k : Nat) : Bool := andB (inB (Int.ofNat k) s.length) (andB (impB (!decide (((s.getD k 0).toNat : Int) < 97)) (andB (inB (Int.ofNat k) s.length) true)) true)
theorem obN_true {s : List UInt8} {k : Nat} (h : k < s.length) : obN s k = true := by unfold obN; rw [inB_nat h, show andB true true = true from rfl, imp_t rfl]; rfl
def Na (s : List UInt8) (k : Int) : St := ⟨[.str s, .junk, .junk, .int .i64 k] ++ junks 19, []⟩
def NaR (s : List UInt8) : St := ⟨[.str s, .junk, .bool false] ++ junks 20, []⟩
def NaE (s : List UInt8) : St := ⟨[.str s] ++ junks 22, []⟩
noncomputable def tNa (s : List UInt8) : Tr (AX × St) := .node (allB s.length fun k => !chB s k) (.leaf (.ext 0, NaE s)) (.leaf (.ret, NaR s))
theorem stepNa (s : List UInt8) (k : Nat) : evC JS Try.prog (callF Try.prog extK 20 8) noL 20 (loopN Try.prog 94 3) (Na s (Int.ofNat k)) (kG 0 [0, 3] [0, 2] none none) =
    some (.node (decide (Int.ofNat k < (s.length : Int))) (.node (chB s k) (.leaf (.ret, NaR s)) (.leaf (.nrm, Na s (IntKind.i64.wrap (Int.ofNat k + 1))))) (.leaf (.ext 0, NaE s)), andB (impB (decide (Int.ofNat k < (s.length : Int))) (obN s k)) true) := by kernel_rfl
theorem loopNa (s : List UInt8) (hs : s.length ≤ 9223372036854775807) : LoopOk Try.prog 0 (loopN Try.prog 94 3) (Na s 0) (tNa s) :=
  loopF (callF_ok sxApart sxMixed extK_ok (N := 20) 8) sxMixed [0, 3] [0, 2] none none (fun k => Na s (Int.ofNat k)) (fun k => Na s (IntKind.i64.wrap (Int.ofNat k + 1))) s.length hs (chB s) (fun _ => (.ret, NaR s)) (.ext 0, NaE s) (obN s) (fun _ h => by cases h) (fun h => by cases h) (stepNa s) (fun k h => obN_true h) fun k _ _ hw => by rw [hw]; exact SLe.refl _
def Nb (s : List UInt8) (k : Int) : St := ⟨[.str s, .junk, .junk, .junk, .junk, .int .i64 (s.length : Int), .int .i64 k] ++ junks 16, []⟩
theorem stepNb (s : List UInt8) (k : Nat) : evC JS Try.prog (callF Try.prog extK 20 8) noL 20 (loopN Try.prog 59 3) (Nb s (Int.ofNat k)) (kG 0 [0, 5, 6] [0, 2] none none) =
    some (.node (decide (Int.ofNat k < (s.length : Int))) (.node (chB s k) (.leaf (.ret, NaR s)) (.leaf (.nrm, Nb s (IntKind.i64.wrap (Int.ofNat k + 1))))) (.leaf (.ext 0, NaE s)), andB (impB (decide (Int.ofNat k < (s.length : Int))) (obN s k)) true) := by kernel_rfl
theorem loopNb (s : List UInt8) (hs : s.length ≤ 9223372036854775807) : LoopOk Try.prog 0 (loopN Try.prog 59 3) (Nb s 0) (tNa s) :=
  loopF (callF_ok sxApart sxMixed extK_ok (N := 20) 8) sxMixed [0, 5, 6] [0, 2] none none (fun k => Nb s (Int.ofNat k)) (fun k => Nb s (IntKind.i64.wrap (Int.ofNat k + 1))) s.length hs (chB s) (fun _ => (.ret, NaR s)) (.ext 0, NaE s) (obN s) (fun _ h => by cases h) (fun h => by cases h) (stepNb s) (fun k h => obN_true h) fun k _ _ hw => by rw [hw]; exact SLe.refl _
/-- is it a name -/
def nm (s : List UInt8) : Bool := cond (allB s.length fun k => !chB s k) (cond (decide ((s.length : Int) ≥ 1)) (decide ((s.length : Int) ≤ 12)) false) false
def selS : List AV → Option (List UInt8)
  | [.str s] => some s
  | [.lit (.str s)] => some s
  | _ => none
noncomputable def runNm : List AV → List Blk → Option Lf := famK selS fun s => selRun (runAtD [.str s] [] (.leaf (.bool (nm s), none)) (Nat.ble s.length 9223372036854775807))
noncomputable def okNm (s : List UInt8) : Bool := andB (deq [.str s] [.str s]) (andB (deqH [] []) (Nat.ble s.length 9223372036854775807))
theorem okNm_true {s : List UInt8} (h : s.length ≤ 9223372036854775807) : okNm s = true := by unfold okNm; rw [deq_self, deqH_self, Nat.ble_eq_true_of_le h]; rfl
theorem nmS : SumOk Try.prog 94 runNm := famK_ok fun s => sum_atD sxApart sxMixed extK_ok (loopAt 3 [0, 3] (Na s 0) (tNa s) noL) (N := 20) (d := 8) fun hn => by
  refine ⟨loopAt_all (B := 0) (by decide +kernel) (loopNa s (Nat.le_of_ble_eq_true hn)) noL_all, _, ?_, LLe.refl _⟩
  have h : evF Try.prog extK (loopAt 3 [0, 3] (Na s 0) (tNa s) noL) 20 8 94 [.str s] [] = some (.leaf (.bool (nm s), none), andB (deqS (Na s 0) (Na s 0)) true) := by kernel_rfl
  rw [deqS_self] at h
  exact h
theorem nmI : SumOk Try.prog 59 runNm := famK_ok fun s => sum_atD sxApart sxMixed extK_ok (loopAt 3 [0, 5, 6] (Nb s 0) (tNa s) noL) (N := 20) (d := 8) fun hn => by
  refine ⟨loopAt_all (B := 0) (by decide +kernel) (loopNb s (Nat.le_of_ble_eq_true hn)) noL_all, _, ?_, LLe.refl _⟩
  have h : evF Try.prog extK (loopAt 3 [0, 5, 6] (Nb s 0) (tNa s) noL) 20 8 59 [.str s] [] = some (.leaf (.bool (nm s), none), andB (deqS (Nb s 0) (Nb s 0)) true) := by kernel_rfl
  rw [deqS_self] at h
  exact h

-- places of names
def hit (c : Bt) (s : List UInt8) (k : Nat) : Bool := c.n k == s
def fnd (c : Bt) (s : List UInt8) (i : Nat) : Int := cond (allB i fun k => !hit c s k) (-1) (Int.ofNat (fb (fun k => !hit c s k) i))
def obF (i n k : Nat) : Bool := andB (inB (Int.ofNat k) i) (andB (Nat.blt k n) true)
theorem obF_true {i n k : Nat} (h : k < i) (hn : i ≤ n) : obF i n k = true := by unfold obF; rw [inB_nat h, blt_lt (show k < n by omega)]; rfl
def Fa (i n : Nat) (c : Bt) (s : List UInt8) (k : Int) : St := ⟨[.slc 0 0 i, .str s, .junk, .junk, .junk, .int .i64 k] ++ junks 14, Bt.ro1 n c⟩
def FaR (n : Nat) (c : Bt) (k : Nat) : St := ⟨junks 4 ++ [.int .i64 (Int.ofNat k)] ++ junks 15, Bt.ro1 n c⟩
def FaE (n : Nat) (c : Bt) : St := ⟨junks 20, Bt.ro1 n c⟩
noncomputable def tFa (i n : Nat) (c : Bt) (s : List UInt8) : Tr (AX × St) := .node (allB i fun k => !hit c s k) (.leaf (.ext 0, FaE n c)) (.leaf (.ret, FaR n c (fb (fun k => !hit c s k) i)))
theorem stepFa (i n : Nat) (c : Bt) (s : List UInt8) (k : Nat) : evC JS Try.prog (callF Try.prog extK 20 8) noL 20 (loopN Try.prog 95 3) (Fa i n c s (Int.ofNat k)) (kG 1 [0, 1, 5] [4] none none) =
    some (.node (decide (Int.ofNat k < (i : Int))) (.node (hit c s k) (.leaf (.ret, FaR n c k)) (.leaf (.nrm, Fa i n c s (IntKind.i64.wrap (Int.ofNat k + 1))))) (.leaf (.ext 0, FaE n c)), andB (impB (decide (Int.ofNat k < (i : Int))) (obF i n k)) true) := by kernel_rfl
theorem loopFa {i n : Nat} (hi : i ≤ n) (hn : n ≤ few) (c : Bt) (s : List UInt8) : LoopOk Try.prog 1 (loopN Try.prog 95 3) (Fa i n c s 0) (tFa i n c s) :=
  loopF (callF_ok sxApart sxMixed extK_ok (N := 20) 8) sxMixed [0, 1, 5] [4] none none (fun k => Fa i n c s (Int.ofNat k)) (fun k => Fa i n c s (IntKind.i64.wrap (Int.ofNat k + 1))) i (by have := few_eq; omega) (hit c s) (fun k => (.ret, FaR n c k)) (.ext 0, FaE n c) (obF i n) (fun _ h => by cases h) (fun h => by cases h) (stepFa i n c s) (fun k h => obF_true h hi) fun k _ _ hw => by rw [hw]; exact SLe.refl _
def fH (n : Nat) (c : Bt) (s : List UInt8) : List Blk := [.rows false n 9 c.row, .one false [.str s]]
def Fb (i n : Nat) (c : Bt) (s : List UInt8) (k : Int) : St := ⟨[.slc 0 0 i, .fn (.func 100) [] [.ptr 1 0 0]] ++ junks 5 ++ [.int .i64 (i : Int), .int .i64 k] ++ junks 10, fH n c s⟩
def FbR (n : Nat) (c : Bt) (s : List UInt8) (k : Nat) : St := ⟨junks 4 ++ [.int .i64 (Int.ofNat k)] ++ junks 14, fH n c s⟩
def FbE (n : Nat) (c : Bt) (s : List UInt8) : St := ⟨junks 19, fH n c s⟩
noncomputable def tFb (i n : Nat) (c : Bt) (s : List UInt8) : Tr (AX × St) := .node (allB i fun k => !hit c s k) (.leaf (.ext 0, FbE n c s)) (.leaf (.ret, FbR n c s (fb (fun k => !hit c s k) i)))
theorem stepFb (i n : Nat) (c : Bt) (s : List UInt8) (k : Nat) : evC JS Try.prog (callF Try.prog extK 20 8) noL 20 (loopN Try.prog 99 3) (Fb i n c s (Int.ofNat k)) (kG 2 [0, 1, 7, 8] [4] (some [0, 1]) (some [0, 1])) =
    some (.node (decide (Int.ofNat k < (i : Int))) (.node (hit c s k) (.leaf (.ret, FbR n c s k)) (.leaf (.nrm, Fb i n c s (IntKind.i64.wrap (Int.ofNat k + 1))))) (.leaf (.ext 0, FbE n c s)), andB (impB (decide (Int.ofNat k < (i : Int))) (obF i n k)) true) := by kernel_rfl
theorem loopFb {i n : Nat} (hi : i ≤ n) (hn : n ≤ few) (c : Bt) (s : List UInt8) : LoopOk Try.prog 2 (loopN Try.prog 99 3) (Fb i n c s 0) (tFb i n c s) :=
  loopF (callF_ok sxApart sxMixed extK_ok (N := 20) 8) sxMixed [0, 1, 7, 8] [4] (some [0, 1]) (some [0, 1]) (fun k => Fb i n c s (Int.ofNat k)) (fun k => Fb i n c s (IntKind.i64.wrap (Int.ofNat k + 1))) i (by have := few_eq; omega) (hit c s) (fun k => (.ret, FbR n c s k)) (.ext 0, FbE n c s) (obF i n) (fun _ h => by cases h) (fun h => by cases h) (stepFb i n c s) (fun k h => obF_true h hi) fun k _ _ hw => by rw [hw]; exact SLe.refl _
def selF : List AV → Option (Nat × List UInt8)
  | [.slc _ _ i, .str s] => some (i, s)
  | _ => none
noncomputable def runFn (n : Nat) (c : Bt) : List AV → List Blk → Option Lf := famK selF fun x => selRun (runAtH [.slc 0 0 x.1, .str x.2] (Bt.ro1 n c) (.leaf (.int .i64 (fnd c x.2 x.1), none)) (andB (Nat.ble x.1 n) (Nat.ble n few)))
noncomputable def okFn (n : Nat) (c : Bt) (i : Nat) (s : List UInt8) : Bool := andB (deq [.slc 0 0 i, .str s] [.slc 0 0 i, .str s]) (andB (deqH (Bt.ro1 n c) (Bt.ro1 n c)) (andB (Nat.ble i n) (Nat.ble n few)))
theorem okFn_true {n i : Nat} (hi : i ≤ n) (hn : n ≤ few) (c : Bt) (s : List UInt8) : okFn n c i s = true := by unfold okFn; rw [deq_self, deqH_self, Nat.ble_eq_true_of_le hi, Nat.ble_eq_true_of_le hn]; rfl
theorem fnS (n : Nat) (c : Bt) : SumOk Try.prog 95 (runFn n c) := famK_ok fun x => sum_atH sxApart sxMixed extK_ok (loopAt 3 [0, 1, 5] (Fa x.1 n c x.2 0) (tFa x.1 n c x.2) noL) (N := 20) (d := 8) fun hg => by
  obtain ⟨h1, h2⟩ := andB_true hg
  refine ⟨loopAt_all (B := 1) (by decide +kernel) (loopFa (Nat.le_of_ble_eq_true h1) (Nat.le_of_ble_eq_true h2) c x.2) noL_all, _, ?_, LLe.refl _⟩
  have h : evF Try.prog extK (loopAt 3 [0, 1, 5] (Fa x.1 n c x.2 0) (tFa x.1 n c x.2) noL) 20 8 95 [.slc 0 0 x.1, .str x.2] (Bt.ro1 n c) = some (.leaf (.int .i64 (fnd c x.2 x.1), none), andB (deqS (Fa x.1 n c x.2 0) (Fa x.1 n c x.2 0)) true) := by kernel_rfl
  rw [deqS_self] at h
  exact h
noncomputable def runFx (n : Nat) (c : Bt) (i : Nat) (s : List UInt8) : List AV → List Blk → Option Lf := selRun (runAtH [.slc 0 0 i, .fn (.func 100) [] [.ptr 1 0 0]] (fH n c s) (.leaf (.int .i64 (fnd c s i), none)) (andB (Nat.ble i n) (Nat.ble n few)))
theorem fxI (n : Nat) (c : Bt) (i : Nat) (s : List UInt8) : SumOk Try.prog 99 (runFx n c i s) := sum_atH sxApart sxMixed extK_ok (loopAt 3 [0, 1, 7, 8] (Fb i n c s 0) (tFb i n c s) noL) (N := 20) (d := 8) fun hg => by
  obtain ⟨h1, h2⟩ := andB_true hg
  refine ⟨loopAt_all (B := 2) (by decide +kernel) (loopFb (Nat.le_of_ble_eq_true h1) (Nat.le_of_ble_eq_true h2) c s) noL_all, _, ?_, LLe.refl _⟩
  have h : evF Try.prog extK (loopAt 3 [0, 1, 7, 8] (Fb i n c s 0) (tFb i n c s) noL) 20 8 99 [.slc 0 0 i, .fn (.func 100) [] [.ptr 1 0 0]] (fH n c s) = some (.leaf (.int .i64 (fnd c s i), none), andB (deqS (Fb i n c s 0) (Fb i n c s 0)) true) := by kernel_rfl
  rw [deqS_self] at h
  exact h
noncomputable def okFx (n : Nat) (c : Bt) (i : Nat) (s : List UInt8) : Bool := andB (deq [.slc 0 0 i, .fn (.func 100) [] [.ptr 1 0 0]] [.slc 0 0 i, .fn (.func 100) [] [.ptr 1 0 0]]) (andB (deqH (fH n c s) (fH n c s)) (andB (Nat.ble i n) (Nat.ble n few)))
theorem fnI (n : Nat) (c : Bt) : SumOk Try.prog 61 (runFn n c) := famK_ok fun x => sum_atH sxApart sxMixed (addK_ok (fxI n c x.1 x.2) extK_ok) noL (N := 20) (d := 8) fun hg => by
  refine ⟨noL_all, _, ?_, LLe.refl _⟩
  have h : evF Try.prog (addK 99 (runFx n c x.1 x.2) extK) noL 20 8 61 [.slc 0 0 x.1, .str x.2] (Bt.ro1 n c) = some (.leaf (.int .i64 (fnd c x.2 x.1), none), andB (okFx n c x.1 x.2) true) := by kernel_rfl
  rw [h]
  unfold okFx
  rw [deq_self, deqH_self, hg]; rfl

-- drops
def d8 (d : Nat → Int) : List AV := [.int .i64 (d 0), .int .i64 (d 1), .int .i64 (d 2), .int .i64 (d 3), .int .i64 (d 4), .int .i64 (d 5), .int .i64 (d 6), .int .i64 (d 7)]
def inD (x : Int) : Bool := cond (decide (0 ≤ x)) (decide (x ≤ 100000)) false
def drV (d : Nat → Int) : Bool := cond (!inD (d 0)) false (cond (!inD (d 1)) false (cond (!inD (d 2)) false (cond (!inD (d 3)) false (cond (!inD (d 4)) false (cond (!inD (d 5)) false (cond (!inD (d 6)) false (cond (!inD (d 7)) false (true))))))))
def drI (d : Nat → Int) : Bool := !decide ((cond (!inD (d 0)) (0) (cond (!inD (d 1)) (IntKind.i64.wrap (0 + 1)) (cond (!inD (d 2)) (IntKind.i64.wrap (IntKind.i64.wrap (0 + 1) + 1)) (cond (!inD (d 3)) (IntKind.i64.wrap (IntKind.i64.wrap (IntKind.i64.wrap (0 + 1) + 1) + 1)) (cond (!inD (d 4)) (IntKind.i64.wrap (IntKind.i64.wrap (IntKind.i64.wrap (IntKind.i64.wrap (0 + 1) + 1) + 1) + 1)) (cond (!inD (d 5)) (IntKind.i64.wrap (IntKind.i64.wrap (IntKind.i64.wrap (IntKind.i64.wrap (IntKind.i64.wrap (0 + 1) + 1) + 1) + 1) + 1)) (cond (!inD (d 6)) (IntKind.i64.wrap (IntKind.i64.wrap (IntKind.i64.wrap (IntKind.i64.wrap (IntKind.i64.wrap (IntKind.i64.wrap (0 + 1) + 1) + 1) + 1) + 1) + 1)) (cond (!inD (d 7)) (IntKind.i64.wrap (IntKind.i64.wrap (IntKind.i64.wrap (IntKind.i64.wrap (IntKind.i64.wrap (IntKind.i64.wrap (IntKind.i64.wrap (0 + 1) + 1) + 1) + 1) + 1) + 1) + 1)) (-1)))))))) : Int) ≥ 0)
theorem drI_drV (d : Nat → Int) : drI d = drV d := by
  unfold drI drV
  generalize inD (d 0) = a0
  generalize inD (d 1) = a1
  generalize inD (d 2) = a2
  generalize inD (d 3) = a3
  generalize inD (d 4) = a4
  generalize inD (d 5) = a5
  generalize inD (d 6) = a6
  generalize inD (d 7) = a7
  revert a0 a1 a2 a3 a4 a5 a6 a7
  decide
def selD : List AV → Option (Nat → Int)
  | [.agg [.int .i64 c0, .int .i64 c1, .int .i64 c2, .int .i64 c3, .int .i64 c4, .int .i64 c5, .int .i64 c6, .int .i64 c7]] => some (fun i => [c0, c1, c2, c3, c4, c5, c6, c7].getD i 0)
  | _ => none
noncomputable def runDr : List AV → List Blk → Option Lf := famK selD fun d => selRun (runAtH [.agg (d8 d)] [] (.leaf (.bool (drV d), none)) true)
noncomputable def okDr (d : Nat → Int) : Bool := andB (deq [.agg (d8 d)] [.agg (d8 d)]) (andB (deqH [] []) true)
theorem okDr_true (d : Nat → Int) : okDr d = true := by unfold okDr; rw [deq_self, deqH_self]; rfl
theorem drS : SumOk Try.prog 96 runDr := famK_ok fun d => sum_atH sxApart sxMixed extK_ok noL (N := 20) (d := 8) fun _ => by
  refine ⟨noL_all, _, ?_, LLe.refl _⟩
  have h : evF Try.prog extK noL 20 8 96 [.agg (d8 d)] [] = some (.leaf (.bool (drV d), none), true) := by kernel_rfl
  exact h
theorem drIo : SumOk Try.prog 60 runDr := famK_ok fun d => sum_atH sxApart sxMixed extK_ok noL (N := 20) (d := 8) fun _ => by
  have h : evF Try.prog extK noL 20 8 60 [.agg (d8 d)] [] = some (.leaf (.bool (drI d), none), true) := by kernel_rfl
  refine ⟨noL_all, _, h, ?_⟩
  rw [drI_drV]
  exact LLe.refl _
end Go.Proofs.Ytllonddgbjgmdaa.W2
