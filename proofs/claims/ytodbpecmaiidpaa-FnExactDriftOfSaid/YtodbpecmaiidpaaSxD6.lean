/- Drifts: the loops of the reference and of the program. -/
import Derived.Test.YtodbpecmaiidpaaSxG6
set_option linter.unusedVariables false
set_option linter.unusedSimpArgs false
set_option maxRecDepth 100000
namespace Go.Proofs.Ytodbpecmaiidpaa.D6
open Go.Sx Go.Sx.C6 Go.RowKit Go.Proofs.Ytodbpecmaiidpaa.S6 Go.Proofs.Ytodbpecmaiidpaa.G6

noncomputable def xv (T : Nat → Int) (k : Nat) : Option Nat := fofI .f32 (T k)
noncomputable def yv (C : Nat → Nat → Int) (g : Gg) (k : Nat) : Option Nat := fop .sub .f32 (fop .quo .f32 (fofI .f32 (ds (fun i => C i k) g.b 16)) (fofI .f32 (ds g.w g.b 16))) (some 1065353216)
noncomputable def f1 (T : Nat → Int) (C : Nat → Nat → Int) (g : Gg) (k : Nat) : Option Nat := fop .mul .f32 (xv T k) (yv C g k)
noncomputable def f2 (T : Nat → Int) (k : Nat) : Option Nat := fop .mul .f32 (xv T k) (xv T k)
def oc (n k : Nat) : Bool := andB (inB (Int.ofNat k) n) (andB (Nat.blt k n) true)
def ocs (n k : Nat) : Nat → Bool
  | 0 => oc n k
  | i + 1 => andB (oc n k) (ocs n k i)
theorem oc_true {n k : Nat} (h : k < n) : oc n k = true := by unfold oc; rw [inB_nat h, blt_lt h]; rfl
theorem ocs_true {n k : Nat} (h : k < n) : ∀ i, ocs n k i = true
  | 0 => oc_true h
  | i + 1 => by unfold ocs; rw [oc_true h, ocs_true h i]; rfl

-- the reference
def SDs (n : Nat) (T : Nat → Int) (C : Nat → Nat → Int) (g : Gg) (xy xx : Option Nat) (k : Int) : St := ⟨[.junk, .slc 0 0 n, .ptr 1 0 0, .junk, .junk, .junk, .int .i64 (ds g.w g.b 16), .junk, .flt .f32 xy, .flt .f32 xx, .int .i64 k] ++ junks 101, [.rows false n 17 (sRow T C), .one true (gF g)]⟩
def EDs (n : Nat) (T : Nat → Int) (C : Nat → Nat → Int) (g : Gg) (xy xx : Option Nat) : St := ⟨[.junk, .junk, .junk, .junk, .junk, .junk, .junk, .junk, .flt .f32 xy, .flt .f32 xx] ++ junks 102, [.rows false n 17 (sRow T C), .one true (gF g)]⟩
theorem stepDs (n : Nat) (T : Nat → Int) (C : Nat → Nat → Int) (g : Gg) (xy xx : Option Nat) (k : Nat) :
    evC JS Try.prog (callF Try.prog extK 20 8) noL 20 (loopN Try.prog 46 14) (SDs n T C g xy xx (Int.ofNat k)) (kG 1 [1, 2, 6, 8, 9, 10] [8, 9] none none) =
      some (.node (decide (Int.ofNat k < (n : Int))) (.leaf (.nrm, SDs n T C g (cond (Int.ofNat k == 0) (f1 T C g k) (fop .add .f32 xy (f1 T C g k))) (cond (Int.ofNat k == 0) (f2 T k) (fop .add .f32 xx (f2 T k))) (IntKind.i64.wrap (Int.ofNat k + 1)))) (.leaf (.ext 2, EDs n T C g xy xx)),
        andB (impB (decide (Int.ofNat k < (n : Int))) (ocs n k 16)) true) := by kernel_rfl
theorem loopDs (n : Nat) (hn : n ≤ few) (T : Nat → Int) (C : Nat → Nat → Int) (g : Gg) : LoopOk Try.prog 1 (loopN Try.prog 46 14) (SDs n T C g (some 0) (some 0) 0) (.leaf (.ext 2, EDs n T C g (fs (f1 T C g) n) (fs (f2 T) n))) := by
  have hf : few = 1099511627776 := rfl
  exact loop_all (callF_ok sxApart sxMixed extK_ok (N := 20) 8) sxMixed (body := loopN Try.prog 46 14) (L := noL) (N := 20) (B := 1) (fun _ _ _ _ h => by cases h) [1, 2, 6, 8, 9, 10] [8, 9] none none
    (fun k => SDs n T C g (fs (f1 T C g) k) (fs (f2 T) k) (Int.ofNat k)) n (.ext 2, EDs n T C g (fs (f1 T C g) n) (fs (f2 T) n)) (fun h => by cases h)
    (fun k hk => by
      refine ⟨_, by rw [stepDs, ofNat_lt, ocs_true hk, decide_eq_true hk]; rfl, rfl, ?_, HLe.refl _⟩
      simp only [Tr.get, cond_true, SDs]
      rw [wrap_i64 (n := Int.ofNat k + 1) (by simp only [Int.ofNat_eq_natCast]; omega) (by simp only [Int.ofNat_eq_natCast]; omega)]
      rfl)
    (by
      refine ⟨_, by rw [stepDs, ofNat_lt, decide_eq_false (Nat.lt_irrefl n), M6.imp_ff], rfl, rfl, HLe.refl _⟩)
noncomputable def LDs (n : Nat) (T : Nat → Int) (C : Nat → Nat → Int) (g : Gg) : LoopOr := loopAt 14 [1, 2, 6, 8, 9, 10] (SDs n T C g (some 0) (some 0) 0) (.leaf (.ext 2, EDs n T C g (fs (f1 T C g) n) (fs (f2 T) n))) noL
theorem LDs_ok (n : Nat) (hn : n ≤ few) (T : Nat → Int) (C : Nat → Nat → Int) (g : Gg) : LOk Try.prog 1 46 (LDs n T C g) := loopAt_all (B := 1) (by decide +kernel) (loopDs n hn T C g) noL_all

-- the program
def SDb (n : Nat) (T : Nat → Int) (C : Nat → Nat → Int) (g : Gg) (a b : Blk) (kk : Nat) (k : Int) : St := ⟨[.junk, .slc 0 0 n, .ptr 1 0 0, .junk, .junk, .junk, .junk, .slc 2 0 kk, .slc 3 0 kk] ++ junks 19 ++ [.slc 0 0 n, .int .i64 n, .int .i64 k] ++ junks 69, [.rows false n 17 (sRow T C), .one true (gF g), a, b]⟩
def EDi (n : Nat) (T : Nat → Int) (C : Nat → Nat → Int) (g : Gg) (kk : Nat) (h1 h2 : Nat → Option Nat) : St := ⟨[.junk, .junk, .junk, .junk, .junk, .junk, .junk, .slc 2 0 kk, .slc 3 0 kk] ++ junks 91, [.rows false n 17 (sRow T C), .one true (gF g), fB true kk h1, fB true kk h2]⟩
/-- a block with one more number -/
def apB (k : Nat) (f : Nat → Option Nat) (v : Option Nat) : Blk := .rows true (k + 1) 1 (fun i => renVL (idxP [0, 1, 6, 8]) (catF k (shF (fun j => [.flt .f32 (f j)]) 0) (shF (fun i => bif Nat.blt i 1 then (([AV.flt .f32 v].drop (i * 1)).take 1) else [.flt .f32 (some 0)]) 0) i))
theorem apB_le (k : Nat) (f : Nat → Option Nat) : BLe (apB k f (f k)) (fB true (k + 1) f) := BLe.rows fun i hi => by
  have h0 : i - k = 0 := by omega
  simp only [catF, shF, h0]
  by_cases h : i < k
  · rw [blt_lt h]; rfl
  · have : i = k := by omega
    subst this
    rw [blt_ge (Nat.le_refl i)]; rfl
def oa (n k : Nat) : Bool := andB (inB (Int.ofNat k) n) (andB (Nat.blt k n) (andB (andB (andB (Nat.ble (0 + k) k) true) (Nat.ble (k + 1) few)) (andB (andB (andB (Nat.ble (0 + k) k) true) (Nat.ble (k + 1) few)) true)))
theorem oa_true {n k : Nat} (h : k < n) (hn : n ≤ few) : oa n k = true := by
  unfold oa
  rw [inB_nat h, blt_lt h, Nat.ble_eq_true_of_le (show 0 + k ≤ k by omega), Nat.ble_eq_true_of_le (show k + 1 ≤ few by omega)]
  rfl
theorem stepDi (n : Nat) (T : Nat → Int) (C : Nat → Nat → Int) (g : Gg) (h1 h2 : Nat → Option Nat) (k : Nat) :
    evC JS Try.prog (callF Try.prog extK 20 8) noL 20 (loopN Try.prog 47 9) (SDb n T C g (fB true k h1) (fB true k h2) k (Int.ofNat k)) (kG 1 [1, 2, 7, 8, 28, 29, 30] [7, 8] (some [0, 1, 6, 8]) (some [0, 1, 2, 3])) =
      some (.node (decide (Int.ofNat k < (n : Int))) (.leaf (.nrm, SDb n T C g (apB k h1 (f1 T C g k)) (apB k h2 (f2 T k)) (k + 1) (IntKind.i64.wrap (Int.ofNat k + 1)))) (.leaf (.ext 0, EDi n T C g k h1 h2)),
        andB (impB (decide (Int.ofNat k < (n : Int))) (oa n k)) true) := by kernel_rfl
def z0B : Blk := .rows true 0 1 (fun i => bif Nat.blt i 0 then (([] : List AV).drop (i * 1)).take 1 else [.flt .f32 (some 0)])
theorem loopDi (n : Nat) (hn : n ≤ few) (T : Nat → Int) (C : Nat → Nat → Int) (g : Gg) : LoopOk Try.prog 1 (loopN Try.prog 47 9) (SDb n T C g z0B z0B 0 0) (.leaf (.ext 0, EDi n T C g n (f1 T C g) (f2 T))) := by
  have hf : few = 1099511627776 := rfl
  have key := loop_all (callF_ok sxApart sxMixed extK_ok (N := 20) 8) sxMixed (body := loopN Try.prog 47 9) (L := noL) (N := 20) (B := 1) (fun _ _ _ _ h => by cases h) [1, 2, 7, 8, 28, 29, 30] [7, 8] (some [0, 1, 6, 8]) (some [0, 1, 2, 3])
    (fun k => SDb n T C g (fB true k (f1 T C g)) (fB true k (f2 T)) k (Int.ofNat k)) n (.ext 0, EDi n T C g n (f1 T C g) (f2 T)) (fun h => by cases h)
    (fun k hk => by
      refine ⟨_, by rw [stepDi, ofNat_lt, oa_true hk hn, decide_eq_true hk]; rfl, ?_⟩
      refine ⟨rfl, ?_, ⟨BLe.refl _, BLe.refl _, apB_le _ _, apB_le _ _, trivial⟩⟩
      simp only [Tr.get, cond_true, SDb]
      rw [wrap_i64 (n := Int.ofNat k + 1) (by simp only [Int.ofNat_eq_natCast]; omega) (by simp only [Int.ofNat_eq_natCast]; omega)]
      rfl)
    (by
      refine ⟨_, by rw [stepDi, ofNat_lt, decide_eq_false (Nat.lt_irrefl n), M6.imp_ff], rfl, rfl, HLe.refl _⟩)
  exact key.from ⟨rfl, BLe.refl _, BLe.refl _, BLe.rows fun i hi => absurd hi (Nat.not_lt_zero i), BLe.rows fun i hi => absurd hi (Nat.not_lt_zero i), trivial⟩
noncomputable def LDi (n : Nat) (T : Nat → Int) (C : Nat → Nat → Int) (g : Gg) : LoopOr := loopAt 9 [1, 2, 7, 8, 28, 29, 30] (SDb n T C g z0B z0B 0 0) (.leaf (.ext 0, EDi n T C g n (f1 T C g) (f2 T))) noL
theorem LDi_ok (n : Nat) (hn : n ≤ few) (T : Nat → Int) (C : Nat → Nat → Int) (g : Gg) : LOk Try.prog 1 47 (LDi n T C g) := loopAt_all (B := 1) (by decide +kernel) (loopDi n hn T C g) noL_all

-- the whole
noncomputable def qd (n : Nat) (T : Nat → Int) (C : Nat → Nat → Int) (g : Gg) : Option Nat := fop .quo .f32 (fs (f1 T C g) n) (fs (f2 T) n)
noncomputable def ez (n : Nat) (T : Nat → Int) : Bool := fcmp .eql .f32 (fs (f2 T) n) (some 0)
def lf (c : AV) : Tr (AV × Option (List Blk)) := .leaf (.tup [.flt .f32 (some 0), c], none)
noncomputable def TDs (n : Nat) (T : Nat → Int) (C : Nat → Nat → Int) (g : Gg) : Tr (AV × Option (List Blk)) :=
  .node (cond (!gV g) true (!V6.vS n T)) (lf (.lit (.int .i64 1))) (.node ((n : Int) == 0) (lf (.lit (.int .i64 6))) (.node (ez n T) (lf (.lit (.int .i64 4))) (.node (!dr (qd n T C g)) (lf (.lit (.int .i64 4))) (.leaf (.tup [.flt .f32 (qd n T C g), .lit (.int .i64 0)], none)))))
noncomputable def TDi (n : Nat) (T : Nat → Int) (C : Nat → Nat → Int) (g : Gg) : Tr (AV × Option (List Blk)) :=
  .node (!gV g) (lf (.lit (.int .i64 1))) (.node (M6.sc n T != 0) (lf (.int .i64 (M6.sc n T))) (.node (cond (ez n T) true (!dr (qd n T C g))) (lf (.lit (.int .i64 4))) (.leaf (.tup [.flt .f32 (qd n T C g), .lit (.int .i64 0)], none))))
noncomputable def dc (n : Nat) (T : Nat → Int) (C : Nat → Nat → Int) (g : Gg) : Int := cond (cond (!gV g) true (!V6.vS n T)) 1 (cond ((n : Int) == 0) 6 (cond (ez n T) 4 (cond (!dr (qd n T C g)) 4 0)))
noncomputable def dv (n : Nat) (T : Nat → Int) (C : Nat → Nat → Int) (g : Gg) : Option Nat := cond (dc n T C g == 0) (qd n T C g) (some 0)
theorem TDs_le (n : Nat) (T : Nat → Int) (C : Nat → Nat → Int) (g : Gg) : LLe (TDs n T C g).get (.tup [.flt .f32 (dv n T C g), .int .i64 (dc n T C g)], none) := by
  unfold TDs dv dc
  cases gV g <;> cases V6.vS n T <;> cases ((n : Int) == 0) <;> cases ez n T <;> cases dr (qd n T C g) <;> exact LLe.of rfl rfl rfl
theorem TDi_le (n : Nat) (T : Nat → Int) (C : Nat → Nat → Int) (g : Gg) : LLe (TDi n T C g).get (.tup [.flt .f32 (dv n T C g), .int .i64 (dc n T C g)], none) := by
  unfold TDi dv dc M6.sc
  cases gV g <;> cases V6.vS n T <;> cases ((n : Int) == 0) <;> cases ez n T <;> cases dr (qd n T C g) <;> exact LLe.of rfl rfl rfl
/-- which of two, by the block -/
noncomputable def byB (p : Nat → Bool) (r1 r2 : List AV → List Blk → Option Lf) : List AV → List Blk → Option Lf := fun a H => match a with | .slc b _ _ :: _ => bif p b then r1 a H else r2 a H | _ => r2 a H
theorem byB_ok {P : Program} {f : FuncId} {p : Nat → Bool} {r1 r2 : List AV → List Blk → Option Lf} (h1 : SumOk P f r1) (h2 : SumOk P f r2) : SumOk P f (byB p r1 r2) := fun args H t hr => by
  unfold byB at hr
  split at hr
  · rename_i b x y z
    cases hp : p b with
    | true => rw [hp] at hr; exact h1 _ _ _ hr
    | false => rw [hp] at hr; exact h2 _ _ _ hr
  · exact h2 _ _ _ hr
noncomputable def dK (n : Nat) (T : Nat → Int) (C : Nat → Nat → Int) (g : Gg) : CallerT := addK 51 (runGS g) (addK 19 (runGI g) (V6.vK n T C (addK 80 (byB (Nat.beq 2) (runSum n (f1 T C g)) (runSum n (f2 T))) extK)))
theorem dK_ok (n : Nat) (T : Nat → Int) (C : Nat → Nat → Int) (g : Gg) : CallerTOk Try.prog (dK n T C g) := addK_ok (sumGS g) (addK_ok (sumGI g) (V6.vK_ok n T C (addK_ok (byB_ok (sumU n (f1 T C g)) (sumU n (f2 T))) extK_ok)))
noncomputable def oDs (n : Nat) (v u q1 q2 q3 : Bool) : Bool := andB q1 (andB (impB (!!v) (andB q2 true)) (impB (!(cond (!v) true (!u))) (impB (!((n : Int) == 0)) (andB q3 true))))
theorem oDs_true (n : Nat) (v u : Bool) {q1 q2 q3 : Bool} (h1 : q1 = true) (h2 : q2 = true) (h3 : q3 = true) : oDs n v u q1 q2 q3 = true := by
  subst h1 h2 h3
  unfold oDs
  cases v <;> cases u <;> cases ((n : Int) == 0) <;> rfl
def oDi (c : Int) (v q1 q2 q3 q4 q5 : Bool) : Bool := andB q1 (impB (!!v) (andB (andB q2 true) (impB (!(c != 0)) (andB q3 (andB q4 (andB q5 (andB q5 true)))))))
theorem oDi_true (c : Int) (v : Bool) {q1 q2 q3 q4 q5 : Bool} (h1 : q1 = true) (h2 : q2 = true) (h3 : q3 = true) (h4 : q4 = true) (h5 : q5 = true) : oDi c v q1 q2 q3 q4 q5 = true := by
  subst h1 h2 h3 h4 h5
  unfold oDi
  cases v <;> cases (c != 0) <;> rfl
def AD (n : Nat) (g : Gg) : List AV := [.agg (gF g), .slc 0 0 n]
noncomputable def runD (n : Nat) (T : Nat → Int) (C : Nat → Nat → Int) (g : Gg) : List AV → List Blk → Option Lf := selRun (runAtH (AD n g) (roH n T C) (.leaf (.tup [.flt .f32 (dv n T C g), .int .i64 (dc n T C g)], none)) (Nat.ble n few))
theorem sumDs (n : Nat) (T : Nat → Int) (C : Nat → Nat → Int) (g : Gg) : SumOk Try.prog 46 (runD n T C g) := sum_atH sxApart sxMixed (dK_ok n T C g) (LDs n T C g) (N := 20) (d := 8) fun hn => by
  refine ⟨LDs_ok n (Nat.le_of_ble_eq_true hn) T C g, TDs n T C g, ?_, TDs_le n T C g⟩
  have h : evF Try.prog (dK n T C g) (LDs n T C g) 20 8 46 (AD n g) (roH n T C) = some (TDs n T C g, oDs n (gV g) (V6.vS n T) (ogS g) (M6.okH n T C) (deqS (SDs n T C g (some 0) (some 0) 0) (SDs n T C g (some 0) (some 0) 0))) := by kernel_rfl
  rw [oDs_true n _ _ (ogS_true g) (M6.okH_true hn T C) (deqS_self _)] at h
  exact h
theorem sumDi (n : Nat) (T : Nat → Int) (C : Nat → Nat → Int) (g : Gg) : SumOk Try.prog 47 (runD n T C g) := sum_atH sxApart sxMixed (dK_ok n T C g) (LDi n T C g) (N := 20) (d := 8) fun hn => by
  refine ⟨LDi_ok n (Nat.le_of_ble_eq_true hn) T C g, TDi n T C g, ?_, TDi_le n T C g⟩
  have h : evF Try.prog (dK n T C g) (LDi n T C g) 20 8 47 (AD n g) (roH n T C) = some (TDi n T C g, oDi (M6.sc n T) (gV g) (ogI g) (M6.okH n T C) (deqS (SDb n T C g z0B z0B 0 0) (SDb n T C g z0B z0B 0 0)) (ouS n (f1 T C g)) (ouS n (f2 T))) := by kernel_rfl
  rw [oDi_true _ _ (ogI_true g) (M6.okH_true hn T C) (deqS_self _) (ouS_true hn _) (ouS_true hn _)] at h
  exact h
end Go.Proofs.Ytodbpecmaiidpaa.D6
