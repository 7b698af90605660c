/- Overprints: contracts of the reference's function and of the program's. -/
import Derived.Test.YtpnjimpiphbcfaaSxK2
import Derived.Test.YtpnjimpiphbcfaaSxC5
set_option linter.unusedVariables false
set_option linter.unusedSimpArgs false
set_option maxRecDepth 100000
namespace Go.Proofs.Ytpnjimpiphbcfaa.O5
open Go.Sx Go.Sx.C5 Go.RowKit

def pH (f : Nat → Option Nat) : List Blk := [.one false (pcs f)]
theorem ovS0 (f : Nat → Option Nat) : evF Try.prog extK noL 20 8 61 [.ptr 0 0 0, .agg [.lit (.bool false), .lit (.bool false), .lit (.bool false), .lit (.bool false)]] (pH f) = some (.leaf (.agg (cF (ov f false false false false)), none), true) := by kernel_rfl
theorem ovS1 (f : Nat → Option Nat) : evF Try.prog extK noL 20 8 61 [.ptr 0 0 0, .agg [.lit (.bool false), .lit (.bool false), .lit (.bool false), .lit (.bool true)]] (pH f) = some (.leaf (.agg (cF (ov f false false false true)), none), true) := by kernel_rfl
theorem ovS2 (f : Nat → Option Nat) : evF Try.prog extK noL 20 8 61 [.ptr 0 0 0, .agg [.lit (.bool false), .lit (.bool false), .lit (.bool true), .lit (.bool false)]] (pH f) = some (.leaf (.agg (cF (ov f false false true false)), none), true) := by kernel_rfl
theorem ovS3 (f : Nat → Option Nat) : evF Try.prog extK noL 20 8 61 [.ptr 0 0 0, .agg [.lit (.bool false), .lit (.bool false), .lit (.bool true), .lit (.bool true)]] (pH f) = some (.leaf (.agg (cF (ov f false false true true)), none), true) := by kernel_rfl
theorem ovS4 (f : Nat → Option Nat) : evF Try.prog extK noL 20 8 61 [.ptr 0 0 0, .agg [.lit (.bool false), .lit (.bool true), .lit (.bool false), .lit (.bool false)]] (pH f) = some (.leaf (.agg (cF (ov f false true false false)), none), true) := by kernel_rfl
theorem ovS5 (f : Nat → Option Nat) : evF Try.prog extK noL 20 8 61 [.ptr 0 0 0, .agg [.lit (.bool false), .lit (.bool true), .lit (.bool false), .lit (.bool true)]] (pH f) = some (.leaf (.agg (cF (ov f false true false true)), none), true) := by kernel_rfl
theorem ovS6 (f : Nat → Option Nat) : evF Try.prog extK noL 20 8 61 [.ptr 0 0 0, .agg [.lit (.bool false), .lit (.bool true), .lit (.bool true), .lit (.bool false)]] (pH f) = some (.leaf (.agg (cF (ov f false true true false)), none), true) := by kernel_rfl
theorem ovS7 (f : Nat → Option Nat) : evF Try.prog extK noL 20 8 61 [.ptr 0 0 0, .agg [.lit (.bool false), .lit (.bool true), .lit (.bool true), .lit (.bool true)]] (pH f) = some (.leaf (.agg (cF (ov f false true true true)), none), true) := by kernel_rfl
theorem ovS8 (f : Nat → Option Nat) : evF Try.prog extK noL 20 8 61 [.ptr 0 0 0, .agg [.lit (.bool true), .lit (.bool false), .lit (.bool false), .lit (.bool false)]] (pH f) = some (.leaf (.agg (cF (ov f true false false false)), none), true) := by kernel_rfl
theorem ovS9 (f : Nat → Option Nat) : evF Try.prog extK noL 20 8 61 [.ptr 0 0 0, .agg [.lit (.bool true), .lit (.bool false), .lit (.bool false), .lit (.bool true)]] (pH f) = some (.leaf (.agg (cF (ov f true false false true)), none), true) := by kernel_rfl
theorem ovS10 (f : Nat → Option Nat) : evF Try.prog extK noL 20 8 61 [.ptr 0 0 0, .agg [.lit (.bool true), .lit (.bool false), .lit (.bool true), .lit (.bool false)]] (pH f) = some (.leaf (.agg (cF (ov f true false true false)), none), true) := by kernel_rfl
theorem ovS11 (f : Nat → Option Nat) : evF Try.prog extK noL 20 8 61 [.ptr 0 0 0, .agg [.lit (.bool true), .lit (.bool false), .lit (.bool true), .lit (.bool true)]] (pH f) = some (.leaf (.agg (cF (ov f true false true true)), none), true) := by kernel_rfl
theorem ovS12 (f : Nat → Option Nat) : evF Try.prog extK noL 20 8 61 [.ptr 0 0 0, .agg [.lit (.bool true), .lit (.bool true), .lit (.bool false), .lit (.bool false)]] (pH f) = some (.leaf (.agg (cF (ov f true true false false)), none), true) := by kernel_rfl
theorem ovS13 (f : Nat → Option Nat) : evF Try.prog extK noL 20 8 61 [.ptr 0 0 0, .agg [.lit (.bool true), .lit (.bool true), .lit (.bool false), .lit (.bool true)]] (pH f) = some (.leaf (.agg (cF (ov f true true false true)), none), true) := by kernel_rfl
theorem ovS14 (f : Nat → Option Nat) : evF Try.prog extK noL 20 8 61 [.ptr 0 0 0, .agg [.lit (.bool true), .lit (.bool true), .lit (.bool true), .lit (.bool false)]] (pH f) = some (.leaf (.agg (cF (ov f true true true false)), none), true) := by kernel_rfl
theorem ovS15 (f : Nat → Option Nat) : evF Try.prog extK noL 20 8 61 [.ptr 0 0 0, .agg [.lit (.bool true), .lit (.bool true), .lit (.bool true), .lit (.bool true)]] (pH f) = some (.leaf (.agg (cF (ov f true true true true)), none), true) := by kernel_rfl
theorem ovS (f : Nat → Option Nat) : ∀ k0 k1 k2 k3 : Bool, evF Try.prog extK noL 20 8 61 [.ptr 0 0 0, .agg [.lit (.bool k0), .lit (.bool k1), .lit (.bool k2), .lit (.bool k3)]] (pH f) = some (.leaf (.agg (cF (ov f k0 k1 k2 k3)), none), true)
  | false, false, false, false => ovS0 f
  | false, false, false, true => ovS1 f
  | false, false, true, false => ovS2 f
  | false, false, true, true => ovS3 f
  | false, true, false, false => ovS4 f
  | false, true, false, true => ovS5 f
  | false, true, true, false => ovS6 f
  | false, true, true, true => ovS7 f
  | true, false, false, false => ovS8 f
  | true, false, false, true => ovS9 f
  | true, false, true, false => ovS10 f
  | true, false, true, true => ovS11 f
  | true, true, false, false => ovS12 f
  | true, true, false, true => ovS13 f
  | true, true, true, false => ovS14 f
  | true, true, true, true => ovS15 f
theorem ovI0 (f : Nat → Option Nat) : evF Try.prog extK noL 20 8 56 [.agg (pcs f), .agg [.lit (.bool false), .lit (.bool false), .lit (.bool false), .lit (.bool false)]] [] = some (.leaf (.agg (cF (ov f false false false false)), none), true) := by kernel_rfl
theorem ovI1 (f : Nat → Option Nat) : evF Try.prog extK noL 20 8 56 [.agg (pcs f), .agg [.lit (.bool false), .lit (.bool false), .lit (.bool false), .lit (.bool true)]] [] = some (.leaf (.agg (cF (ov f false false false true)), none), true) := by kernel_rfl
theorem ovI2 (f : Nat → Option Nat) : evF Try.prog extK noL 20 8 56 [.agg (pcs f), .agg [.lit (.bool false), .lit (.bool false), .lit (.bool true), .lit (.bool false)]] [] = some (.leaf (.agg (cF (ov f false false true false)), none), true) := by kernel_rfl
theorem ovI3 (f : Nat → Option Nat) : evF Try.prog extK noL 20 8 56 [.agg (pcs f), .agg [.lit (.bool false), .lit (.bool false), .lit (.bool true), .lit (.bool true)]] [] = some (.leaf (.agg (cF (ov f false false true true)), none), true) := by kernel_rfl
theorem ovI4 (f : Nat → Option Nat) : evF Try.prog extK noL 20 8 56 [.agg (pcs f), .agg [.lit (.bool false), .lit (.bool true), .lit (.bool false), .lit (.bool false)]] [] = some (.leaf (.agg (cF (ov f false true false false)), none), true) := by kernel_rfl
theorem ovI5 (f : Nat → Option Nat) : evF Try.prog extK noL 20 8 56 [.agg (pcs f), .agg [.lit (.bool false), .lit (.bool true), .lit (.bool false), .lit (.bool true)]] [] = some (.leaf (.agg (cF (ov f false true false true)), none), true) := by kernel_rfl
theorem ovI6 (f : Nat → Option Nat) : evF Try.prog extK noL 20 8 56 [.agg (pcs f), .agg [.lit (.bool false), .lit (.bool true), .lit (.bool true), .lit (.bool false)]] [] = some (.leaf (.agg (cF (ov f false true true false)), none), true) := by kernel_rfl
theorem ovI7 (f : Nat → Option Nat) : evF Try.prog extK noL 20 8 56 [.agg (pcs f), .agg [.lit (.bool false), .lit (.bool true), .lit (.bool true), .lit (.bool true)]] [] = some (.leaf (.agg (cF (ov f false true true true)), none), true) := by kernel_rfl
theorem ovI8 (f : Nat → Option Nat) : evF Try.prog extK noL 20 8 56 [.agg (pcs f), .agg [.lit (.bool true), .lit (.bool false), .lit (.bool false), .lit (.bool false)]] [] = some (.leaf (.agg (cF (ov f true false false false)), none), true) := by kernel_rfl
theorem ovI9 (f : Nat → Option Nat) : evF Try.prog extK noL 20 8 56 [.agg (pcs f), .agg [.lit (.bool true), .lit (.bool false), .lit (.bool false), .lit (.bool true)]] [] = some (.leaf (.agg (cF (ov f true false false true)), none), true) := by kernel_rfl
theorem ovI10 (f : Nat → Option Nat) : evF Try.prog extK noL 20 8 56 [.agg (pcs f), .agg [.lit (.bool true), .lit (.bool false), .lit (.bool true), .lit (.bool false)]] [] = some (.leaf (.agg (cF (ov f true false true false)), none), true) := by kernel_rfl
theorem ovI11 (f : Nat → Option Nat) : evF Try.prog extK noL 20 8 56 [.agg (pcs f), .agg [.lit (.bool true), .lit (.bool false), .lit (.bool true), .lit (.bool true)]] [] = some (.leaf (.agg (cF (ov f true false true true)), none), true) := by kernel_rfl
theorem ovI12 (f : Nat → Option Nat) : evF Try.prog extK noL 20 8 56 [.agg (pcs f), .agg [.lit (.bool true), .lit (.bool true), .lit (.bool false), .lit (.bool false)]] [] = some (.leaf (.agg (cF (ov f true true false false)), none), true) := by kernel_rfl
theorem ovI13 (f : Nat → Option Nat) : evF Try.prog extK noL 20 8 56 [.agg (pcs f), .agg [.lit (.bool true), .lit (.bool true), .lit (.bool false), .lit (.bool true)]] [] = some (.leaf (.agg (cF (ov f true true false true)), none), true) := by kernel_rfl
theorem ovI14 (f : Nat → Option Nat) : evF Try.prog extK noL 20 8 56 [.agg (pcs f), .agg [.lit (.bool true), .lit (.bool true), .lit (.bool true), .lit (.bool false)]] [] = some (.leaf (.agg (cF (ov f true true true false)), none), true) := by kernel_rfl
theorem ovI15 (f : Nat → Option Nat) : evF Try.prog extK noL 20 8 56 [.agg (pcs f), .agg [.lit (.bool true), .lit (.bool true), .lit (.bool true), .lit (.bool true)]] [] = some (.leaf (.agg (cF (ov f true true true true)), none), true) := by kernel_rfl
theorem ovI (f : Nat → Option Nat) : ∀ k0 k1 k2 k3 : Bool, evF Try.prog extK noL 20 8 56 [.agg (pcs f), .agg [.lit (.bool k0), .lit (.bool k1), .lit (.bool k2), .lit (.bool k3)]] [] = some (.leaf (.agg (cF (ov f k0 k1 k2 k3)), none), true)
  | false, false, false, false => ovI0 f
  | false, false, false, true => ovI1 f
  | false, false, true, false => ovI2 f
  | false, false, true, true => ovI3 f
  | false, true, false, false => ovI4 f
  | false, true, false, true => ovI5 f
  | false, true, true, false => ovI6 f
  | false, true, true, true => ovI7 f
  | true, false, false, false => ovI8 f
  | true, false, false, true => ovI9 f
  | true, false, true, false => ovI10 f
  | true, false, true, true => ovI11 f
  | true, true, false, false => ovI12 f
  | true, true, false, true => ovI13 f
  | true, true, true, false => ovI14 f
  | true, true, true, true => ovI15 f
noncomputable def runOS (f : Nat → Option Nat) : List AV → List Blk → Option Lf := fun args H => match args with
  | [p, .agg [.bool k0, .bool k1, .bool k2, .bool k3]] => some (.leaf (.agg (cF (ov f k0 k1 k2 k3)), none), andB (deq [p] [.ptr 0 0 0]) (deqH H (pH f)))
  | _ => none
noncomputable def runOI (f : Nat → Option Nat) : List AV → List Blk → Option Lf := fun args H => match args with
  | [p, .agg [.bool k0, .bool k1, .bool k2, .bool k3]] => some (.leaf (.agg (cF (ov f k0 k1 k2 k3)), none), andB (deq [p] [.agg (pcs f)]) (deqH H []))
  | _ => none
theorem sumOS (f : Nat → Option Nat) : SumOk Try.prog 61 (selRun (runOS f)) := sum_selG sxApart sxMixed fun args H t hr _ => by
  unfold runOS at hr
  split at hr
  · rename_i p k0 k1 k2 k3 _
    simp only [Option.some.injEq, Prod.mk.injEq] at hr
    obtain ⟨rfl, ho⟩ := hr
    obtain ⟨h1, h2⟩ := andB_true ho
    have h1 := deq_eq h1
    have h2 := deqH_eq h2
    simp only [List.cons.injEq, and_true] at h1
    subst h1 h2
    exact ⟨extK, noL, 20, 8, _, _, extK_ok, noL_all, fun _ _ h => litBL_rel h, ovS f k0 k1 k2 k3, LLe.refl _⟩
  · cases hr
theorem sumOI (f : Nat → Option Nat) : SumOk Try.prog 56 (selRun (runOI f)) := sum_selG sxApart sxMixed fun args H t hr _ => by
  unfold runOI at hr
  split at hr
  · rename_i p k0 k1 k2 k3 _
    simp only [Option.some.injEq, Prod.mk.injEq] at hr
    obtain ⟨rfl, ho⟩ := hr
    obtain ⟨h1, h2⟩ := andB_true ho
    have h1 := deq_eq h1
    have h2 := deqH_eq h2
    simp only [List.cons.injEq, and_true] at h1
    subst h1 h2
    exact ⟨extK, noL, 20, 8, _, _, extK_ok, noL_all, fun _ _ h => litBL_rel h, ovI f k0 k1 k2 k3, LLe.refl _⟩
  · cases hr
noncomputable def runVS (f : Nat → Option Nat) : List AV → List Blk → Option Lf := selRun (runAtH [.ptr 0 0 0] (pH f) (.leaf (.bool (pV f), none)) true)
noncomputable def runVI (f : Nat → Option Nat) : List AV → List Blk → Option Lf := selRun (runAtH [.agg (pcs f)] [] (.leaf (.bool (pV f), none)) true)
theorem vS1 (f : Nat → Option Nat) : evF Try.prog extK noL 20 8 60 [.ptr 0 0 0] (pH f) = some (.leaf (.bool (pV f), none), true) := by kernel_rfl
theorem vI1 (f : Nat → Option Nat) : evF Try.prog extK noL 20 8 34 [.agg (pcs f)] [] = some (.leaf (.bool (pVI f), none), true) := by kernel_rfl
theorem sumVS (f : Nat → Option Nat) : SumOk Try.prog 60 (runVS f) := sum_atH sxApart sxMixed extK_ok noL (N := 20) (d := 8) fun _ => ⟨noL_all, _, vS1 f, LLe.refl _⟩
theorem sumVI (f : Nat → Option Nat) : SumOk Try.prog 34 (runVI f) := sum_atH sxApart sxMixed extK_ok noL (N := 20) (d := 8) fun _ => ⟨noL_all, _, vI1 f, by rw [pVI_pV]; exact LLe.refl _⟩
noncomputable def oK (f : Nat → Option Nat) (K : CallerT) : CallerT := addK 60 (runVS f) (addK 34 (runVI f) (addK 61 (selRun (runOS f)) (addK 56 (selRun (runOI f)) K)))
theorem oK_ok (f : Nat → Option Nat) {K : CallerT} (hK : CallerTOk Try.prog K) : CallerTOk Try.prog (oK f K) := addK_ok (sumVS f) (addK_ok (sumVI f) (addK_ok (sumOS f) (addK_ok (sumOI f) hK)))
/-- what is owed for one call -/
noncomputable def owS (f : Nat → Option Nat) : Bool := andB (deq [.ptr 0 0 0] [.ptr 0 0 0]) (deqH (pH f) (pH f))
noncomputable def owI (f : Nat → Option Nat) : Bool := andB (deq [.agg (pcs f)] [.agg (pcs f)]) (deqH [] [])
noncomputable def ovwS (f : Nat → Option Nat) : Bool := andB (deq [.ptr 0 0 0] [.ptr 0 0 0]) (andB (deqH (pH f) (pH f)) true)
noncomputable def ovwI (f : Nat → Option Nat) : Bool := andB (deq [.agg (pcs f)] [.agg (pcs f)]) (andB (deqH [] []) true)
theorem owS_true (f : Nat → Option Nat) : owS f = true := by unfold owS; rw [deq_self, deqH_self]; rfl
theorem owI_true (f : Nat → Option Nat) : owI f = true := by unfold owI; rw [deq_self, deqH_self]; rfl
theorem ovwS_true (f : Nat → Option Nat) : ovwS f = true := by unfold ovwS; rw [deq_self, deqH_self]; rfl
theorem ovwI_true (f : Nat → Option Nat) : ovwI f = true := by unfold ovwI; rw [deq_self, deqH_self]; rfl
/-- a press that came in, by its numbers -/
theorem press_fn {p0 p1 p2 p3 p4 p5 p6 p7 p8 p9 p10 p11 p12 p13 p14 p15 p16 p17 p18 p19 p20 p21 p22 p23 p24 p25 p26 p27 p28 p29 p30 p31 p32 p33 p34 p35 p36 p37 p38 p39 p40 p41 p42 p43 p44 p45 p46 p47 p48 p49 p50 p51 p52 p53 p54 p55 p56 p57 p58 p59 p60 p61 p62 p63 p64 p65 p66 p67 p68 p69 p70 p71 p72 p73 p74 p75 p76 p77 p78 p79 p80 : Option Nat} : ∃ f : Nat → Option Nat, AV.agg (List.map (AV.flt .f32) [p0, p1, p2, p3, p4, p5, p6, p7, p8, p9, p10, p11, p12, p13, p14, p15, p16, p17, p18, p19, p20, p21, p22, p23, p24, p25, p26, p27, p28, p29, p30, p31, p32, p33, p34, p35, p36, p37, p38, p39, p40, p41, p42, p43, p44, p45, p46, p47, p48, p49, p50, p51, p52, p53, p54, p55, p56, p57, p58, p59, p60, p61, p62, p63, p64, p65, p66, p67, p68, p69, p70, p71, p72, p73, p74, p75, p76, p77, p78, p79, p80]) = .agg (pcs f) := ⟨fun i => [p0, p1, p2, p3, p4, p5, p6, p7, p8, p9, p10, p11, p12, p13, p14, p15, p16, p17, p18, p19, p20, p21, p22, p23, p24, p25, p26, p27, p28, p29, p30, p31, p32, p33, p34, p35, p36, p37, p38, p39, p40, p41, p42, p43, p44, p45, p46, p47, p48, p49, p50, p51, p52, p53, p54, p55, p56, p57, p58, p59, p60, p61, p62, p63, p64, p65, p66, p67, p68, p69, p70, p71, p72, p73, p74, p75, p76, p77, p78, p79, p80].getD i none, rfl⟩
end Go.Proofs.Ytpnjimpiphbcfaa.O5
