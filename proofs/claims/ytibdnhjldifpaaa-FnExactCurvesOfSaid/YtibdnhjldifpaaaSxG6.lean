/- Gauges, and sums of numbers: contracts of the reference's functions and of the program's. -/
import Derived.Test.YtibdnhjldifpaaaSxH6
import Derived.Test.YtibdnhjldifpaaaSxC6
set_option linter.unusedVariables false
set_option linter.unusedSimpArgs false
set_option maxRecDepth 100000
namespace Go.Proofs.Ytibdnhjldifpaaa.G6
open Go.Sx Go.Sx.C6 Go.RowKit Go.Proofs.Ytibdnhjldifpaaa.S6

def gH (g : Gg) : List Blk := [.one false (gF g)]
noncomputable def runGS (g : Gg) : List AV → List Blk → Option Lf := selRun (runAtH [.ptr 0 0 0] (gH g) (.leaf (.bool (gV g), none)) true)
noncomputable def runGI (g : Gg) : List AV → List Blk → Option Lf := selRun (runAtH [.agg (gF g)] [] (.leaf (.bool (gV g), none)) true)
theorem gS1 (g : Gg) : evF Try.prog extK noL 20 8 60 [.ptr 0 0 0] (gH g) = some (.leaf (.bool (gV g), none), true) := by kernel_rfl
theorem gI1 (g : Gg) : evF Try.prog extK noL 20 8 44 [.agg (gF g)] [] = some (.leaf (.bool (gVI g), none), true) := by kernel_rfl
theorem sumGS (g : Gg) : SumOk Try.prog 60 (runGS g) := sum_atH sxApart sxMixed extK_ok noL (N := 20) (d := 8) fun _ => ⟨noL_all, _, gS1 g, LLe.refl _⟩
theorem sumGI (g : Gg) : SumOk Try.prog 44 (runGI g) := sum_atH sxApart sxMixed extK_ok noL (N := 20) (d := 8) fun _ => ⟨noL_all, _, gI1 g, by rw [gVI_gV]; exact LLe.refl _⟩
noncomputable def ogS (g : Gg) : Bool := andB (deq [.ptr 0 0 0] [.ptr 0 0 0]) (andB (deqH (gH g) (gH g)) true)
noncomputable def ogI (g : Gg) : Bool := andB (deq [.agg (gF g)] [.agg (gF g)]) (andB (deqH [] []) true)
theorem ogS_true (g : Gg) : ogS g = true := by unfold ogS; rw [deq_self, deqH_self]; rfl
theorem ogI_true (g : Gg) : ogI g = true := by unfold ogI; rw [deq_self, deqH_self]; rfl

-- sums of numbers
def fB (w : Bool) (n : Nat) (f : Nat → Option Nat) : Blk := .rows w n 1 (fun j => [.flt .f32 (f j)])
def SU (n : Nat) (f : Nat → Option Nat) (s : Option Nat) (k : Int) : St := ⟨[.slc 0 0 n, .junk, .junk, .flt .f32 s, .junk, .junk, .slc 0 0 n, .int .i64 n, .int .i64 k] ++ junks 12, [fB false n f]⟩
def EU (n : Nat) (f : Nat → Option Nat) (s : Option Nat) : St := ⟨[.junk, .junk, .junk, .flt .f32 s] ++ junks 17, [fB false n f]⟩
theorem stepU (n : Nat) (f : Nat → Option Nat) (s : Option Nat) (k : Nat) :
    evC JS Try.prog (callF Try.prog extK 20 8) noL 20 (loopN Try.prog 117 4) (SU n f s (Int.ofNat k)) (kG 1 [0, 3, 6, 7, 8] [3] (some [0]) (some [0])) =
      some (.node (decide (Int.ofNat k < (n : Int))) (.leaf (.nrm, SU n f (cond (Int.ofNat k == 0) (f k) (fop .add .f32 s (f k))) (IntKind.i64.wrap (Int.ofNat k + 1)))) (.leaf (.ext 0, EU n f s)),
        andB (impB (decide (Int.ofNat k < (n : Int))) (andB (inB (Int.ofNat k) n) (andB (Nat.blt k n) true))) true) := by kernel_rfl
theorem loopU (n : Nat) (hn : n ≤ few) (f : Nat → Option Nat) : LoopOk Try.prog 1 (loopN Try.prog 117 4) (SU n f (some 0) 0) (.leaf (.ext 0, EU n f (fs f n))) := by
  have hf : few = 1099511627776 := rfl
  exact loop_all (callF_ok sxApart sxMixed extK_ok (N := 20) 8) sxMixed (body := loopN Try.prog 117 4) (L := noL) (N := 20) (B := 1) (fun _ _ _ _ h => by cases h) [0, 3, 6, 7, 8] [3] (some [0]) (some [0])
    (fun k => SU n f (fs f k) (Int.ofNat k)) n (.ext 0, EU n f (fs f n)) (fun h => by cases h)
    (fun k hk => by
      refine ⟨_, by rw [stepU, ofNat_lt, inB_nat hk, blt_lt hk, decide_eq_true hk]; rfl, rfl, ?_, HLe.refl _⟩
      simp only [Tr.get, cond_true, SU]
      rw [wrap_i64 (n := Int.ofNat k + 1) (by simp only [Int.ofNat_eq_natCast]; omega) (by simp only [Int.ofNat_eq_natCast]; omega)]
      rfl)
    (by
      refine ⟨_, by rw [stepU, ofNat_lt, decide_eq_false (Nat.lt_irrefl n), H6.imp_ff], rfl, rfl, HLe.refl _⟩)
noncomputable def runSum (n : Nat) (f : Nat → Option Nat) : List AV → List Blk → Option Lf := selRun (runAtH [.slc 0 0 n] [fB false n f] (.leaf (.flt .f32 (fs f n), none)) (Nat.ble n few))
theorem sumU (n : Nat) (f : Nat → Option Nat) : SumOk Try.prog 117 (runSum n f) := sum_atH sxApart sxMixed extK_ok (loopAt 4 [0, 3, 6, 7, 8] (SU n f (some 0) 0) (.leaf (.ext 0, EU n f (fs f n))) noL) (N := 20) (d := 8) fun hn => by
  rw [Nat.ble_eq] at hn
  refine ⟨loopAt_all (B := 1) (by decide +kernel) (loopU n hn f) noL_all, _, ?_, LLe.refl _⟩
  have h : evF Try.prog extK (loopAt 4 [0, 3, 6, 7, 8] (SU n f (some 0) 0) (.leaf (.ext 0, EU n f (fs f n))) noL) 20 8 117 [.slc 0 0 n] [fB false n f] = some (.leaf (.flt .f32 (fs f n), none), andB (deqS (SU n f (some 0) 0) (SU n f (some 0) 0)) true) := by kernel_rfl
  rw [deqS_self] at h
  exact h
noncomputable def ouS (n : Nat) (f : Nat → Option Nat) : Bool := andB (deq [.slc 0 0 n] [.slc 0 0 n]) (andB (deqH [fB false n f] [fB false n f]) (Nat.ble n few))
theorem ouS_true {n : Nat} (hn : Nat.ble n few = true) (f : Nat → Option Nat) : ouS n f = true := by unfold ouS; rw [deq_self, deqH_self, hn]; rfl
/-- a gauge that came in, by functions -/
theorem gauge_fn {b0 b1 b2 b3 b4 b5 b6 b7 b8 b9 b10 b11 b12 b13 b14 b15 w0 w1 w2 w3 w4 w5 w6 w7 w8 w9 w10 w11 w12 w13 w14 w15 : Int} {k0 k1 k2 k3 k4 k5 k6 k7 k8 k9 k10 k11 k12 k13 k14 k15 d : Option Nat} : ∃ g : Gg, AV.agg (List.map (AV.int .i16) [b0, b1, b2, b3, b4, b5, b6, b7, b8, b9, b10, b11, b12, b13, b14, b15] ++ (List.map (AV.int .i16) [w0, w1, w2, w3, w4, w5, w6, w7, w8, w9, w10, w11, w12, w13, w14, w15] ++ (List.map (AV.flt .f32) [k0, k1, k2, k3, k4, k5, k6, k7, k8, k9, k10, k11, k12, k13, k14, k15] ++ [.flt .f32 d]))) = .agg (gF g) :=
  ⟨⟨fun i => [b0, b1, b2, b3, b4, b5, b6, b7, b8, b9, b10, b11, b12, b13, b14, b15].getD i 0, fun i => [w0, w1, w2, w3, w4, w5, w6, w7, w8, w9, w10, w11, w12, w13, w14, w15].getD i 0, fun i => [k0, k1, k2, k3, k4, k5, k6, k7, k8, k9, k10, k11, k12, k13, k14, k15].getD i none, d⟩, rfl⟩
end Go.Proofs.Ytibdnhjldifpaaa.G6
