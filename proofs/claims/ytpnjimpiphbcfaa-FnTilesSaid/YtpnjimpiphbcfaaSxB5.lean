/- Roots of overprints and printed curves: contracts of the reference's functions and of the program's. -/
import Derived.Test.YtpnjimpiphbcfaaSxO5
import Derived.Test.YtpnjimpiphbcfaaSxCp
import Derived.Test.YtpnjimpiphbcfaaSxC6
set_option linter.unusedVariables false
set_option linter.unusedSimpArgs false
set_option maxRecDepth 100000
namespace Go.Proofs.Ytpnjimpiphbcfaa.B5
open Go.Sx Go.Sx.C5 Go.Sx.Fl Go.RowKit Go.Proofs.Ytpnjimpiphbcfaa.O5

def c256 (F : Nat → Option Nat) : List AV := [.flt .f32 (F 0), .flt .f32 (F 1), .flt .f32 (F 2), .flt .f32 (F 3), .flt .f32 (F 4), .flt .f32 (F 5), .flt .f32 (F 6), .flt .f32 (F 7), .flt .f32 (F 8), .flt .f32 (F 9), .flt .f32 (F 10), .flt .f32 (F 11), .flt .f32 (F 12), .flt .f32 (F 13), .flt .f32 (F 14), .flt .f32 (F 15), .flt .f32 (F 16), .flt .f32 (F 17), .flt .f32 (F 18), .flt .f32 (F 19), .flt .f32 (F 20), .flt .f32 (F 21), .flt .f32 (F 22), .flt .f32 (F 23), .flt .f32 (F 24), .flt .f32 (F 25), .flt .f32 (F 26), .flt .f32 (F 27), .flt .f32 (F 28), .flt .f32 (F 29), .flt .f32 (F 30), .flt .f32 (F 31), .flt .f32 (F 32), .flt .f32 (F 33), .flt .f32 (F 34), .flt .f32 (F 35), .flt .f32 (F 36), .flt .f32 (F 37), .flt .f32 (F 38), .flt .f32 (F 39), .flt .f32 (F 40), .flt .f32 (F 41), .flt .f32 (F 42), .flt .f32 (F 43), .flt .f32 (F 44), .flt .f32 (F 45), .flt .f32 (F 46), .flt .f32 (F 47), .flt .f32 (F 48), .flt .f32 (F 49), .flt .f32 (F 50), .flt .f32 (F 51), .flt .f32 (F 52), .flt .f32 (F 53), .flt .f32 (F 54), .flt .f32 (F 55), .flt .f32 (F 56), .flt .f32 (F 57), .flt .f32 (F 58), .flt .f32 (F 59), .flt .f32 (F 60), .flt .f32 (F 61), .flt .f32 (F 62), .flt .f32 (F 63), .flt .f32 (F 64), .flt .f32 (F 65), .flt .f32 (F 66), .flt .f32 (F 67), .flt .f32 (F 68), .flt .f32 (F 69), .flt .f32 (F 70), .flt .f32 (F 71), .flt .f32 (F 72), .flt .f32 (F 73), .flt .f32 (F 74), .flt .f32 (F 75), .flt .f32 (F 76), .flt .f32 (F 77), .flt .f32 (F 78), .flt .f32 (F 79), .flt .f32 (F 80), .flt .f32 (F 81), .flt .f32 (F 82), .flt .f32 (F 83), .flt .f32 (F 84), .flt .f32 (F 85), .flt .f32 (F 86), .flt .f32 (F 87), .flt .f32 (F 88), .flt .f32 (F 89), .flt .f32 (F 90), .flt .f32 (F 91), .flt .f32 (F 92), .flt .f32 (F 93), .flt .f32 (F 94), .flt .f32 (F 95), .flt .f32 (F 96), .flt .f32 (F 97), .flt .f32 (F 98), .flt .f32 (F 99), .flt .f32 (F 100), .flt .f32 (F 101), .flt .f32 (F 102), .flt .f32 (F 103), .flt .f32 (F 104), .flt .f32 (F 105), .flt .f32 (F 106), .flt .f32 (F 107), .flt .f32 (F 108), .flt .f32 (F 109), .flt .f32 (F 110), .flt .f32 (F 111), .flt .f32 (F 112), .flt .f32 (F 113), .flt .f32 (F 114), .flt .f32 (F 115), .flt .f32 (F 116), .flt .f32 (F 117), .flt .f32 (F 118), .flt .f32 (F 119), .flt .f32 (F 120), .flt .f32 (F 121), .flt .f32 (F 122), .flt .f32 (F 123), .flt .f32 (F 124), .flt .f32 (F 125), .flt .f32 (F 126), .flt .f32 (F 127), .flt .f32 (F 128), .flt .f32 (F 129), .flt .f32 (F 130), .flt .f32 (F 131), .flt .f32 (F 132), .flt .f32 (F 133), .flt .f32 (F 134), .flt .f32 (F 135), .flt .f32 (F 136), .flt .f32 (F 137), .flt .f32 (F 138), .flt .f32 (F 139), .flt .f32 (F 140), .flt .f32 (F 141), .flt .f32 (F 142), .flt .f32 (F 143), .flt .f32 (F 144), .flt .f32 (F 145), .flt .f32 (F 146), .flt .f32 (F 147), .flt .f32 (F 148), .flt .f32 (F 149), .flt .f32 (F 150), .flt .f32 (F 151), .flt .f32 (F 152), .flt .f32 (F 153), .flt .f32 (F 154), .flt .f32 (F 155), .flt .f32 (F 156), .flt .f32 (F 157), .flt .f32 (F 158), .flt .f32 (F 159), .flt .f32 (F 160), .flt .f32 (F 161), .flt .f32 (F 162), .flt .f32 (F 163), .flt .f32 (F 164), .flt .f32 (F 165), .flt .f32 (F 166), .flt .f32 (F 167), .flt .f32 (F 168), .flt .f32 (F 169), .flt .f32 (F 170), .flt .f32 (F 171), .flt .f32 (F 172), .flt .f32 (F 173), .flt .f32 (F 174), .flt .f32 (F 175), .flt .f32 (F 176), .flt .f32 (F 177), .flt .f32 (F 178), .flt .f32 (F 179), .flt .f32 (F 180), .flt .f32 (F 181), .flt .f32 (F 182), .flt .f32 (F 183), .flt .f32 (F 184), .flt .f32 (F 185), .flt .f32 (F 186), .flt .f32 (F 187), .flt .f32 (F 188), .flt .f32 (F 189), .flt .f32 (F 190), .flt .f32 (F 191), .flt .f32 (F 192), .flt .f32 (F 193), .flt .f32 (F 194), .flt .f32 (F 195), .flt .f32 (F 196), .flt .f32 (F 197), .flt .f32 (F 198), .flt .f32 (F 199), .flt .f32 (F 200), .flt .f32 (F 201), .flt .f32 (F 202), .flt .f32 (F 203), .flt .f32 (F 204), .flt .f32 (F 205), .flt .f32 (F 206), .flt .f32 (F 207), .flt .f32 (F 208), .flt .f32 (F 209), .flt .f32 (F 210), .flt .f32 (F 211), .flt .f32 (F 212), .flt .f32 (F 213), .flt .f32 (F 214), .flt .f32 (F 215), .flt .f32 (F 216), .flt .f32 (F 217), .flt .f32 (F 218), .flt .f32 (F 219), .flt .f32 (F 220), .flt .f32 (F 221), .flt .f32 (F 222), .flt .f32 (F 223), .flt .f32 (F 224), .flt .f32 (F 225), .flt .f32 (F 226), .flt .f32 (F 227), .flt .f32 (F 228), .flt .f32 (F 229), .flt .f32 (F 230), .flt .f32 (F 231), .flt .f32 (F 232), .flt .f32 (F 233), .flt .f32 (F 234), .flt .f32 (F 235), .flt .f32 (F 236), .flt .f32 (F 237), .flt .f32 (F 238), .flt .f32 (F 239), .flt .f32 (F 240), .flt .f32 (F 241), .flt .f32 (F 242), .flt .f32 (F 243), .flt .f32 (F 244), .flt .f32 (F 245), .flt .f32 (F 246), .flt .f32 (F 247), .flt .f32 (F 248), .flt .f32 (F 249), .flt .f32 (F 250), .flt .f32 (F 251), .flt .f32 (F 252), .flt .f32 (F 253), .flt .f32 (F 254), .flt .f32 (F 255)]
-- keys and roots
noncomputable def runKy : List AV → List Blk → Option Lf := fun args _ => match args with
  | [.lit (.int .i64 (.ofNat n))] => some (.leaf (.agg [.bool (kb n 0), .bool (kb n 1), .bool (kb n 2), .bool (kb n 3)], none), Nat.blt n 16)
  | _ => none
theorem keyS : ∀ n, n < 16 → evF Try.prog extK noL 20 8 97 [.lit (.int .i64 (.ofNat n))] [] = some (.leaf (.agg [.bool (kb n 0), .bool (kb n 1), .bool (kb n 2), .bool (kb n 3)], none), true)
  | 0, _ => by kernel_rfl
  | 1, _ => by kernel_rfl
  | 2, _ => by kernel_rfl
  | 3, _ => by kernel_rfl
  | 4, _ => by kernel_rfl
  | 5, _ => by kernel_rfl
  | 6, _ => by kernel_rfl
  | 7, _ => by kernel_rfl
  | 8, _ => by kernel_rfl
  | 9, _ => by kernel_rfl
  | 10, _ => by kernel_rfl
  | 11, _ => by kernel_rfl
  | 12, _ => by kernel_rfl
  | 13, _ => by kernel_rfl
  | 14, _ => by kernel_rfl
  | 15, _ => by kernel_rfl
  | n + 16, h => absurd h (by omega)
theorem sumKS : SumOk Try.prog 97 runKy := sum_pure0 sxApart sxMixed extK_ok (N := 20) (d := 8) fun args H t hr => by
  unfold runKy at hr
  split at hr
  · rename_i n
    simp only [Option.some.injEq, Prod.mk.injEq] at hr
    obtain ⟨rfl, hn⟩ := hr
    exact ⟨rfl, rfl, rfl, noL, fun _ _ _ _ => noL_ok, _, keyS n (by simpa [Nat.blt_eq] using hn), rfl⟩
  · cases hr
theorem keyI : ∀ n, n < 16 → evF Try.prog extK noL 20 8 78 [.lit (.int .i64 (.ofNat n))] [] = some (.leaf (.agg [.bool (kb n 0), .bool (kb n 1), .bool (kb n 2), .bool (kb n 3)], none), true)
  | 0, _ => by kernel_rfl
  | 1, _ => by kernel_rfl
  | 2, _ => by kernel_rfl
  | 3, _ => by kernel_rfl
  | 4, _ => by kernel_rfl
  | 5, _ => by kernel_rfl
  | 6, _ => by kernel_rfl
  | 7, _ => by kernel_rfl
  | 8, _ => by kernel_rfl
  | 9, _ => by kernel_rfl
  | 10, _ => by kernel_rfl
  | 11, _ => by kernel_rfl
  | 12, _ => by kernel_rfl
  | 13, _ => by kernel_rfl
  | 14, _ => by kernel_rfl
  | 15, _ => by kernel_rfl
  | n + 16, h => absurd h (by omega)
theorem sumKI : SumOk Try.prog 78 runKy := sum_pure0 sxApart sxMixed extK_ok (N := 20) (d := 8) fun args H t hr => by
  unfold runKy at hr
  split at hr
  · rename_i n
    simp only [Option.some.injEq, Prod.mk.injEq] at hr
    obtain ⟨rfl, hn⟩ := hr
    exact ⟨rfl, rfl, rfl, noL, fun _ _ _ _ => noL_ok, _, keyI n (by simpa [Nat.blt_eq] using hn), rfl⟩
  · cases hr
noncomputable def runRt : List AV → List Blk → Option Lf := fun args _ => match args with
  | [.flt .f32 x] => some (.leaf (.flt .f32 (rt x), none), rok x)
  | _ => none
theorem sumRS : SumOk Try.prog 100 runRt := sum_pure0 sxApart sxMixed extK_ok (N := 20) (d := 8) fun args H t hr => by
  unfold runRt at hr
  split at hr
  · rename_i x
    simp only [Option.some.injEq, Prod.mk.injEq] at hr
    obtain ⟨rfl, hx⟩ := hr
    have h : evF Try.prog extK noL 20 8 100 [.flt .f32 x] [] = some (.leaf (.flt .f32 (rt x), none), andB (rok x) true) := by kernel_rfl
    rw [hx] at h
    exact ⟨rfl, rfl, rfl, noL, fun _ _ _ _ => noL_ok, _, h, rfl⟩
  · cases hr
theorem sumRI : SumOk Try.prog 94 runRt := sum_pure0 sxApart sxMixed extK_ok (N := 20) (d := 8) fun args H t hr => by
  unfold runRt at hr
  split at hr
  · rename_i x
    simp only [Option.some.injEq, Prod.mk.injEq] at hr
    obtain ⟨rfl, hx⟩ := hr
    have h : evF Try.prog extK noL 20 8 94 [.flt .f32 x] [] = some (.leaf (.flt .f32 (rt x), none), andB (rok x) true) := by kernel_rfl
    rw [hx] at h
    exact ⟨rfl, rfl, rfl, noL, fun _ _ _ _ => noL_ok, _, h, rfl⟩
  · cases hr
noncomputable def rK (f : Nat → Option Nat) : CallerT := addK 97 runKy (addK 78 runKy (addK 100 runRt (addK 94 runRt (oK f finK))))
theorem rK_ok (f : Nat → Option Nat) : CallerTOk Try.prog (rK f) := addK_ok sumKS (addK_ok sumKI (addK_ok sumRS (addK_ok sumRI (oK_ok f finK_ok))))

-- the roots, row by row
noncomputable def Fk (f : Nat → Option Nat) (n j : Nat) : Option Nat := bif Nat.blt (j / 16) n then rF f j else some 0
def z256 : List AV := c256 fun _ => some 0
def cR (q : Nat → Bool) : Nat → Nat → Bool
  | 0, _ => true
  | m + 1, w => andB (q w) (cR q m (w + 1))
theorem cR_true {q : Nat → Bool} : ∀ {m w : Nat}, (∀ v, v < w + m → q v = true) → cR q m w = true
  | 0, _, _ => rfl
  | m + 1, w, h => by
    unfold cR
    rw [h w (by omega), cR_true (m := m) (w := w + 1) (fun v hv => h v (by omega))]
    rfl
noncomputable def oRi (f : Nat → Option Nat) (n : Nat) : Bool := andB (andB (owI f) (andB (cR (fun w => rok (oN f n w)) 16 0) true)) true
noncomputable def oRs (f : Nat → Option Nat) (n : Nat) : Bool := andB (owS f) (cR (fun w => andB (rok (oN f n w)) true) 16 0)
theorem oRi_true {f : Nat → Option Nat} (h : ∀ i, i < 80 → LE 1 (f i)) (n : Nat) : oRi f n = true := by
  unfold oRi
  rw [owI_true, cR_true fun v hv => rok_true h n v (by omega)]
  rfl
theorem oRs_true {f : Nat → Option Nat} (h : ∀ i, i < 80 → LE 1 (f i)) (n : Nat) : oRs f n = true := by
  unfold oRs
  rw [owS_true, cR_true fun v hv => by rw [rok_true h n v (by omega)]; rfl]
  rfl
def SRi (f : Nat → Option Nat) (k : AV) (F : Nat → Option Nat) : St := ⟨[.junk, .ptr 0 0 0, .ptr 1 0 0, .ptr 2 0 0, .junk, .junk, k] ++ junks 11, [.one true (pcs f), .one true z256, .one true (c256 F)]⟩
def ERi (f : Nat → Option Nat) (F : Nat → Option Nat) : St := ⟨[.junk, .junk, .ptr 1 0 0, .ptr 2 0 0] ++ junks 14, [.one true (pcs f), .one true z256, .one true (c256 F)]⟩
def SRs (f : Nat → Option Nat) (k : AV) (F : Nat → Option Nat) : St := ⟨[.ptr 0 0 0, .junk, .ptr 1 0 0, .ptr 2 0 0, k] ++ junks 24, [.one false (pcs f), .one true z256, .one true (c256 F)]⟩
def ERs (f : Nat → Option Nat) (F : Nat → Option Nat) : St := ⟨[.junk, .junk, .ptr 1 0 0, .ptr 2 0 0] ++ junks 25, [.one false (pcs f), .one true z256, .one true (c256 F)]⟩
theorem sri0 (f : Nat → Option Nat) : evC JS Try.prog (callF Try.prog (rK f) 20 8) noL 20 (loopN Try.prog 69 4) (SRi f (.lit (.int .i64 0)) (Fk f 0)) (kG 0 [1, 2, 3, 6] [2, 3] none none) = some (.leaf (.nrm, SRi f (.int .i64 1) (Fk f 1)), oRi f 0) := by kernel_rfl
theorem sri1 (f : Nat → Option Nat) : evC JS Try.prog (callF Try.prog (rK f) 20 8) noL 20 (loopN Try.prog 69 4) (SRi f (.lit (.int .i64 1)) (Fk f 1)) (kG 0 [1, 2, 3, 6] [2, 3] none none) = some (.leaf (.nrm, SRi f (.int .i64 2) (Fk f 2)), oRi f 1) := by kernel_rfl
theorem sri2 (f : Nat → Option Nat) : evC JS Try.prog (callF Try.prog (rK f) 20 8) noL 20 (loopN Try.prog 69 4) (SRi f (.lit (.int .i64 2)) (Fk f 2)) (kG 0 [1, 2, 3, 6] [2, 3] none none) = some (.leaf (.nrm, SRi f (.int .i64 3) (Fk f 3)), oRi f 2) := by kernel_rfl
theorem sri3 (f : Nat → Option Nat) : evC JS Try.prog (callF Try.prog (rK f) 20 8) noL 20 (loopN Try.prog 69 4) (SRi f (.lit (.int .i64 3)) (Fk f 3)) (kG 0 [1, 2, 3, 6] [2, 3] none none) = some (.leaf (.nrm, SRi f (.int .i64 4) (Fk f 4)), oRi f 3) := by kernel_rfl
theorem sri4 (f : Nat → Option Nat) : evC JS Try.prog (callF Try.prog (rK f) 20 8) noL 20 (loopN Try.prog 69 4) (SRi f (.lit (.int .i64 4)) (Fk f 4)) (kG 0 [1, 2, 3, 6] [2, 3] none none) = some (.leaf (.nrm, SRi f (.int .i64 5) (Fk f 5)), oRi f 4) := by kernel_rfl
theorem sri5 (f : Nat → Option Nat) : evC JS Try.prog (callF Try.prog (rK f) 20 8) noL 20 (loopN Try.prog 69 4) (SRi f (.lit (.int .i64 5)) (Fk f 5)) (kG 0 [1, 2, 3, 6] [2, 3] none none) = some (.leaf (.nrm, SRi f (.int .i64 6) (Fk f 6)), oRi f 5) := by kernel_rfl
theorem sri6 (f : Nat → Option Nat) : evC JS Try.prog (callF Try.prog (rK f) 20 8) noL 20 (loopN Try.prog 69 4) (SRi f (.lit (.int .i64 6)) (Fk f 6)) (kG 0 [1, 2, 3, 6] [2, 3] none none) = some (.leaf (.nrm, SRi f (.int .i64 7) (Fk f 7)), oRi f 6) := by kernel_rfl
theorem sri7 (f : Nat → Option Nat) : evC JS Try.prog (callF Try.prog (rK f) 20 8) noL 20 (loopN Try.prog 69 4) (SRi f (.lit (.int .i64 7)) (Fk f 7)) (kG 0 [1, 2, 3, 6] [2, 3] none none) = some (.leaf (.nrm, SRi f (.int .i64 8) (Fk f 8)), oRi f 7) := by kernel_rfl
theorem sri8 (f : Nat → Option Nat) : evC JS Try.prog (callF Try.prog (rK f) 20 8) noL 20 (loopN Try.prog 69 4) (SRi f (.lit (.int .i64 8)) (Fk f 8)) (kG 0 [1, 2, 3, 6] [2, 3] none none) = some (.leaf (.nrm, SRi f (.int .i64 9) (Fk f 9)), oRi f 8) := by kernel_rfl
theorem sri9 (f : Nat → Option Nat) : evC JS Try.prog (callF Try.prog (rK f) 20 8) noL 20 (loopN Try.prog 69 4) (SRi f (.lit (.int .i64 9)) (Fk f 9)) (kG 0 [1, 2, 3, 6] [2, 3] none none) = some (.leaf (.nrm, SRi f (.int .i64 10) (Fk f 10)), oRi f 9) := by kernel_rfl
theorem sri10 (f : Nat → Option Nat) : evC JS Try.prog (callF Try.prog (rK f) 20 8) noL 20 (loopN Try.prog 69 4) (SRi f (.lit (.int .i64 10)) (Fk f 10)) (kG 0 [1, 2, 3, 6] [2, 3] none none) = some (.leaf (.nrm, SRi f (.int .i64 11) (Fk f 11)), oRi f 10) := by kernel_rfl
theorem sri11 (f : Nat → Option Nat) : evC JS Try.prog (callF Try.prog (rK f) 20 8) noL 20 (loopN Try.prog 69 4) (SRi f (.lit (.int .i64 11)) (Fk f 11)) (kG 0 [1, 2, 3, 6] [2, 3] none none) = some (.leaf (.nrm, SRi f (.int .i64 12) (Fk f 12)), oRi f 11) := by kernel_rfl
theorem sri12 (f : Nat → Option Nat) : evC JS Try.prog (callF Try.prog (rK f) 20 8) noL 20 (loopN Try.prog 69 4) (SRi f (.lit (.int .i64 12)) (Fk f 12)) (kG 0 [1, 2, 3, 6] [2, 3] none none) = some (.leaf (.nrm, SRi f (.int .i64 13) (Fk f 13)), oRi f 12) := by kernel_rfl
theorem sri13 (f : Nat → Option Nat) : evC JS Try.prog (callF Try.prog (rK f) 20 8) noL 20 (loopN Try.prog 69 4) (SRi f (.lit (.int .i64 13)) (Fk f 13)) (kG 0 [1, 2, 3, 6] [2, 3] none none) = some (.leaf (.nrm, SRi f (.int .i64 14) (Fk f 14)), oRi f 13) := by kernel_rfl
theorem sri14 (f : Nat → Option Nat) : evC JS Try.prog (callF Try.prog (rK f) 20 8) noL 20 (loopN Try.prog 69 4) (SRi f (.lit (.int .i64 14)) (Fk f 14)) (kG 0 [1, 2, 3, 6] [2, 3] none none) = some (.leaf (.nrm, SRi f (.int .i64 15) (Fk f 15)), oRi f 14) := by kernel_rfl
theorem sri15 (f : Nat → Option Nat) : evC JS Try.prog (callF Try.prog (rK f) 20 8) noL 20 (loopN Try.prog 69 4) (SRi f (.lit (.int .i64 15)) (Fk f 15)) (kG 0 [1, 2, 3, 6] [2, 3] none none) = some (.leaf (.nrm, SRi f (.int .i64 16) (Fk f 16)), oRi f 15) := by kernel_rfl
theorem sri16 (f : Nat → Option Nat) : evC JS Try.prog (callF Try.prog (rK f) 20 8) noL 20 (loopN Try.prog 69 4) (SRi f (.lit (.int .i64 16)) (Fk f 16)) (kG 0 [1, 2, 3, 6] [2, 3] none none) = some (.leaf (.ext 0, ERi f (rF f)), true) := by kernel_rfl
theorem loopRi {f : Nat → Option Nat} (h : ∀ i, i < 80 → LE 1 (f i)) : LoopOk Try.prog 0 (loopN Try.prog 69 4) (SRi f (.int .i64 0) (fun _ => some 0)) (.leaf (.ext 0, ERi f (rF f))) := by
  have key := loop_all (callF_ok sxApart sxMixed (rK_ok f) (N := 20) 8) sxMixed (body := loopN Try.prog 69 4) (L := noL) (N := 20) (B := 0) (fun _ _ _ _ h => by cases h) [1, 2, 3, 6] [2, 3] none none
    (fun k => SRi f (.lit (.int .i64 (Int.ofNat k))) (Fk f k)) 16 (.ext 0, ERi f (rF f)) (fun h => by cases h)
    (fun k hk => by
      rcases k with _ | _ | _ | _ | _ | _ | _ | _ | _ | _ | _ | _ | _ | _ | _ | _ | k
      · exact ⟨_, by rw [← oRi_true h 0]; exact sri0 f, rfl, rfl, HLe.refl _⟩
      · exact ⟨_, by rw [← oRi_true h 1]; exact sri1 f, rfl, rfl, HLe.refl _⟩
      · exact ⟨_, by rw [← oRi_true h 2]; exact sri2 f, rfl, rfl, HLe.refl _⟩
      · exact ⟨_, by rw [← oRi_true h 3]; exact sri3 f, rfl, rfl, HLe.refl _⟩
      · exact ⟨_, by rw [← oRi_true h 4]; exact sri4 f, rfl, rfl, HLe.refl _⟩
      · exact ⟨_, by rw [← oRi_true h 5]; exact sri5 f, rfl, rfl, HLe.refl _⟩
      · exact ⟨_, by rw [← oRi_true h 6]; exact sri6 f, rfl, rfl, HLe.refl _⟩
      · exact ⟨_, by rw [← oRi_true h 7]; exact sri7 f, rfl, rfl, HLe.refl _⟩
      · exact ⟨_, by rw [← oRi_true h 8]; exact sri8 f, rfl, rfl, HLe.refl _⟩
      · exact ⟨_, by rw [← oRi_true h 9]; exact sri9 f, rfl, rfl, HLe.refl _⟩
      · exact ⟨_, by rw [← oRi_true h 10]; exact sri10 f, rfl, rfl, HLe.refl _⟩
      · exact ⟨_, by rw [← oRi_true h 11]; exact sri11 f, rfl, rfl, HLe.refl _⟩
      · exact ⟨_, by rw [← oRi_true h 12]; exact sri12 f, rfl, rfl, HLe.refl _⟩
      · exact ⟨_, by rw [← oRi_true h 13]; exact sri13 f, rfl, rfl, HLe.refl _⟩
      · exact ⟨_, by rw [← oRi_true h 14]; exact sri14 f, rfl, rfl, HLe.refl _⟩
      · exact ⟨_, by rw [← oRi_true h 15]; exact sri15 f, rfl, rfl, HLe.refl _⟩
      · omega)
    ⟨_, sri16 f, XLe.refl _⟩
  exact key.from ⟨rfl, HLe.refl _⟩
theorem srs0 (f : Nat → Option Nat) : evC JS Try.prog (callF Try.prog (rK f) 20 8) noL 20 (loopN Try.prog 80 4) (SRs f (.lit (.int .i64 0)) (Fk f 0)) (kG 1 [0, 2, 3, 4] [2, 3] (some [0, 1, 2]) (some [0, 1, 2])) = some (.leaf (.nrm, SRs f (.int .i64 1) (Fk f 1)), oRs f 0) := by kernel_rfl
theorem srs1 (f : Nat → Option Nat) : evC JS Try.prog (callF Try.prog (rK f) 20 8) noL 20 (loopN Try.prog 80 4) (SRs f (.lit (.int .i64 1)) (Fk f 1)) (kG 1 [0, 2, 3, 4] [2, 3] (some [0, 1, 2]) (some [0, 1, 2])) = some (.leaf (.nrm, SRs f (.int .i64 2) (Fk f 2)), oRs f 1) := by kernel_rfl
theorem srs2 (f : Nat → Option Nat) : evC JS Try.prog (callF Try.prog (rK f) 20 8) noL 20 (loopN Try.prog 80 4) (SRs f (.lit (.int .i64 2)) (Fk f 2)) (kG 1 [0, 2, 3, 4] [2, 3] (some [0, 1, 2]) (some [0, 1, 2])) = some (.leaf (.nrm, SRs f (.int .i64 3) (Fk f 3)), oRs f 2) := by kernel_rfl
theorem srs3 (f : Nat → Option Nat) : evC JS Try.prog (callF Try.prog (rK f) 20 8) noL 20 (loopN Try.prog 80 4) (SRs f (.lit (.int .i64 3)) (Fk f 3)) (kG 1 [0, 2, 3, 4] [2, 3] (some [0, 1, 2]) (some [0, 1, 2])) = some (.leaf (.nrm, SRs f (.int .i64 4) (Fk f 4)), oRs f 3) := by kernel_rfl
theorem srs4 (f : Nat → Option Nat) : evC JS Try.prog (callF Try.prog (rK f) 20 8) noL 20 (loopN Try.prog 80 4) (SRs f (.lit (.int .i64 4)) (Fk f 4)) (kG 1 [0, 2, 3, 4] [2, 3] (some [0, 1, 2]) (some [0, 1, 2])) = some (.leaf (.nrm, SRs f (.int .i64 5) (Fk f 5)), oRs f 4) := by kernel_rfl
theorem srs5 (f : Nat → Option Nat) : evC JS Try.prog (callF Try.prog (rK f) 20 8) noL 20 (loopN Try.prog 80 4) (SRs f (.lit (.int .i64 5)) (Fk f 5)) (kG 1 [0, 2, 3, 4] [2, 3] (some [0, 1, 2]) (some [0, 1, 2])) = some (.leaf (.nrm, SRs f (.int .i64 6) (Fk f 6)), oRs f 5) := by kernel_rfl
theorem srs6 (f : Nat → Option Nat) : evC JS Try.prog (callF Try.prog (rK f) 20 8) noL 20 (loopN Try.prog 80 4) (SRs f (.lit (.int .i64 6)) (Fk f 6)) (kG 1 [0, 2, 3, 4] [2, 3] (some [0, 1, 2]) (some [0, 1, 2])) = some (.leaf (.nrm, SRs f (.int .i64 7) (Fk f 7)), oRs f 6) := by kernel_rfl
theorem srs7 (f : Nat → Option Nat) : evC JS Try.prog (callF Try.prog (rK f) 20 8) noL 20 (loopN Try.prog 80 4) (SRs f (.lit (.int .i64 7)) (Fk f 7)) (kG 1 [0, 2, 3, 4] [2, 3] (some [0, 1, 2]) (some [0, 1, 2])) = some (.leaf (.nrm, SRs f (.int .i64 8) (Fk f 8)), oRs f 7) := by kernel_rfl
theorem srs8 (f : Nat → Option Nat) : evC JS Try.prog (callF Try.prog (rK f) 20 8) noL 20 (loopN Try.prog 80 4) (SRs f (.lit (.int .i64 8)) (Fk f 8)) (kG 1 [0, 2, 3, 4] [2, 3] (some [0, 1, 2]) (some [0, 1, 2])) = some (.leaf (.nrm, SRs f (.int .i64 9) (Fk f 9)), oRs f 8) := by kernel_rfl
theorem srs9 (f : Nat → Option Nat) : evC JS Try.prog (callF Try.prog (rK f) 20 8) noL 20 (loopN Try.prog 80 4) (SRs f (.lit (.int .i64 9)) (Fk f 9)) (kG 1 [0, 2, 3, 4] [2, 3] (some [0, 1, 2]) (some [0, 1, 2])) = some (.leaf (.nrm, SRs f (.int .i64 10) (Fk f 10)), oRs f 9) := by kernel_rfl
theorem srs10 (f : Nat → Option Nat) : evC JS Try.prog (callF Try.prog (rK f) 20 8) noL 20 (loopN Try.prog 80 4) (SRs f (.lit (.int .i64 10)) (Fk f 10)) (kG 1 [0, 2, 3, 4] [2, 3] (some [0, 1, 2]) (some [0, 1, 2])) = some (.leaf (.nrm, SRs f (.int .i64 11) (Fk f 11)), oRs f 10) := by kernel_rfl
theorem srs11 (f : Nat → Option Nat) : evC JS Try.prog (callF Try.prog (rK f) 20 8) noL 20 (loopN Try.prog 80 4) (SRs f (.lit (.int .i64 11)) (Fk f 11)) (kG 1 [0, 2, 3, 4] [2, 3] (some [0, 1, 2]) (some [0, 1, 2])) = some (.leaf (.nrm, SRs f (.int .i64 12) (Fk f 12)), oRs f 11) := by kernel_rfl
theorem srs12 (f : Nat → Option Nat) : evC JS Try.prog (callF Try.prog (rK f) 20 8) noL 20 (loopN Try.prog 80 4) (SRs f (.lit (.int .i64 12)) (Fk f 12)) (kG 1 [0, 2, 3, 4] [2, 3] (some [0, 1, 2]) (some [0, 1, 2])) = some (.leaf (.nrm, SRs f (.int .i64 13) (Fk f 13)), oRs f 12) := by kernel_rfl
theorem srs13 (f : Nat → Option Nat) : evC JS Try.prog (callF Try.prog (rK f) 20 8) noL 20 (loopN Try.prog 80 4) (SRs f (.lit (.int .i64 13)) (Fk f 13)) (kG 1 [0, 2, 3, 4] [2, 3] (some [0, 1, 2]) (some [0, 1, 2])) = some (.leaf (.nrm, SRs f (.int .i64 14) (Fk f 14)), oRs f 13) := by kernel_rfl
theorem srs14 (f : Nat → Option Nat) : evC JS Try.prog (callF Try.prog (rK f) 20 8) noL 20 (loopN Try.prog 80 4) (SRs f (.lit (.int .i64 14)) (Fk f 14)) (kG 1 [0, 2, 3, 4] [2, 3] (some [0, 1, 2]) (some [0, 1, 2])) = some (.leaf (.nrm, SRs f (.int .i64 15) (Fk f 15)), oRs f 14) := by kernel_rfl
theorem srs15 (f : Nat → Option Nat) : evC JS Try.prog (callF Try.prog (rK f) 20 8) noL 20 (loopN Try.prog 80 4) (SRs f (.lit (.int .i64 15)) (Fk f 15)) (kG 1 [0, 2, 3, 4] [2, 3] (some [0, 1, 2]) (some [0, 1, 2])) = some (.leaf (.nrm, SRs f (.int .i64 16) (Fk f 16)), oRs f 15) := by kernel_rfl
theorem srs16 (f : Nat → Option Nat) : evC JS Try.prog (callF Try.prog (rK f) 20 8) noL 20 (loopN Try.prog 80 4) (SRs f (.lit (.int .i64 16)) (Fk f 16)) (kG 1 [0, 2, 3, 4] [2, 3] (some [0, 1, 2]) (some [0, 1, 2])) = some (.leaf (.ext 0, ERs f (rF f)), true) := by kernel_rfl
theorem loopRs {f : Nat → Option Nat} (h : ∀ i, i < 80 → LE 1 (f i)) : LoopOk Try.prog 1 (loopN Try.prog 80 4) (SRs f (.int .i64 0) (fun _ => some 0)) (.leaf (.ext 0, ERs f (rF f))) := by
  have key := loop_all (callF_ok sxApart sxMixed (rK_ok f) (N := 20) 8) sxMixed (body := loopN Try.prog 80 4) (L := noL) (N := 20) (B := 1) (fun _ _ _ _ h => by cases h) [0, 2, 3, 4] [2, 3] (some [0, 1, 2]) (some [0, 1, 2])
    (fun k => SRs f (.lit (.int .i64 (Int.ofNat k))) (Fk f k)) 16 (.ext 0, ERs f (rF f)) (fun h => by cases h)
    (fun k hk => by
      rcases k with _ | _ | _ | _ | _ | _ | _ | _ | _ | _ | _ | _ | _ | _ | _ | _ | k
      · exact ⟨_, by rw [← oRs_true h 0]; exact srs0 f, rfl, rfl, HLe.refl _⟩
      · exact ⟨_, by rw [← oRs_true h 1]; exact srs1 f, rfl, rfl, HLe.refl _⟩
      · exact ⟨_, by rw [← oRs_true h 2]; exact srs2 f, rfl, rfl, HLe.refl _⟩
      · exact ⟨_, by rw [← oRs_true h 3]; exact srs3 f, rfl, rfl, HLe.refl _⟩
      · exact ⟨_, by rw [← oRs_true h 4]; exact srs4 f, rfl, rfl, HLe.refl _⟩
      · exact ⟨_, by rw [← oRs_true h 5]; exact srs5 f, rfl, rfl, HLe.refl _⟩
      · exact ⟨_, by rw [← oRs_true h 6]; exact srs6 f, rfl, rfl, HLe.refl _⟩
      · exact ⟨_, by rw [← oRs_true h 7]; exact srs7 f, rfl, rfl, HLe.refl _⟩
      · exact ⟨_, by rw [← oRs_true h 8]; exact srs8 f, rfl, rfl, HLe.refl _⟩
      · exact ⟨_, by rw [← oRs_true h 9]; exact srs9 f, rfl, rfl, HLe.refl _⟩
      · exact ⟨_, by rw [← oRs_true h 10]; exact srs10 f, rfl, rfl, HLe.refl _⟩
      · exact ⟨_, by rw [← oRs_true h 11]; exact srs11 f, rfl, rfl, HLe.refl _⟩
      · exact ⟨_, by rw [← oRs_true h 12]; exact srs12 f, rfl, rfl, HLe.refl _⟩
      · exact ⟨_, by rw [← oRs_true h 13]; exact srs13 f, rfl, rfl, HLe.refl _⟩
      · exact ⟨_, by rw [← oRs_true h 14]; exact srs14 f, rfl, rfl, HLe.refl _⟩
      · exact ⟨_, by rw [← oRs_true h 15]; exact srs15 f, rfl, rfl, HLe.refl _⟩
      · omega)
    ⟨_, srs16 f, XLe.refl _⟩
  exact key.from ⟨rfl, HLe.refl _⟩
end Go.Proofs.Ytpnjimpiphbcfaa.B5
