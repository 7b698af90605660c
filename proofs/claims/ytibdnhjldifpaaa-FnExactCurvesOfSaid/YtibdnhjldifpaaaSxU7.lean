/- Curves of samples: the functions as a whole. -/
import Derived.Test.YtibdnhjldifpaaaSxU6
set_option linter.unusedVariables false
set_option linter.unusedSimpArgs false
set_option maxRecDepth 100000
namespace Go.Proofs.Ytibdnhjldifpaaa.U6
open Go.Sx Go.Sx.C6 Go.RowKit Go.Proofs.Ytibdnhjldifpaaa.S6 Go.Proofs.Ytibdnhjldifpaaa.G6 Go.Proofs.Ytibdnhjldifpaaa.V6 Go.Proofs.Ytibdnhjldifpaaa.H6

-- the whole
noncomputable def okk (n : Nat) (T : Nat → Int) (g : Gg) : Bool := allB n fun k => pos g (T k)
noncomputable def mnv (dd : Int → Int → Int) (n : Nat) (T : Nat → Int) (C : Nat → Nat → Int) (g : Gg) (i : Nat) : Option Nat := fop .quo .f32 (fs (cv dd T C g i) n) (fofI .f32 n)
noncomputable def spS (n : Nat) (T : Nat → Int) (C : Nat → Nat → Int) (g : Gg) (i : Nat) : Option Nat := fop .sub .f32 (msS (cv d64 T C g i) n) (lsS (cv d64 T C g i) n)
noncomputable def spI (n : Nat) (T : Nat → Int) (C : Nat → Nat → Int) (g : Gg) (i : Nat) : Option Nat := fop .sub .f32 (msI (cv d32 T C g i) n) (lsI (cv d32 T C g i) n)
def lf2 (c : AV) : Tr (AV × Option (List Blk)) := .leaf (.tup [.agg z16, .agg z16, c], none)
noncomputable def TUs (n : Nat) (T : Nat → Int) (C : Nat → Nat → Int) (g : Gg) : Tr (AV × Option (List Blk)) :=
  .node (cond (!gV g) true (!V6.vS n T)) (lf2 (.lit (.int .i64 1))) (.node ((n : Int) == 0) (lf2 (.lit (.int .i64 6))) (.node (okk n T g) (.leaf (.tup [.agg (f32L (mnv d64 n T C g)), .agg (f32L (spS n T C g)), .lit (.int .i64 0)], none)) (lf2 (.int .i64 4))))
noncomputable def TUi (n : Nat) (T : Nat → Int) (C : Nat → Nat → Int) (g : Gg) : Tr (AV × Option (List Blk)) :=
  .node (!gV g) (lf2 (.lit (.int .i64 1))) (.node (sc n T != 0) (lf2 (.int .i64 (sc n T))) (.node (okk n T g) (.leaf (.tup [.agg (f32L (mnv d32 n T C g)), .agg (f32L (spI n T C g)), .lit (.int .i64 0)], none)) (lf2 (.int .i64 4))))
noncomputable def uc (n : Nat) (T : Nat → Int) (g : Gg) : Int := cond (cond (!gV g) true (!V6.vS n T)) 1 (cond ((n : Int) == 0) 6 (cond (okk n T g) 0 4))
noncomputable def ua (n : Nat) (T : Nat → Int) (C : Nat → Nat → Int) (g : Gg) (i : Nat) : Option Nat := cond (uc n T g == 0) (mnv d64 n T C g i) (some 0)
noncomputable def ub (n : Nat) (T : Nat → Int) (C : Nat → Nat → Int) (g : Gg) (i : Nat) : Option Nat := cond (uc n T g == 0) (spS n T C g i) (some 0)
def AU (n : Nat) (g : Gg) : List AV := [.agg (gF g), .slc 0 0 n]
/-- what the outer loop owes -/
def chq (n : Nat) (q : Nat → Bool) : Nat → Nat → Bool
  | 0, _ => true
  | m + 1, i => andB (inB 0 n) (andB (Nat.blt 0 n) (andB (inB 0 n) (andB (Nat.blt 0 n) (andB (inB 0 n) (andB (Nat.blt 0 n) (andB (andB (andB (Nat.blt i 16) (Nat.blt 0 n)) (q i)) (chq n q m (i + 1))))))))
theorem chq_true {n : Nat} (hn : 0 < n) {q : Nat → Bool} : ∀ {m i : Nat}, i + m ≤ 16 → (∀ j, q j = true) → chq n q m i = true
  | 0, _, _, _ => rfl
  | m + 1, i, h, hq => by
    unfold chq
    rw [show inB 0 n = true from by simp [inB]; omega, blt_lt hn, blt_lt (show i < 16 by omega), hq i, chq_true hn (m := m) (i := i + 1) (by omega) hq]
    rfl
noncomputable def mi (n : Nat) (T : Nat → Int) (C : Nat → Nat → Int) (g : Gg) (i j : Nat) : Option Nat := bif Nat.blt j i then mnv d64 n T C g j else some 0
noncomputable def si (n : Nat) (T : Nat → Int) (C : Nat → Nat → Int) (g : Gg) (i j : Nat) : Option Nat := bif Nat.blt j i then spS n T C g j else some 0
noncomputable def qB (n : Nat) (T : Nat → Int) (C : Nat → Nat → Int) (g : Gg) (i : Nat) : Bool := deqS (Sb n T C g (cv d64 T C g) (mi n T C g i) (si n T C g i) i (cv d64 T C g i 0) (cv d64 T C g i 0) (cv d64 T C g i 0) 1) (Sb n T C g (cv d64 T C g) (mi n T C g i) (si n T C g i) i (cv d64 T C g i 0) (cv d64 T C g i 0) (cv d64 T C g i 0) 1)
noncomputable def uK (n : Nat) (T : Nat → Int) (C : Nat → Nat → Int) (g : Gg) : CallerT := addK 60 (runGS g) (addK 44 (runGI g) (V6.vK n T C extK))
theorem uK_ok (n : Nat) (T : Nat → Int) (C : Nat → Nat → Int) (g : Gg) : CallerTOk Try.prog (uK n T C g) := addK_ok (sumGS g) (addK_ok (sumGI g) (V6.vK_ok n T C extK_ok))
noncomputable def oUs (n : Nat) (v u k q1 q2 q3 c : Bool) : Bool := andB q1 (andB (impB (!!v) (andB q2 true)) (impB (!(cond (!v) true (!u))) (impB (!((n : Int) == 0)) (andB q3 (andB (impB k c) true)))))
noncomputable def oUi (c : Int) (v q1 q2 q3 : Bool) : Bool := andB q1 (impB (!!v) (andB (andB q2 true) (impB (!(c != 0)) (andB q3 true))))
theorem evUs (n : Nat) (T : Nat → Int) (C : Nat → Nat → Int) (g : Gg) : evF Try.prog (uK n T C g) (LB n T C g (cv d64 T C g)) 20 8 13 (AU n g) (roH n T C) = some (TUs n T C g,
    oUs n (gV g) (V6.vS n T) (okk n T g) (ogS g) (okH n T C) (deqS (Sa n T C g zR 0 0) (Sa n T C g zR 0 0)) (chq n (qB n T C g) 16 0)) := by kernel_rfl
theorem evUi (n : Nat) (T : Nat → Int) (C : Nat → Nat → Int) (g : Gg) : evF Try.prog (uK n T C g) (loopAt 9 [2, 3, 4, 5, 6, 8, 9, 10, 31, 32, 33] (Sc n T C g (fun _ => some 0) (fun _ => some 0) (fun _ => some 0) 0) (tC n T C g) noL) 20 8 16 (AU n g) (roH n T C) = some (TUi n T C g,
    oUi (sc n T) (gV g) (ogI g) (okH n T C) (deqS (Sc n T C g (fun _ => some 0) (fun _ => some 0) (fun _ => some 0) 0) (Sc n T C g (fun _ => some 0) (fun _ => some 0) (fun _ => some 0) 0))) := by kernel_rfl
end Go.Proofs.Ytibdnhjldifpaaa.U6
