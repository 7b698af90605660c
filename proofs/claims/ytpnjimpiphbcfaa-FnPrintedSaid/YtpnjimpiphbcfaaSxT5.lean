/- The cover that is seen of a press of shares: contracts of the reference's function and of the program's. -/
import Derived.Test.YtpnjimpiphbcfaaSxV5
set_option linter.unusedVariables false
set_option linter.unusedSimpArgs false
set_option exponentiation.threshold 3000
set_option maxRecDepth 100000
namespace Go.Proofs.Ytpnjimpiphbcfaa.T5
open Go.Sx Go.Sx.R0 Go.Sx.C5 Go.Sx.C1 Go.Sx.Fl Go.Proofs.Ytpnjimpiphbcfaa.O5 Go.Proofs.Ytpnjimpiphbcfaa.V5

noncomputable def s16 (f : Nat → Option Nat) : Option Nat := fop .add .f32 (fop .add .f32 (fop .add .f32 (fop .add .f32 (fop .add .f32 (fop .add .f32 (fop .add .f32 (fop .add .f32 (fop .add .f32 (fop .add .f32 (fop .add .f32 (fop .add .f32 (fop .add .f32 (fop .add .f32 (fop .add .f32 (f (0 + 0)) (f (0 + 1))) (f (0 + 2))) (f (0 + 3))) (f (0 + 4))) (f (0 + 5))) (f (0 + 6))) (f (0 + 7))) (f (0 + 8))) (f (0 + 9))) (f (0 + 10))) (f (0 + 11))) (f (0 + 12))) (f (0 + 13))) (f (0 + 14))) (f (0 + 15))
noncomputable def bel (f : Nat → Option Nat) (n : Nat) : Option Nat := fop .sub .f32 (s16 f) (s16 (ov f (Nat.beq n 0) (Nat.beq n 1) (Nat.beq n 2) (Nat.beq n 3)))
noncomputable def qu (f m : Nat → Option Nat) (n : Nat) : Option Nat := fop .quo .f32 (fop .sub .f32 (s16 f) (s16 m)) (bel f n)
noncomputable def bad (f m : Nat → Option Nat) (n : Nat) : Bool := cond (fcmp .eql .f32 (bel f n) (some 0)) true (fcmp .neq .f32 (qu f m n) (qu f m n))
noncomputable def lo (q : Option Nat) : Option Nat := cond (fcmp .lss .f32 q (some 0)) (some 0) q
noncomputable def hi (q : Option Nat) : Option Nat := cond (fcmp .gtr .f32 q (some 1065353216)) (some 1065353216) q
def lf (c : Int) : Tr (AV × Option (List Blk)) := .leaf (.tup [.flt .f32 (some 0), .lit (.int .i64 c)], none)
noncomputable def TS (f m : Nat → Option Nat) (n : Nat) : Tr (AV × Option (List Blk)) :=
  .node (!pV f) (lf 1) (.node false (lf 2) (.node (bad f m n) (lf 4) (.leaf (.tup [.flt .f32 (hi (lo (qu f m n))), .lit (.int .i64 0)], none))))
noncomputable def TI (f m : Nat → Option Nat) (n : Nat) : Tr (AV × Option (List Blk)) :=
  .node (!pV f) (lf 1) (.node false (lf 2) (.node (bad f m n) (lf 4) (.node (fcmp .lss .f32 (qu f m n) (some 0)) (lf 0) (.leaf (.tup [.flt .f32 (hi (qu f m n)), .lit (.int .i64 0)], none)))))
theorem hi0 : hi (some 0) = some 0 := by
  unfold hi
  have : fcmp .gtr .f32 (some 0) (some 1065353216) = false := by rw [fcmp_eq]; decide +kernel
  rw [this]; rfl
noncomputable def sl (f : Nat → Option Nat) (q0 q1 : Bool) : Bool := andB q0 (impB (!!pV f) (andB (andB q1 true) true))
theorem sl_true (f : Nat → Option Nat) {q0 q1 : Bool} (h0 : q0 = true) (h1 : q1 = true) : sl f q0 q1 = true := by subst h0 h1; unfold sl; cases pV f <;> rfl
theorem hS0 (f m : Nat → Option Nat) : evF Try.prog (oK f finK) noL 20 8 31 [.agg (pcs f), .int .i64 0, .agg (cF m)] [] = some (TS f m 0, sl f (ovwS f) (owS f)) := by kernel_rfl
theorem hI0 (f m : Nat → Option Nat) : evF Try.prog (oK f finK) noL 20 8 30 [.agg (pcs f), .int .i64 0, .agg (cF m)] [] = some (TI f m 0, sl f (ovwI f) (owI f)) := by kernel_rfl
theorem hS1 (f m : Nat → Option Nat) : evF Try.prog (oK f finK) noL 20 8 31 [.agg (pcs f), .int .i64 1, .agg (cF m)] [] = some (TS f m 1, sl f (ovwS f) (owS f)) := by kernel_rfl
theorem hI1 (f m : Nat → Option Nat) : evF Try.prog (oK f finK) noL 20 8 30 [.agg (pcs f), .int .i64 1, .agg (cF m)] [] = some (TI f m 1, sl f (ovwI f) (owI f)) := by kernel_rfl
theorem hS2 (f m : Nat → Option Nat) : evF Try.prog (oK f finK) noL 20 8 31 [.agg (pcs f), .int .i64 2, .agg (cF m)] [] = some (TS f m 2, sl f (ovwS f) (owS f)) := by kernel_rfl
theorem hI2 (f m : Nat → Option Nat) : evF Try.prog (oK f finK) noL 20 8 30 [.agg (pcs f), .int .i64 2, .agg (cF m)] [] = some (TI f m 2, sl f (ovwI f) (owI f)) := by kernel_rfl
theorem hS3 (f m : Nat → Option Nat) : evF Try.prog (oK f finK) noL 20 8 31 [.agg (pcs f), .int .i64 3, .agg (cF m)] [] = some (TS f m 3, sl f (ovwS f) (owS f)) := by kernel_rfl
theorem hI3 (f m : Nat → Option Nat) : evF Try.prog (oK f finK) noL 20 8 30 [.agg (pcs f), .int .i64 3, .agg (cF m)] [] = some (TI f m 3, sl f (ovwI f) (owI f)) := by kernel_rfl
noncomputable def vx (f m : Nat → Option Nat) (n : Nat) : Option Nat := cond (bad f m n) (some 0) (hi (lo (qu f m n)))
noncomputable def ve (f m : Nat → Option Nat) (n : Nat) : Int := cond (bad f m n) 4 0
theorem TS_v {f m : Nat → Option Nat} {n : Nat} (h : pV f = true) : LLe (TS f m n).get (.tup [.flt .f32 (vx f m n), .int .i64 (ve f m n)], none) := by
  unfold TS vx ve
  rw [h]
  cases bad f m n <;> exact LLe.of rfl rfl rfl
theorem TI_v {f m : Nat → Option Nat} {n : Nat} (h : pV f = true) : LLe (TI f m n).get (.tup [.flt .f32 (vx f m n), .int .i64 (ve f m n)], none) := by
  unfold TI vx ve
  rw [h]
  cases bad f m n with
  | true => exact LLe.of rfl rfl rfl
  | false =>
    cases h2 : fcmp .lss .f32 (qu f m n) (some 0)
    · have e : lo (qu f m n) = qu f m n := by unfold lo; rw [h2]; rfl
      rw [e]
      exact LLe.of rfl rfl rfl
    · have e : lo (qu f m n) = some 0 := by unfold lo; rw [h2]; rfl
      rw [e, hi0]
      exact LLe.of rfl rfl rfl
noncomputable def runCS (f m : Nat → Option Nat) (n : Nat) : List AV → List Blk → Option Lf := selRun (runAtD [.agg (pcs f), .int .i64 (Int.ofNat n), .agg (cF m)] [] (.leaf (.tup [.flt .f32 (vx f m n), .int .i64 (ve f m n)], none)) true)
noncomputable def okCS (f m : Nat → Option Nat) (n : Nat) : Bool := andB (deq [.agg (pcs f), .int .i64 (Int.ofNat n), .agg (cF m)] [.agg (pcs f), .int .i64 (Int.ofNat n), .agg (cF m)]) (andB (deqH [] []) true)
theorem okCS_true (f m : Nat → Option Nat) (n : Nat) : okCS f m n = true := by unfold okCS; rw [deq_self, deqH_self]; rfl
theorem csS {f m : Nat → Option Nat} {n : Nat} (hf : Sh f) (hn : n < 4) : SumOk Try.prog 31 (runCS f m n) := sum_atD sxApart sxMixed (oK_ok f finK_ok) noL (N := 20) (d := 8) fun _ => by
  rcases n with _ | _ | _ | _ | n
  · have h := hS0 f m; rw [sl_true f (ovwS_true f) (owS_true f)] at h; exact ⟨noL_all, _, h, TS_v (pV_true hf.p hf.g)⟩
  · have h := hS1 f m; rw [sl_true f (ovwS_true f) (owS_true f)] at h; exact ⟨noL_all, _, h, TS_v (pV_true hf.p hf.g)⟩
  · have h := hS2 f m; rw [sl_true f (ovwS_true f) (owS_true f)] at h; exact ⟨noL_all, _, h, TS_v (pV_true hf.p hf.g)⟩
  · have h := hS3 f m; rw [sl_true f (ovwS_true f) (owS_true f)] at h; exact ⟨noL_all, _, h, TS_v (pV_true hf.p hf.g)⟩
  · omega
theorem csI {f m : Nat → Option Nat} {n : Nat} (hf : Sh f) (hn : n < 4) : SumOk Try.prog 30 (runCS f m n) := sum_atD sxApart sxMixed (oK_ok f finK_ok) noL (N := 20) (d := 8) fun _ => by
  rcases n with _ | _ | _ | _ | n
  · have h := hI0 f m; rw [sl_true f (ovwI_true f) (owI_true f)] at h; exact ⟨noL_all, _, h, TI_v (pV_true hf.p hf.g)⟩
  · have h := hI1 f m; rw [sl_true f (ovwI_true f) (owI_true f)] at h; exact ⟨noL_all, _, h, TI_v (pV_true hf.p hf.g)⟩
  · have h := hI2 f m; rw [sl_true f (ovwI_true f) (owI_true f)] at h; exact ⟨noL_all, _, h, TI_v (pV_true hf.p hf.g)⟩
  · have h := hI3 f m; rw [sl_true f (ovwI_true f) (owI_true f)] at h; exact ⟨noL_all, _, h, TI_v (pV_true hf.p hf.g)⟩
  · omega
-- the cover with its gains
def z4 : AV := .agg (List.replicate 4 (.flt .f32 (some 0)))
noncomputable def cg (f c : Nat → Option Nat) : List AV := [.flt .f32 (grow (f 80) (c 0)), .flt .f32 (grow (f 80) (c 1)), .flt .f32 (grow (f 80) (c 2)), .flt .f32 (grow (f 80) (c 3))]
noncomputable def TCg (f c : Nat → Option Nat) : Tr (AV × Option (List Blk)) :=
  .node (cond (!pVI f) true (!coI c)) (.leaf (.tup [z4, .lit (.int .i64 1)], none)) (.leaf (.tup [.agg (cg f c), .lit (.int .i64 0)], none))
theorem eCg (f c : Nat → Option Nat) : evF Try.prog extK noL 20 8 28 [.agg (pcs f), .agg (Q5.cv c)] [] = some (TCg f c, true) := by kernel_rfl
noncomputable def runCG (f c : Nat → Option Nat) : List AV → List Blk → Option Lf := selRun (runAtD [.agg (pcs f), .agg (Q5.cv c)] [] (.leaf (.tup [.agg (cg f c), .int .i64 0], none)) true)
theorem cgI {f c : Nat → Option Nat} (hf : Sh f) (hc : ShC c) : SumOk Try.prog 28 (runCG f c) := sum_atD sxApart sxMixed extK_ok noL (N := 20) (d := 8) fun _ => by
  have h := eCg f c
  refine ⟨noL_all, _, h, ?_⟩
  have hco : coI c = co c := covI_cov _ _ _ _
  unfold TCg
  rw [pVI_pV, pV_true hf.p hf.g, hco, co_true hc]
  exact LLe.of rfl rfl rfl
end Go.Proofs.Ytpnjimpiphbcfaa.T5
