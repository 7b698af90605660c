/- Texts of one claim, put together. -/
import Derived.Test.YtpnjimpiphbcfaaSxQ5
import Derived.Test.YtpnjimpiphbcfaaSxR0
set_option linter.unusedVariables false
set_option linter.unusedSimpArgs false
set_option exponentiation.threshold 3000
set_option maxRecDepth 100000
namespace Go.Proofs.Ytpnjimpiphbcfaa.V5
open Go.Sx Go.Sx.R0 Go.Sx.C5 Go.Sx.C1 Go.Sx.Fl Go.Proofs.Ytpnjimpiphbcfaa.O5 Go.Proofs.Ytpnjimpiphbcfaa.B5 Go.Proofs.Ytpnjimpiphbcfaa.Q5

theorem sumPi (f c R : Nat → Option Nat) : SumOk Try.prog 71 (runPi f c R) := sum_atH sxApart sxMixed kyK_ok (LPi f c R) (N := 20) (d := 8) fun _ => by
  refine ⟨loopAt_all (B := 1) (by decide +kernel) (loopPi f c R (aF f c)) noL_all, _, ?_, LLe.refl _⟩
  have h : evF Try.prog kyK (LPi f c R) 20 8 71 (aPi f c) (hPi R) = some (.leaf (.agg (cF (pr f c R)), none), andB (deqS (SPi f c R (aF f c) (.int .i64 0) (fun _ => some 0)) (SPi f c R (aF f c) (.int .i64 0) (fun _ => some 0))) true) := by kernel_rfl
  rw [deqS_self] at h
  exact h
theorem sumRs' {f : Nat → Option Nat} (hF : ∀ i, i < 80 → LE 1 (f i)) : SumOk Try.prog 80 (runRs f) := sum_atH sxApart sxMixed (rK_ok f) (LRs f) (N := 20) (d := 8) fun hg => by
  refine ⟨loopAt_all (B := 1) (by decide +kernel) (loopRs hF) noL_all, _, ?_, LLe.refl _⟩
  have h : evF Try.prog (rK f) (LRs f) 20 8 80 [.ptr 0 0 0] (pH f) = some (.leaf (.agg (c256 (rF f)), none), andB (deqS (SRs f (.int .i64 0) (fun _ => some 0)) (SRs f (.int .i64 0) (fun _ => some 0))) true) := by kernel_rfl
  rw [deqS_self] at h
  exact h
theorem sumRi' {f : Nat → Option Nat} (hF : ∀ i, i < 80 → LE 1 (f i)) : SumOk Try.prog 69 (runRi f) := sum_atH sxApart sxMixed (rK_ok f) (LRi f) (N := 20) (d := 8) fun hg => by
  refine ⟨loopAt_all (B := 0) (by decide +kernel) (loopRi hF) noL_all, _, ?_, LLe.refl _⟩
  have h : evF Try.prog (rK f) (LRi f) 20 8 69 [.agg (pcs f)] [] = some (.leaf (.agg (c256 (rF f)), none), andB (deqS (SRi f (.int .i64 0) (fun _ => some 0)) (SRi f (.int .i64 0) (fun _ => some 0))) true) := by kernel_rfl
  rw [deqS_self] at h
  exact h
noncomputable def pK (f c : Nat → Option Nat) : CallerT := addK 60 (runVS f) (addK 34 (runVI f) (addK 80 (runRs f) (addK 69 (runRi f) (addK 81 (runPs f c (rF f)) (addK 71 (runPi f c (rF f)) finK)))))
theorem pK_ok {f : Nat → Option Nat} (c : Nat → Option Nat) (hF : ∀ i, i < 80 → LE 1 (f i)) : CallerTOk Try.prog (pK f c) := addK_ok (sumVS f) (addK_ok (sumVI f) (addK_ok (sumRs' hF) (addK_ok (sumRi' hF) (addK_ok (sumPs f c (rF f)) (addK_ok (sumPi f c (rF f)) finK_ok)))))
noncomputable def co (c : Nat → Option Nat) : Bool := cov (c 0) (c 1) (c 2) (c 3)
noncomputable def coI (c : Nat → Option Nat) : Bool := covI (c 0) (c 1) (c 2) (c 3)
noncomputable def cd (v u : Bool) : Int := cond (cond (!v) true (!u)) 1 0
noncomputable def TPs (v u : Bool) (p : Nat → Option Nat) : Tr (AV × Option (List Blk)) := .node (cd v u != 0) (.leaf (.tup [.agg zF, .int .i64 (cd v u)], none)) (.leaf (.tup [.agg (cF p), .lit (.int .i64 0)], none))
noncomputable def TPi (v u fin : Bool) (p : Nat → Option Nat) : Tr (AV × Option (List Blk)) := .node (cond (!v) true (!u)) (.leaf (.tup [.agg zF, .lit (.int .i64 1)], none)) (.node (!fin) (.leaf (.tup [.agg zF, .lit (.int .i64 4)], none)) (.leaf (.tup [.agg (cF p), .lit (.int .i64 0)], none)))
noncomputable def oPs (v u q0 q1 q2 : Bool) : Bool := andB (andB q0 true) (impB (!(cd v u != 0)) (andB q1 (andB q2 true)))
noncomputable def oPi (v u q0 q1 q2 : Bool) : Bool := andB q0 (impB (!(cond (!v) true (!u))) (andB q1 (andB q2 true)))
noncomputable def orS (f : Nat → Option Nat) : Bool := andB (deq [.ptr 0 0 0] [.ptr 0 0 0]) (andB (deqH (pH f) (pH f)) (pV f))
noncomputable def orI (f : Nat → Option Nat) : Bool := andB (deq [.agg (pcs f)] [.agg (pcs f)]) (andB (deqH [] []) (pV f))
noncomputable def opS (f c R : Nat → Option Nat) : Bool := andB (deq (aPs c) (aPs c)) (andB (deqH (hPs f R) (hPs f R)) true)
noncomputable def opI (f c R : Nat → Option Nat) : Bool := andB (deq (aPi f c) (aPi f c)) (andB (deqH (hPi R) (hPi R)) true)
theorem orS_eq (f : Nat → Option Nat) : orS f = pV f := by unfold orS; rw [deq_self, deqH_self]; rfl
theorem orI_eq (f : Nat → Option Nat) : orI f = pV f := by unfold orI; rw [deq_self, deqH_self]; rfl
theorem opS_true (f c R : Nat → Option Nat) : opS f c R = true := by unfold opS; rw [deq_self, deqH_self]; rfl
theorem opI_true (f c R : Nat → Option Nat) : opI f c R = true := by unfold opI; rw [deq_self, deqH_self]; rfl
noncomputable def fin (p : Nat → Option Nat) : Bool := !decide (0 ≤ C6.idxF (l16 p 0) 0)
theorem fin_true {p : Nat → Option Nat} (h : ∀ w, finS (p w) = true) : fin p = true := by
  unfold fin
  rw [C6.idxF_fin _ 0 (Int.le_refl 0) (by simp [l16])]
  simp [l16, C6.fLS, h]
theorem hS (f c : Nat → Option Nat) : evF Try.prog (pK f c) noL 20 8 39 [.agg (pcs f), .agg (cv c)] [] = some (TPs (pV f) (co c) (pr f c (rF f)), oPs (pV f) (co c) (ovwS f) (orS f) (opS f c (rF f))) := by kernel_rfl
theorem hI (f c : Nat → Option Nat) : evF Try.prog (pK f c) noL 20 8 29 [.agg (pcs f), .agg (cv c)] [] = some (TPi (pV f) (coI c) (fin (pr f c (rF f))) (pr f c (rF f)), oPi (pV f) (coI c) (ovwI f) (orI f) (opI f c (rF f))) := by kernel_rfl
-- shares
theorem sh_LE {o : Option Nat} (h : LE 1 o) : sh o = true := by
  obtain ⟨A, h1, h2⟩ := h
  unfold sh
  have z : NV (some 0) 0 := by have := NV_zero; rwa [Nat.zero_mul] at this
  rw [(fcmp_NV h1 z).2.2.1, (fcmp_NV h1 NV_one).2.2.2.1, decide_eq_true (show A ≥ 0 from Nat.zero_le _), decide_eq_true h2]; rfl
theorem shL_LE : ∀ {l : List (Option Nat)}, (∀ x ∈ l, LE 1 x) → shL l = true
  | [], _ => rfl
  | x :: t, h => by
    unfold shL
    rw [sh_LE (h x (by simp))]
    exact shL_LE fun y hy => h y (by simp [hy])
theorem l16_LE {f : Nat → Option Nat} {b : Nat} (h : ∀ i, i < 16 → LE 1 (f (b + i))) : shL (l16 f b) = true := shL_LE fun x hx => by
  simp only [l16, List.mem_cons, List.not_mem_nil, or_false] at hx
  rcases hx with rfl | rfl | rfl | rfl | rfl | rfl | rfl | rfl | rfl | rfl | rfl | rfl | rfl | rfl | rfl | rfl <;> exact h _ (by omega)
theorem pV_true {f : Nat → Option Nat} (h : ∀ i, i < 80 → LE 1 (f i)) (hg : LE 1 (f 80)) : pV f = true := by
  unfold pV pS
  rw [l16_LE (b := 16) fun i hi => h _ (by omega), l16_LE (b := 32) fun i hi => h _ (by omega), l16_LE (b := 48) fun i hi => h _ (by omega), l16_LE (b := 64) fun i hi => h _ (by omega), l16_LE (b := 0) fun i hi => h _ (by omega), sh_LE hg]; rfl
theorem co_true {c : Nat → Option Nat} (h : ∀ i, i < 4 → LE 1 (c i)) : co c = true := by
  unfold co cov
  rw [sh_LE (h 0 (by omega)), sh_LE (h 1 (by omega)), sh_LE (h 2 (by omega)), sh_LE (h 3 (by omega))]; rfl
/-- a press and a cover of shares -/
structure Sh (f : Nat → Option Nat) : Prop where
  p : ∀ i, i < 80 → LE 1 (f i)
  g : LE 1 (f 80)
def ShC (c : Nat → Option Nat) : Prop := ∀ i, i < 4 → LE 1 (c i)
noncomputable def runPC (f c : Nat → Option Nat) : List AV → List Blk → Option Lf := selRun (runAtD [.agg (pcs f), .agg (cv c)] [] (.leaf (.tup [.agg (cF (pr f c (rF f))), .int .i64 0], none)) true)
noncomputable def okPC (f c : Nat → Option Nat) : Bool := andB (deq [.agg (pcs f), .agg (cv c)] [.agg (pcs f), .agg (cv c)]) (andB (deqH [] []) true)
theorem okPC_true (f c : Nat → Option Nat) : okPC f c = true := by unfold okPC; rw [deq_self, deqH_self]; rfl
theorem pcS {f c : Nat → Option Nat} (hf : Sh f) (hc : ShC c) : SumOk Try.prog 39 (runPC f c) := sum_atD sxApart sxMixed (pK_ok c hf.p) noL (N := 20) (d := 8) fun _ => by
  have h := hS f c
  rw [show ovwS f = true from ovwS_true f, orS_eq, opS_true, pV_true hf.p hf.g, co_true hc] at h
  exact ⟨noL_all, _, h, LLe.of rfl rfl rfl⟩
theorem pcI {f c : Nat → Option Nat} (hf : Sh f) (hc : ShC c) : SumOk Try.prog 29 (runPC f c) := sum_atD sxApart sxMixed (pK_ok c hf.p) noL (N := 20) (d := 8) fun _ => by
  have h := hI f c
  have hco : coI c = co c := covI_cov _ _ _ _
  rw [show ovwI f = true from ovwI_true f, orI_eq, opI_true, pV_true hf.p hf.g, hco, co_true hc, fin_true (pr_fin hf.g hc (rF_LE hf.p))] at h
  exact ⟨noL_all, _, h, LLe.of rfl rfl rfl⟩
end Go.Proofs.Ytpnjimpiphbcfaa.V5
set_option linter.unusedVariables false
set_option linter.unusedSimpArgs false
set_option exponentiation.threshold 3000
set_option maxRecDepth 100000
namespace Go.Proofs.Ytpnjimpiphbcfaa.T5
open Go.Sx Go.Sx.R0 Go.Sx.C5 Go.Sx.C1 Go.Sx.Fl Go.Proofs.Ytpnjimpiphbcfaa.O5 Go.Proofs.Ytpnjimpiphbcfaa.V5

noncomputable def s16 (f : Nat → Option Nat) : Option Nat := fop .add .f32 (fop .add .f32 (fop .add .f32 (fop .add .f32 (fop .add .f32 (fop .add .f32 (fop .add .f32 (fop .add .f32 (fop .add .f32 (fop .add .f32 (fop .add .f32 (fop .add .f32 (fop .add .f32 (fop .add .f32 (fop .add .f32 (f (0 + 0)) (f (0 + 1))) (f (0 + 2))) (f (0 + 3))) (f (0 + 4))) (f (0 + 5))) (f (0 + 6))) (f (0 + 7))) (f (0 + 8))) (f (0 + 9))) (f (0 + 10))) (f (0 + 11))) (f (0 + 12))) (f (0 + 13))) (f (0 + 14))) (f (0 + 15))
noncomputable def bel (f : Nat → Option Nat) (n : Nat) : Option Nat := fop .sub .f32 (s16 f) (s16 (ov f (Nat.beq n 0) (Nat.beq n 1) (Nat.beq n 2) (Nat.beq n 3)))
noncomputable def qu (f m : Nat → Option Nat) (n : Nat) : Option Nat := fop .quo .f32 (fop .sub .f32 (s16 f) (s16 m)) (bel f n)
noncomputable def bad (f m : Nat → Option Nat) (n : Nat) : Bool := cond (fcmp .eql .f32 (bel f n) (some 0)) true (fcmp .neq .f32 (qu f m n) (qu f m n))
noncomputable def lo (q : Option Nat) : Option Nat := cond (fcmp .lss .f32 q (some 0)) (some 0) q
noncomputable def hi (q : Option Nat) : Option Nat := cond (fcmp .gtr .f32 q (some 1065353216)) (some 1065353216) q
def lf (c : Int) : Tr (AV × Option (List Blk)) := .leaf (.tup [.flt .f32 (some 0), .lit (.int .i64 c)], none)
noncomputable def TS (f m : Nat → Option Nat) (n : Nat) : Tr (AV × Option (List Blk)) :=
  .node (!pV f) (lf 1) (.node false (lf 2) (.node (bad f m n) (lf 4) (.leaf (.tup [.flt .f32 (hi (lo (qu f m n))), .lit (.int .i64 0)], none))))
noncomputable def TI (f m : Nat → Option Nat) (n : Nat) : Tr (AV × Option (List Blk)) :=
  .node (!pV f) (lf 1) (.node false (lf 2) (.node (bad f m n) (lf 4) (.node (fcmp .lss .f32 (qu f m n) (some 0)) (lf 0) (.leaf (.tup [.flt .f32 (hi (qu f m n)), .lit (.int .i64 0)], none)))))
theorem hi0 : hi (some 0) = some 0 := by
  unfold hi
  have : fcmp .gtr .f32 (some 0) (some 1065353216) = false := by rw [fcmp_eq]; decide +kernel
  rw [this]; rfl
noncomputable def sl (f : Nat → Option Nat) (q0 q1 : Bool) : Bool := andB q0 (impB (!!pV f) (andB (andB q1 true) true))
theorem sl_true (f : Nat → Option Nat) {q0 q1 : Bool} (h0 : q0 = true) (h1 : q1 = true) : sl f q0 q1 = true := by subst h0 h1; unfold sl; cases pV f <;> rfl
theorem hS0 (f m : Nat → Option Nat) : evF Try.prog (oK f finK) noL 20 8 31 [.agg (pcs f), .int .i64 0, .agg (cF m)] [] = some (TS f m 0, sl f (ovwS f) (owS f)) := by kernel_rfl
theorem hI0 (f m : Nat → Option Nat) : evF Try.prog (oK f finK) noL 20 8 30 [.agg (pcs f), .int .i64 0, .agg (cF m)] [] = some (TI f m 0, sl f (ovwI f) (owI f)) := by kernel_rfl
theorem hS1 (f m : Nat → Option Nat) : evF Try.prog (oK f finK) noL 20 8 31 [.agg (pcs f), .int .i64 1, .agg (cF m)] [] = some (TS f m 1, sl f (ovwS f) (owS f)) := by kernel_rfl
theorem hI1 (f m : Nat → Option Nat) : evF Try.prog (oK f finK) noL 20 8 30 [.agg (pcs f), .int .i64 1, .agg (cF m)] [] = some (TI f m 1, sl f (ovwI f) (owI f)) := by kernel_rfl
theorem hS2 (f m : Nat → Option Nat) : evF Try.prog (oK f finK) noL 20 8 31 [.agg (pcs f), .int .i64 2, .agg (cF m)] [] = some (TS f m 2, sl f (ovwS f) (owS f)) := by kernel_rfl
theorem hI2 (f m : Nat → Option Nat) : evF Try.prog (oK f finK) noL 20 8 30 [.agg (pcs f), .int .i64 2, .agg (cF m)] [] = some (TI f m 2, sl f (ovwI f) (owI f)) := by kernel_rfl
theorem hS3 (f m : Nat → Option Nat) : evF Try.prog (oK f finK) noL 20 8 31 [.agg (pcs f), .int .i64 3, .agg (cF m)] [] = some (TS f m 3, sl f (ovwS f) (owS f)) := by kernel_rfl
theorem hI3 (f m : Nat → Option Nat) : evF Try.prog (oK f finK) noL 20 8 30 [.agg (pcs f), .int .i64 3, .agg (cF m)] [] = some (TI f m 3, sl f (ovwI f) (owI f)) := by kernel_rfl
noncomputable def vx (f m : Nat → Option Nat) (n : Nat) : Option Nat := cond (bad f m n) (some 0) (hi (lo (qu f m n)))
noncomputable def ve (f m : Nat → Option Nat) (n : Nat) : Int := cond (bad f m n) 4 0
theorem TS_v {f m : Nat → Option Nat} {n : Nat} (h : pV f = true) : LLe (TS f m n).get (.tup [.flt .f32 (vx f m n), .int .i64 (ve f m n)], none) := by
  unfold TS vx ve
  rw [h]
  cases bad f m n <;> exact LLe.of rfl rfl rfl
theorem TI_v {f m : Nat → Option Nat} {n : Nat} (h : pV f = true) : LLe (TI f m n).get (.tup [.flt .f32 (vx f m n), .int .i64 (ve f m n)], none) := by
  unfold TI vx ve
  rw [h]
  cases bad f m n with
  | true => exact LLe.of rfl rfl rfl
  | false =>
    cases h2 : fcmp .lss .f32 (qu f m n) (some 0)
    · have e : lo (qu f m n) = qu f m n := by unfold lo; rw [h2]; rfl
      rw [e]
      exact LLe.of rfl rfl rfl
    · have e : lo (qu f m n) = some 0 := by unfold lo; rw [h2]; rfl
      rw [e, hi0]
      exact LLe.of rfl rfl rfl
noncomputable def runCS (f m : Nat → Option Nat) (n : Nat) : List AV → List Blk → Option Lf := selRun (runAtD [.agg (pcs f), .int .i64 (Int.ofNat n), .agg (cF m)] [] (.leaf (.tup [.flt .f32 (vx f m n), .int .i64 (ve f m n)], none)) true)
noncomputable def okCS (f m : Nat → Option Nat) (n : Nat) : Bool := andB (deq [.agg (pcs f), .int .i64 (Int.ofNat n), .agg (cF m)] [.agg (pcs f), .int .i64 (Int.ofNat n), .agg (cF m)]) (andB (deqH [] []) true)
theorem okCS_true (f m : Nat → Option Nat) (n : Nat) : okCS f m n = true := by unfold okCS; rw [deq_self, deqH_self]; rfl
theorem csS {f m : Nat → Option Nat} {n : Nat} (hf : Sh f) (hn : n < 4) : SumOk Try.prog 31 (runCS f m n) := sum_atD sxApart sxMixed (oK_ok f finK_ok) noL (N := 20) (d := 8) fun _ => by
  rcases n with _ | _ | _ | _ | n
  · have h := hS0 f m; rw [sl_true f (ovwS_true f) (owS_true f)] at h; exact ⟨noL_all, _, h, TS_v (pV_true hf.p hf.g)⟩
  · have h := hS1 f m; rw [sl_true f (ovwS_true f) (owS_true f)] at h; exact ⟨noL_all, _, h, TS_v (pV_true hf.p hf.g)⟩
  · have h := hS2 f m; rw [sl_true f (ovwS_true f) (owS_true f)] at h; exact ⟨noL_all, _, h, TS_v (pV_true hf.p hf.g)⟩
  · have h := hS3 f m; rw [sl_true f (ovwS_true f) (owS_true f)] at h; exact ⟨noL_all, _, h, TS_v (pV_true hf.p hf.g)⟩
  · omega
theorem csI {f m : Nat → Option Nat} {n : Nat} (hf : Sh f) (hn : n < 4) : SumOk Try.prog 30 (runCS f m n) := sum_atD sxApart sxMixed (oK_ok f finK_ok) noL (N := 20) (d := 8) fun _ => by
  rcases n with _ | _ | _ | _ | n
  · have h := hI0 f m; rw [sl_true f (ovwI_true f) (owI_true f)] at h; exact ⟨noL_all, _, h, TI_v (pV_true hf.p hf.g)⟩
  · have h := hI1 f m; rw [sl_true f (ovwI_true f) (owI_true f)] at h; exact ⟨noL_all, _, h, TI_v (pV_true hf.p hf.g)⟩
  · have h := hI2 f m; rw [sl_true f (ovwI_true f) (owI_true f)] at h; exact ⟨noL_all, _, h, TI_v (pV_true hf.p hf.g)⟩
  · have h := hI3 f m; rw [sl_true f (ovwI_true f) (owI_true f)] at h; exact ⟨noL_all, _, h, TI_v (pV_true hf.p hf.g)⟩
  · omega
-- the cover with its gains
def z4 : AV := .agg (List.replicate 4 (.flt .f32 (some 0)))
noncomputable def cg (f c : Nat → Option Nat) : List AV := [.flt .f32 (grow (f 80) (c 0)), .flt .f32 (grow (f 80) (c 1)), .flt .f32 (grow (f 80) (c 2)), .flt .f32 (grow (f 80) (c 3))]
noncomputable def TCg (f c : Nat → Option Nat) : Tr (AV × Option (List Blk)) :=
  .node (cond (!pVI f) true (!coI c)) (.leaf (.tup [z4, .lit (.int .i64 1)], none)) (.leaf (.tup [.agg (cg f c), .lit (.int .i64 0)], none))
theorem eCg (f c : Nat → Option Nat) : evF Try.prog extK noL 20 8 28 [.agg (pcs f), .agg (Q5.cv c)] [] = some (TCg f c, true) := by kernel_rfl
noncomputable def runCG (f c : Nat → Option Nat) : List AV → List Blk → Option Lf := selRun (runAtD [.agg (pcs f), .agg (Q5.cv c)] [] (.leaf (.tup [.agg (cg f c), .int .i64 0], none)) true)
theorem cgI {f c : Nat → Option Nat} (hf : Sh f) (hc : ShC c) : SumOk Try.prog 28 (runCG f c) := sum_atD sxApart sxMixed extK_ok noL (N := 20) (d := 8) fun _ => by
  have h := eCg f c
  refine ⟨noL_all, _, h, ?_⟩
  have hco : coI c = co c := covI_cov _ _ _ _
  unfold TCg
  rw [pVI_pV, pV_true hf.p hf.g, hco, co_true hc]
  exact LLe.of rfl rfl rfl
end Go.Proofs.Ytpnjimpiphbcfaa.T5
