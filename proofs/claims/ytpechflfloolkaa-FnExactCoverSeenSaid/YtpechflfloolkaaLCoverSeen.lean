/- The law 'FnExactCoverSeen': the program's CoverSeen returns what the reference's returns, for all arguments; no condition. -/
import Derived.Test.YtpechflfloolkaaRows
import Derived.WalkKit
import Derived.ProofKit
import Derived.OpenShut
import Derived.ChangeOld
import Derived.Below
import Derived.Test.YtpechflfloolkaaSxK2
import Derived.Test.YtpechflfloolkaaSxFr
import Derived.Test.YtpechflfloolkaaSxO5
import Derived.Test.YtpechflfloolkaaSxFr
namespace Go.Proofs.Ytpechflfloolkaa.lawCoverSeen
open Go.ChangeShapes Go.WideShapes Go.ChangeAt Go.RowKit Go.Sx
set_option linter.unusedVariables false
set_option linter.unusedSimpArgs false
set_option maxRecDepth 100000
def lawN : Nat := 20
def lawD : Nat := 8

open Go.Sx.C5 Go.Sx.C1 Go.Sx.Fl Go.Proofs.Ytpechflfloolkaa.O5

noncomputable def s16 (f : Nat → Option Nat) : Option Nat := fop .add .f32 (fop .add .f32 (fop .add .f32 (fop .add .f32 (fop .add .f32 (fop .add .f32 (fop .add .f32 (fop .add .f32 (fop .add .f32 (fop .add .f32 (fop .add .f32 (fop .add .f32 (fop .add .f32 (fop .add .f32 (fop .add .f32 (f (0 + 0)) (f (0 + 1))) (f (0 + 2))) (f (0 + 3))) (f (0 + 4))) (f (0 + 5))) (f (0 + 6))) (f (0 + 7))) (f (0 + 8))) (f (0 + 9))) (f (0 + 10))) (f (0 + 11))) (f (0 + 12))) (f (0 + 13))) (f (0 + 14))) (f (0 + 15))
noncomputable def bel (f : Nat → Option Nat) (n : Nat) : Option Nat := fop .sub .f32 (s16 f) (s16 (ov f (Nat.beq n 0) (Nat.beq n 1) (Nat.beq n 2) (Nat.beq n 3)))
noncomputable def qu (f m : Nat → Option Nat) (n : Nat) : Option Nat := fop .quo .f32 (fop .sub .f32 (s16 f) (s16 m)) (bel f n)
noncomputable def bad (f m : Nat → Option Nat) (n : Nat) : Bool := cond (fcmp .eql .f32 (bel f n) (some 0)) true (fcmp .neq .f32 (qu f m n) (qu f m n))
noncomputable def lo (q : Option Nat) : Option Nat := cond (fcmp .lss .f32 q (some 0)) (some 0) q
noncomputable def hi (q : Option Nat) : Option Nat := cond (fcmp .gtr .f32 q (some 1065353216)) (some 1065353216) q
def lf (c : Int) : Tr (AV × Option (List Blk)) := .leaf (.tup [.flt .f32 (some 0), .lit (.int .i64 c)], none)
noncomputable def TS (f m : Nat → Option Nat) (n : Nat) : Tr (AV × Option (List Blk)) :=
  .node (!pV f) (lf 1) (.node false (lf 2) (.node (bad f m n) (lf 4) (.leaf (.tup [.flt .f32 (hi (lo (qu f m n))), .lit (.int .i64 0)], none))))
noncomputable def TI (f m : Nat → Option Nat) (n : Nat) : Tr (AV × Option (List Blk)) :=
  .node (!pV f) (lf 1) (.node false (lf 2) (.node (bad f m n) (lf 4) (.node (fcmp .lss .f32 (qu f m n) (some 0)) (lf 0) (.leaf (.tup [.flt .f32 (hi (qu f m n)), .lit (.int .i64 0)], none)))))
noncomputable def TO (f : Nat → Option Nat) : Tr (AV × Option (List Blk)) := .node (!pV f) (lf 1) (lf 2)
theorem hi0 : hi (some 0) = some 0 := by
  unfold hi
  have : fcmp .gtr .f32 (some 0) (some 1065353216) = false := by rw [fcmp_eq]; decide +kernel
  rw [this]; rfl
theorem TI_TS (f m : Nat → Option Nat) (n : Nat) : delitD (TI f m n).get.1 = delitD (TS f m n).get.1 := by
  unfold TI TS
  cases pV f
  · rfl
  · cases h : bad f m n
    · cases h2 : fcmp .lss .f32 (qu f m n) (some 0)
      · have e : lo (qu f m n) = qu f m n := by unfold lo; rw [h2]; rfl
        rw [e]; rfl
      · have e : lo (qu f m n) = some 0 := by unfold lo; rw [h2]; rfl
        rw [e, hi0]; rfl
    · rfl
noncomputable def sl (f : Nat → Option Nat) (q0 q1 : Bool) : Bool := andB q0 (impB (!!pV f) (andB (andB q1 true) true))
theorem sl_true (f : Nat → Option Nat) {q0 q1 : Bool} (h0 : q0 = true) (h1 : q1 = true) : sl f q0 q1 = true := by subst h0 h1; unfold sl; cases pV f <;> rfl
theorem hS0 (f m : Nat → Option Nat) : evF Try.prog (oK f finK) noL lawN lawD 43 [.agg (pcs f), .int .i64 0, .agg (cF m)] [] = some (TS f m 0, sl f (ovwS f) (owS f)) := by kernel_rfl
theorem hI0 (f m : Nat → Option Nat) : evF Try.prog (oK f finK) noL lawN lawD 45 [.agg (pcs f), .int .i64 0, .agg (cF m)] [] = some (TI f m 0, sl f (ovwI f) (owI f)) := by kernel_rfl
theorem hS1 (f m : Nat → Option Nat) : evF Try.prog (oK f finK) noL lawN lawD 43 [.agg (pcs f), .int .i64 1, .agg (cF m)] [] = some (TS f m 1, sl f (ovwS f) (owS f)) := by kernel_rfl
theorem hI1 (f m : Nat → Option Nat) : evF Try.prog (oK f finK) noL lawN lawD 45 [.agg (pcs f), .int .i64 1, .agg (cF m)] [] = some (TI f m 1, sl f (ovwI f) (owI f)) := by kernel_rfl
theorem hS2 (f m : Nat → Option Nat) : evF Try.prog (oK f finK) noL lawN lawD 43 [.agg (pcs f), .int .i64 2, .agg (cF m)] [] = some (TS f m 2, sl f (ovwS f) (owS f)) := by kernel_rfl
theorem hI2 (f m : Nat → Option Nat) : evF Try.prog (oK f finK) noL lawN lawD 45 [.agg (pcs f), .int .i64 2, .agg (cF m)] [] = some (TI f m 2, sl f (ovwI f) (owI f)) := by kernel_rfl
theorem hS3 (f m : Nat → Option Nat) : evF Try.prog (oK f finK) noL lawN lawD 43 [.agg (pcs f), .int .i64 3, .agg (cF m)] [] = some (TS f m 3, sl f (ovwS f) (owS f)) := by kernel_rfl
theorem hI3 (f m : Nat → Option Nat) : evF Try.prog (oK f finK) noL lawN lawD 45 [.agg (pcs f), .int .i64 3, .agg (cF m)] [] = some (TI f m 3, sl f (ovwI f) (owI f)) := by kernel_rfl
-- where the ink is none
theorem inS (k : Int) (h : (cond (decide (k ≥ 0)) (decide (k ≤ 3)) false) = false) : SumOk Try.prog 65 (runAt [.int .i64 k, .lit (.int .i64 0), .lit (.int .i64 3)] (.leaf (.lit (.bool false), none)) true) := by
  have h1 : evF Try.prog extK noL lawN lawD 65 [.int .i64 k, .lit (.int .i64 0), .lit (.int .i64 3)] [] = some (.leaf (.bool (cond (decide (k ≥ 0)) (decide (k ≤ 3)) false), none), true) := by kernel_rfl
  rw [h] at h1
  exact sum_at0 (L := noL) sxApart sxMixed extK_ok (fun _ _ _ _ => noL_ok) h1 (by kernel_rfl) (fun _ => rfl) (fun _ => ⟨rfl, rfl⟩)
theorem inI (k : Int) (h : (cond (decide (0 ≤ k)) (decide (k ≤ 3)) false) = false) : SumOk Try.prog 67 (runAt [.int .i64 k, .lit (.int .i64 0), .lit (.int .i64 3)] (.leaf (.lit (.bool false), none)) true) := by
  have h1 : evF Try.prog extK noL lawN lawD 67 [.int .i64 k, .lit (.int .i64 0), .lit (.int .i64 3)] [] = some (.leaf (.bool (cond (decide (0 ≤ k)) (decide (k ≤ 3)) false), none), true) := by kernel_rfl
  rw [h] at h1
  exact sum_at0 (L := noL) sxApart sxMixed extK_ok (fun _ _ _ _ => noL_ok) h1 (by kernel_rfl) (fun _ => rfl) (fun _ => ⟨rfl, rfl⟩)
noncomputable def nK (f : Nat → Option Nat) (k : Int) : CallerT := addK 65 (runAt [.int .i64 k, .lit (.int .i64 0), .lit (.int .i64 3)] (.leaf (.lit (.bool false), none)) true) (addK 67 (runAt [.int .i64 k, .lit (.int .i64 0), .lit (.int .i64 3)] (.leaf (.lit (.bool false), none)) true) (oK f finK))
noncomputable def sn (f : Nat → Option Nat) (k : Int) (q0 : Bool) : Bool := andB q0 (impB (!!pV f) (andB (andB (deq [.int .i64 k, .lit (.int .i64 0), .lit (.int .i64 3)] [.int .i64 k, .lit (.int .i64 0), .lit (.int .i64 3)]) true) true))
theorem sn_true (f : Nat → Option Nat) (k : Int) {q0 : Bool} (h0 : q0 = true) : sn f k q0 = true := by subst h0; unfold sn; rw [deq_self]; cases pV f <;> rfl
theorem hSo (f m : Nat → Option Nat) (k : Int) : evF Try.prog (nK f k) noL lawN lawD 43 [.agg (pcs f), .int .i64 k, .agg (cF m)] [] = some (TO f, sn f k (ovwS f)) := by kernel_rfl
theorem hIo (f m : Nat → Option Nat) (k : Int) : evF Try.prog (nK f k) noL lawN lawD 45 [.agg (pcs f), .int .i64 k, .agg (cF m)] [] = some (TO f, sn f k (ovwI f)) := by kernel_rfl

theorem done (f m : Nat → Option Nat) (k : Int) (x : Option Nat) (e : Int) (kS : SumOk Try.prog 43 (runAt [.agg (pcs f), .int .i64 k, .agg (cF m)] (.leaf (.tup [.flt .f32 x, .int .i64 e], none)) true))
    (kI : SumOk Try.prog 45 (runAt [.agg (pcs f), .int .i64 k, .agg (cF m)] (.leaf (.tup [.flt .f32 x, .int .i64 e], none)) true)) :
    ∃ K, CallerTOk Try.prog K ∧ ∃ t, evF Try.prog K noL lawN lawD 12 [.agg (pcs f), .int .i64 k, .agg (cF m)] [] = some (t, true) ∧ delit t.get.1 = .bool true := by
  refine ⟨addK 43 _ (addK 45 _ extK), addK_ok kS (addK_ok kI extK_ok), .leaf (.bool (cond (cond (!sf x) true (e != e)) false true), none), ?_, ?_⟩
  · have h : evF Try.prog (addK 43 (runAt [.agg (pcs f), .int .i64 k, .agg (cF m)] (.leaf (.tup [.flt .f32 x, .int .i64 e], none)) true) (addK 45 (runAt [.agg (pcs f), .int .i64 k, .agg (cF m)] (.leaf (.tup [.flt .f32 x, .int .i64 e], none)) true) extK)) noL lawN lawD 12 [.agg (pcs f), .int .i64 k, .agg (cF m)] [] = some (.leaf (.bool (cond (cond (!sf x) true (e != e)) false true), none), andB (andB (andB (deq [.agg (pcs f), .int .i64 k, .agg (cF m)] [.agg (pcs f), .int .i64 k, .agg (cF m)]) true) true) (andB (andB (andB (deq [.agg (pcs f), .int .i64 k, .agg (cF m)] [.agg (pcs f), .int .i64 k, .agg (cF m)]) true) true) true)) := by kernel_rfl
    rw [deq_self] at h
    exact h
  · simp [Tr.get, delit, sf_true]
theorem lf_or (t : Tr (AV × Option (List Blk))) : True := trivial
theorem TS_form (f m : Nat → Option Nat) (n : Nat) : ∃ (x : Option Nat) (e : Int), delitD (TS f m n).get.1 = .tup [.flt .f32 x, .int .i64 e] := by
  unfold TS
  cases pV f
  · exact ⟨_, _, rfl⟩
  · cases bad f m n
    · exact ⟨_, _, rfl⟩
    · exact ⟨_, _, rfl⟩
theorem TO_form (f : Nat → Option Nat) : ∃ (x : Option Nat) (e : Int), delitD (TO f).get.1 = .tup [.flt .f32 x, .int .i64 e] := by
  unfold TO
  cases pV f
  · exact ⟨_, _, rfl⟩
  · exact ⟨_, _, rfl⟩
theorem all (f m : Nat → Option Nat) (k : Int) : ∃ K, CallerTOk Try.prog K ∧ ∃ t, evF Try.prog K noL lawN lawD 12 [.agg (pcs f), .int .i64 k, .agg (cF m)] [] = some (t, true) ∧ delit t.get.1 = .bool true := by
  by_cases hk : 0 ≤ k ∧ k ≤ 3
  · have key : ∀ n, evF Try.prog (oK f finK) noL lawN lawD 43 [.agg (pcs f), .int .i64 k, .agg (cF m)] [] = some (TS f m n, sl f (ovwS f) (owS f)) → evF Try.prog (oK f finK) noL lawN lawD 45 [.agg (pcs f), .int .i64 k, .agg (cF m)] [] = some (TI f m n, sl f (ovwI f) (owI f)) → ∃ K, CallerTOk Try.prog K ∧ ∃ t, evF Try.prog K noL lawN lawD 12 [.agg (pcs f), .int .i64 k, .agg (cF m)] [] = some (t, true) ∧ delit t.get.1 = .bool true := fun n hS hI => by
      rw [sl_true f (ovwS_true f) (owS_true f)] at hS
      rw [sl_true f (ovwI_true f) (owI_true f)] at hI
      obtain ⟨x, e, hw⟩ := TS_form f m n
      have kS := sum_at0 (L := noL) sxApart sxMixed (oK_ok f finK_ok) (fun _ _ _ _ => noL_ok) hS (by kernel_rfl) (T := .leaf (.tup [.flt .f32 x, .int .i64 e], none)) (fun _ => hw) (fun _ => ⟨rfl, rfl⟩)
      have kI := sum_at0 (L := noL) sxApart sxMixed (oK_ok f finK_ok) (fun _ _ _ _ => noL_ok) hI (by kernel_rfl) (T := .leaf (.tup [.flt .f32 x, .int .i64 e], none)) (fun _ => (TI_TS _ _ _).trans hw) (fun _ => ⟨rfl, rfl⟩)
      exact done f m k x e kS kI
    have : k = 0 ∨ k = 1 ∨ k = 2 ∨ k = 3 := by omega
    rcases this with rfl | rfl | rfl | rfl
    · exact key 0 (hS0 f m) (hI0 f m)
    · exact key 1 (hS1 f m) (hI1 f m)
    · exact key 2 (hS2 f m) (hI2 f m)
    · exact key 3 (hS3 f m) (hI3 f m)
  · have h1 : (cond (decide (k ≥ 0)) (decide (k ≤ 3)) false) = false := by
      cases h : decide (k ≥ 0) with
      | false => rfl
      | true => have := of_decide_eq_true h; exact decide_eq_false (by omega)
    have hnK : CallerTOk Try.prog (nK f k) := addK_ok (inS k h1) (addK_ok (inI k h1) (oK_ok f finK_ok))
    have hS := hSo f m k
    have hI := hIo f m k
    rw [sn_true f k (ovwS_true f)] at hS
    rw [sn_true f k (ovwI_true f)] at hI
    obtain ⟨x, e, hw⟩ := TO_form f
    have kS := sum_at0 (L := noL) sxApart sxMixed hnK (fun _ _ _ _ => noL_ok) hS (by kernel_rfl) (T := .leaf (.tup [.flt .f32 x, .int .i64 e], none)) (fun _ => hw) (fun _ => ⟨rfl, rfl⟩)
    have kI := sum_at0 (L := noL) sxApart sxMixed hnK (fun _ _ _ _ => noL_ok) hI (by kernel_rfl) (T := .leaf (.tup [.flt .f32 x, .int .i64 e], none)) (fun _ => hw) (fun _ => ⟨rfl, rfl⟩)
    exact done f m k x e kS kI

theorem law (l0 : List AV) (t0 : Typed (List.replicate 16 (.flt .f32) ++ (List.replicate 64 (.flt .f32) ++ [.flt .f32])) l0) (l1 : AV) (t1 : LK.has (.int .i64) l1) (l2 : List AV) (t2 : Typed (List.replicate 16 (.flt .f32)) l2) :
    ∃ K, CallerTOk Try.prog K ∧ ∃ t, evF Try.prog K noL lawN lawD 12 [.agg l0, l1, .agg l2] [] = some (t, true) ∧ delit t.get.1 = .bool true := by
  obtain ⟨_, _, rfl, ⟨p0, rfl, p0K⟩, t0⟩ := t0
  obtain ⟨_, _, rfl, ⟨p1, rfl, p1K⟩, t0⟩ := t0
  obtain ⟨_, _, rfl, ⟨p2, rfl, p2K⟩, t0⟩ := t0
  obtain ⟨_, _, rfl, ⟨p3, rfl, p3K⟩, t0⟩ := t0
  obtain ⟨_, _, rfl, ⟨p4, rfl, p4K⟩, t0⟩ := t0
  obtain ⟨_, _, rfl, ⟨p5, rfl, p5K⟩, t0⟩ := t0
  obtain ⟨_, _, rfl, ⟨p6, rfl, p6K⟩, t0⟩ := t0
  obtain ⟨_, _, rfl, ⟨p7, rfl, p7K⟩, t0⟩ := t0
  obtain ⟨_, _, rfl, ⟨p8, rfl, p8K⟩, t0⟩ := t0
  obtain ⟨_, _, rfl, ⟨p9, rfl, p9K⟩, t0⟩ := t0
  obtain ⟨_, _, rfl, ⟨p10, rfl, p10K⟩, t0⟩ := t0
  obtain ⟨_, _, rfl, ⟨p11, rfl, p11K⟩, t0⟩ := t0
  obtain ⟨_, _, rfl, ⟨p12, rfl, p12K⟩, t0⟩ := t0
  obtain ⟨_, _, rfl, ⟨p13, rfl, p13K⟩, t0⟩ := t0
  obtain ⟨_, _, rfl, ⟨p14, rfl, p14K⟩, t0⟩ := t0
  obtain ⟨_, _, rfl, ⟨p15, rfl, p15K⟩, t0⟩ := t0
  obtain ⟨_, _, rfl, ⟨p16, rfl, p16K⟩, t0⟩ := t0
  obtain ⟨_, _, rfl, ⟨p17, rfl, p17K⟩, t0⟩ := t0
  obtain ⟨_, _, rfl, ⟨p18, rfl, p18K⟩, t0⟩ := t0
  obtain ⟨_, _, rfl, ⟨p19, rfl, p19K⟩, t0⟩ := t0
  obtain ⟨_, _, rfl, ⟨p20, rfl, p20K⟩, t0⟩ := t0
  obtain ⟨_, _, rfl, ⟨p21, rfl, p21K⟩, t0⟩ := t0
  obtain ⟨_, _, rfl, ⟨p22, rfl, p22K⟩, t0⟩ := t0
  obtain ⟨_, _, rfl, ⟨p23, rfl, p23K⟩, t0⟩ := t0
  obtain ⟨_, _, rfl, ⟨p24, rfl, p24K⟩, t0⟩ := t0
  obtain ⟨_, _, rfl, ⟨p25, rfl, p25K⟩, t0⟩ := t0
  obtain ⟨_, _, rfl, ⟨p26, rfl, p26K⟩, t0⟩ := t0
  obtain ⟨_, _, rfl, ⟨p27, rfl, p27K⟩, t0⟩ := t0
  obtain ⟨_, _, rfl, ⟨p28, rfl, p28K⟩, t0⟩ := t0
  obtain ⟨_, _, rfl, ⟨p29, rfl, p29K⟩, t0⟩ := t0
  obtain ⟨_, _, rfl, ⟨p30, rfl, p30K⟩, t0⟩ := t0
  obtain ⟨_, _, rfl, ⟨p31, rfl, p31K⟩, t0⟩ := t0
  obtain ⟨_, _, rfl, ⟨p32, rfl, p32K⟩, t0⟩ := t0
  obtain ⟨_, _, rfl, ⟨p33, rfl, p33K⟩, t0⟩ := t0
  obtain ⟨_, _, rfl, ⟨p34, rfl, p34K⟩, t0⟩ := t0
  obtain ⟨_, _, rfl, ⟨p35, rfl, p35K⟩, t0⟩ := t0
  obtain ⟨_, _, rfl, ⟨p36, rfl, p36K⟩, t0⟩ := t0
  obtain ⟨_, _, rfl, ⟨p37, rfl, p37K⟩, t0⟩ := t0
  obtain ⟨_, _, rfl, ⟨p38, rfl, p38K⟩, t0⟩ := t0
  obtain ⟨_, _, rfl, ⟨p39, rfl, p39K⟩, t0⟩ := t0
  obtain ⟨_, _, rfl, ⟨p40, rfl, p40K⟩, t0⟩ := t0
  obtain ⟨_, _, rfl, ⟨p41, rfl, p41K⟩, t0⟩ := t0
  obtain ⟨_, _, rfl, ⟨p42, rfl, p42K⟩, t0⟩ := t0
  obtain ⟨_, _, rfl, ⟨p43, rfl, p43K⟩, t0⟩ := t0
  obtain ⟨_, _, rfl, ⟨p44, rfl, p44K⟩, t0⟩ := t0
  obtain ⟨_, _, rfl, ⟨p45, rfl, p45K⟩, t0⟩ := t0
  obtain ⟨_, _, rfl, ⟨p46, rfl, p46K⟩, t0⟩ := t0
  obtain ⟨_, _, rfl, ⟨p47, rfl, p47K⟩, t0⟩ := t0
  obtain ⟨_, _, rfl, ⟨p48, rfl, p48K⟩, t0⟩ := t0
  obtain ⟨_, _, rfl, ⟨p49, rfl, p49K⟩, t0⟩ := t0
  obtain ⟨_, _, rfl, ⟨p50, rfl, p50K⟩, t0⟩ := t0
  obtain ⟨_, _, rfl, ⟨p51, rfl, p51K⟩, t0⟩ := t0
  obtain ⟨_, _, rfl, ⟨p52, rfl, p52K⟩, t0⟩ := t0
  obtain ⟨_, _, rfl, ⟨p53, rfl, p53K⟩, t0⟩ := t0
  obtain ⟨_, _, rfl, ⟨p54, rfl, p54K⟩, t0⟩ := t0
  obtain ⟨_, _, rfl, ⟨p55, rfl, p55K⟩, t0⟩ := t0
  obtain ⟨_, _, rfl, ⟨p56, rfl, p56K⟩, t0⟩ := t0
  obtain ⟨_, _, rfl, ⟨p57, rfl, p57K⟩, t0⟩ := t0
  obtain ⟨_, _, rfl, ⟨p58, rfl, p58K⟩, t0⟩ := t0
  obtain ⟨_, _, rfl, ⟨p59, rfl, p59K⟩, t0⟩ := t0
  obtain ⟨_, _, rfl, ⟨p60, rfl, p60K⟩, t0⟩ := t0
  obtain ⟨_, _, rfl, ⟨p61, rfl, p61K⟩, t0⟩ := t0
  obtain ⟨_, _, rfl, ⟨p62, rfl, p62K⟩, t0⟩ := t0
  obtain ⟨_, _, rfl, ⟨p63, rfl, p63K⟩, t0⟩ := t0
  obtain ⟨_, _, rfl, ⟨p64, rfl, p64K⟩, t0⟩ := t0
  obtain ⟨_, _, rfl, ⟨p65, rfl, p65K⟩, t0⟩ := t0
  obtain ⟨_, _, rfl, ⟨p66, rfl, p66K⟩, t0⟩ := t0
  obtain ⟨_, _, rfl, ⟨p67, rfl, p67K⟩, t0⟩ := t0
  obtain ⟨_, _, rfl, ⟨p68, rfl, p68K⟩, t0⟩ := t0
  obtain ⟨_, _, rfl, ⟨p69, rfl, p69K⟩, t0⟩ := t0
  obtain ⟨_, _, rfl, ⟨p70, rfl, p70K⟩, t0⟩ := t0
  obtain ⟨_, _, rfl, ⟨p71, rfl, p71K⟩, t0⟩ := t0
  obtain ⟨_, _, rfl, ⟨p72, rfl, p72K⟩, t0⟩ := t0
  obtain ⟨_, _, rfl, ⟨p73, rfl, p73K⟩, t0⟩ := t0
  obtain ⟨_, _, rfl, ⟨p74, rfl, p74K⟩, t0⟩ := t0
  obtain ⟨_, _, rfl, ⟨p75, rfl, p75K⟩, t0⟩ := t0
  obtain ⟨_, _, rfl, ⟨p76, rfl, p76K⟩, t0⟩ := t0
  obtain ⟨_, _, rfl, ⟨p77, rfl, p77K⟩, t0⟩ := t0
  obtain ⟨_, _, rfl, ⟨p78, rfl, p78K⟩, t0⟩ := t0
  obtain ⟨_, _, rfl, ⟨p79, rfl, p79K⟩, t0⟩ := t0
  obtain ⟨_, _, rfl, ⟨p80, rfl, p80K⟩, t0⟩ := t0
  have t0 := (t0 : _ = [])
  subst t0
  obtain ⟨_, _, rfl, ⟨m0, rfl, m0K⟩, t2⟩ := t2
  obtain ⟨_, _, rfl, ⟨m1, rfl, m1K⟩, t2⟩ := t2
  obtain ⟨_, _, rfl, ⟨m2, rfl, m2K⟩, t2⟩ := t2
  obtain ⟨_, _, rfl, ⟨m3, rfl, m3K⟩, t2⟩ := t2
  obtain ⟨_, _, rfl, ⟨m4, rfl, m4K⟩, t2⟩ := t2
  obtain ⟨_, _, rfl, ⟨m5, rfl, m5K⟩, t2⟩ := t2
  obtain ⟨_, _, rfl, ⟨m6, rfl, m6K⟩, t2⟩ := t2
  obtain ⟨_, _, rfl, ⟨m7, rfl, m7K⟩, t2⟩ := t2
  obtain ⟨_, _, rfl, ⟨m8, rfl, m8K⟩, t2⟩ := t2
  obtain ⟨_, _, rfl, ⟨m9, rfl, m9K⟩, t2⟩ := t2
  obtain ⟨_, _, rfl, ⟨m10, rfl, m10K⟩, t2⟩ := t2
  obtain ⟨_, _, rfl, ⟨m11, rfl, m11K⟩, t2⟩ := t2
  obtain ⟨_, _, rfl, ⟨m12, rfl, m12K⟩, t2⟩ := t2
  obtain ⟨_, _, rfl, ⟨m13, rfl, m13K⟩, t2⟩ := t2
  obtain ⟨_, _, rfl, ⟨m14, rfl, m14K⟩, t2⟩ := t2
  obtain ⟨_, _, rfl, ⟨m15, rfl, m15K⟩, t2⟩ := t2
  have t2 := (t2 : _ = [])
  subst t2
  obtain ⟨k, rfl, kL, kU⟩ := t1
  obtain ⟨f, hf⟩ := press_fn (p0 := p0) (p1 := p1) (p2 := p2) (p3 := p3) (p4 := p4) (p5 := p5) (p6 := p6) (p7 := p7) (p8 := p8) (p9 := p9) (p10 := p10) (p11 := p11) (p12 := p12) (p13 := p13) (p14 := p14) (p15 := p15) (p16 := p16) (p17 := p17) (p18 := p18) (p19 := p19) (p20 := p20) (p21 := p21) (p22 := p22) (p23 := p23) (p24 := p24) (p25 := p25) (p26 := p26) (p27 := p27) (p28 := p28) (p29 := p29) (p30 := p30) (p31 := p31) (p32 := p32) (p33 := p33) (p34 := p34) (p35 := p35) (p36 := p36) (p37 := p37) (p38 := p38) (p39 := p39) (p40 := p40) (p41 := p41) (p42 := p42) (p43 := p43) (p44 := p44) (p45 := p45) (p46 := p46) (p47 := p47) (p48 := p48) (p49 := p49) (p50 := p50) (p51 := p51) (p52 := p52) (p53 := p53) (p54 := p54) (p55 := p55) (p56 := p56) (p57 := p57) (p58 := p58) (p59 := p59) (p60 := p60) (p61 := p61) (p62 := p62) (p63 := p63) (p64 := p64) (p65 := p65) (p66 := p66) (p67 := p67) (p68 := p68) (p69 := p69) (p70 := p70) (p71 := p71) (p72 := p72) (p73 := p73) (p74 := p74) (p75 := p75) (p76 := p76) (p77 := p77) (p78 := p78) (p79 := p79) (p80 := p80)
  obtain ⟨m, hm⟩ : ∃ m : Nat → Option Nat, AV.agg (List.map (AV.flt .f32) [m0, m1, m2, m3, m4, m5, m6, m7, m8, m9, m10, m11, m12, m13, m14, m15]) = .agg (cF m) := ⟨fun i => [m0, m1, m2, m3, m4, m5, m6, m7, m8, m9, m10, m11, m12, m13, m14, m15].getD i none, rfl⟩
  have h := all f m k
  rw [← hf, ← hm] at h
  exact h

set_option maxRecDepth 100000 in
theorem lifted (os : Os) (started : os.Started) (H : Type) (enc : TypeId × Value → H) :
    ReturnsInHanded {} Try.checked os 12 .any (Rows.fnExactCoverSeenSpec.pre6 enc Try.prog Try.f12 Rows.fnExactCoverSeenRow.domain false) (Rows.fnExactCoverSeenSpec.post enc Try.prog Try.f12 false true false false) := by
  refine returnsInHanded_of_change (C := Try.checked) sxOwn started (by kernel_rfl) Try.func12
    (ChangeSpec.witness6 (enc := enc) (C := Try.checked) false ⟨#[], #[.agg #[.float .f32 0, .float .f32 0, .float .f32 0, .float .f32 0, .float .f32 0, .float .f32 0, .float .f32 0, .float .f32 0, .float .f32 0, .float .f32 0, .float .f32 0, .float .f32 0, .float .f32 0, .float .f32 0, .float .f32 0, .float .f32 0, .float .f32 0, .float .f32 0, .float .f32 0, .float .f32 0, .float .f32 0, .float .f32 0, .float .f32 0, .float .f32 0, .float .f32 0, .float .f32 0, .float .f32 0, .float .f32 0, .float .f32 0, .float .f32 0, .float .f32 0, .float .f32 0, .float .f32 0, .float .f32 0, .float .f32 0, .float .f32 0, .float .f32 0, .float .f32 0, .float .f32 0, .float .f32 0, .float .f32 0, .float .f32 0, .float .f32 0, .float .f32 0, .float .f32 0, .float .f32 0, .float .f32 0, .float .f32 0, .float .f32 0, .float .f32 0, .float .f32 0, .float .f32 0, .float .f32 0, .float .f32 0, .float .f32 0, .float .f32 0, .float .f32 0, .float .f32 0, .float .f32 0, .float .f32 0, .float .f32 0, .float .f32 0, .float .f32 0, .float .f32 0, .float .f32 0, .float .f32 0, .float .f32 0, .float .f32 0, .float .f32 0, .float .f32 0, .float .f32 0, .float .f32 0, .float .f32 0, .float .f32 0, .float .f32 0, .float .f32 0, .float .f32 0, .float .f32 0, .float .f32 0, .float .f32 0, .float .f32 0], .int .i64 0, .agg #[.float .f32 0, .float .f32 0, .float .f32 0, .float .f32 0, .float .f32 0, .float .f32 0, .float .f32 0, .float .f32 0, .float .f32 0, .float .f32 0, .float .f32 0, .float .f32 0, .float .f32 0, .float .f32 0, .float .f32 0, .float .f32 0]], []⟩ 8 (by kernel_rfl) (by kernel_rfl) (by kernel_rfl) (by kernel_rfl)) ?_
  intro W base args ds gs before hval0 hW hcnd _
  have hval : ∀ (j : Nat) t v, Try.f12.params[j]? = some t → args[j]? = some v → Value.okWide Try.prog W .any base t v := hval0
  have hW' := hW
  obtain ⟨p, q, hA0, hV, rfl, hfz, hnd⟩ := hW
  have hA : DataW.TrodAll enc Try.prog W 0 (fun _ => true) true Try.f12.params.toList args.toList ds p := hA0
  rw [Try.params12] at hA hval
  obtain ⟨v0, vs0, d0, ds0, p0, q0, hargs, rfl, rfl, h0, r0⟩ := trodAll_cons hA
  obtain ⟨v1, vs1, d1, ds1, p1, q1, rfl, rfl, rfl, h1, r1⟩ := trodAll_cons r0
  obtain ⟨v2, vs2, d2, ds2, p2, q2, rfl, rfl, rfl, h2, r2⟩ := trodAll_cons r1
  obtain ⟨rfl, rfl, rfl⟩ := trodAll_nil r2
  obtain rfl : args = #[v0, v1, v2] := by cases args; simp_all
  obtain ⟨rfl, rfl⟩ := trodVars_none hV
  have hrel0 : HRel [] [] W := ⟨rfl, fun b x p h => by simp at h, fun b c x y p q _ h => by simp at h⟩
  have hro0 := ro_nil
  obtain ⟨l0, t0, e0⟩ := arg_agg (ρ := []) (ts := [22, 22, 22, 22, 22, 22, 22, 22, 22, 22, 22, 22, 22, 22, 22, 22, 22, 22, 22, 22, 22, 22, 22, 22, 22, 22, 22, 22, 22, 22, 22, 22, 22, 22, 22, 22, 22, 22, 22, 22, 22, 22, 22, 22, 22, 22, 22, 22, 22, 22, 22, 22, 22, 22, 22, 22, 22, 22, 22, 22, 22, 22, 22, 22, 22, 22, 22, 22, 22, 22, 22, 22, 22, 22, 22, 22, 22, 22, 22, 22, 22]) (ks := [.flt .f32, .flt .f32, .flt .f32, .flt .f32, .flt .f32, .flt .f32, .flt .f32, .flt .f32, .flt .f32, .flt .f32, .flt .f32, .flt .f32, .flt .f32, .flt .f32, .flt .f32, .flt .f32, .flt .f32, .flt .f32, .flt .f32, .flt .f32, .flt .f32, .flt .f32, .flt .f32, .flt .f32, .flt .f32, .flt .f32, .flt .f32, .flt .f32, .flt .f32, .flt .f32, .flt .f32, .flt .f32, .flt .f32, .flt .f32, .flt .f32, .flt .f32, .flt .f32, .flt .f32, .flt .f32, .flt .f32, .flt .f32, .flt .f32, .flt .f32, .flt .f32, .flt .f32, .flt .f32, .flt .f32, .flt .f32, .flt .f32, .flt .f32, .flt .f32, .flt .f32, .flt .f32, .flt .f32, .flt .f32, .flt .f32, .flt .f32, .flt .f32, .flt .f32, .flt .f32, .flt .f32, .flt .f32, .flt .f32, .flt .f32, .flt .f32, .flt .f32, .flt .f32, .flt .f32, .flt .f32, .flt .f32, .flt .f32, .flt .f32, .flt .f32, .flt .f32, .flt .f32, .flt .f32, .flt .f32, .flt .f32, .flt .f32, .flt .f32, .flt .f32]) (hval 0 26 v0 rfl rfl) (by kernel_rfl) (by kernel_rfl) (by kernel_rfl) (by kernel_rfl)
  obtain ⟨l1, t1, e1⟩ := arg_cell (ρ := []) (k := .int .i64) (hval 1 2 v1 rfl rfl) (by kernel_rfl)
  obtain ⟨l2, t2, e2⟩ := arg_agg (ρ := []) (ts := [22, 22, 22, 22, 22, 22, 22, 22, 22, 22, 22, 22, 22, 22, 22, 22]) (ks := [.flt .f32, .flt .f32, .flt .f32, .flt .f32, .flt .f32, .flt .f32, .flt .f32, .flt .f32, .flt .f32, .flt .f32, .flt .f32, .flt .f32, .flt .f32, .flt .f32, .flt .f32, .flt .f32]) (hval 2 23 v2 rfl rfl) (by kernel_rfl) (by kernel_rfl) (by kernel_rfl) (by kernel_rfl)
  have k0 := h0
  have lt0 : ∀ x ∈ p0, x.block < W.heap.size := by obtain ⟨m, hm⟩ := k0; exact DataW.trod_lt m _ _ _ hm
  have k1 := h1
  have lt1 : ∀ x ∈ p1, x.block < W.heap.size := by obtain ⟨m, hm⟩ := k1; exact DataW.trod_lt m _ _ _ hm
  have k2 := h2
  have lt2 : ∀ x ∈ p2, x.block < W.heap.size := by obtain ⟨m, hm⟩ := k2; exact DataW.trod_lt m _ _ _ hm
  have hargs : VRels [] [.agg l0, l1, .agg l2] [v0, v1, v2] := by
    simp only [VRels]
    exact ⟨v0, _, rfl, e0, ⟨v1, _, rfl, e1, ⟨v2, _, rfl, e2, rfl⟩⟩⟩
  obtain ⟨lawK, lawK_ok, hlaw⟩ := law l0 t0 l1 t1 l2 t2
  refine (evF_true (K := lawK) (L := noL) (N := lawN) (d := lawD) sxApart sxMixed lawK_ok (fun _ _ _ _ => noL_ok) hlaw hrel0 hro0 hargs).mono fun e W' ⟨he, bel⟩ => ?_
  subst he
  exact ⟨_, rfl, _, _, _, [], _, [], hW', trodAll_mk1 (shut_bool Try.underlying4 _), (trodAll_cons_mk (Below.trod sxLaid (by kernel_rfl) (of_decide_eq_true (by kernel_rfl)) k0 bel lt0) (trodAll_cons_mk (Below.trod sxLaid (by kernel_rfl) (of_decide_eq_true (by kernel_rfl)) k1 bel lt1) (trodAll_cons_mk (Below.trod sxLaid (by kernel_rfl) (of_decide_eq_true (by kernel_rfl)) k2 bel lt2) trodAll_mk0))), rfl, bel.frame _, fun h => by cases h⟩

theorem over : Rows.fnExactCoverSeenRow.holds Try.pinned (OpenSpec.ofChange Rows.fnExactCoverSeenSpec) :=
  OpenClaim.holds_of_wide 12 Try.f12 rfl rfl rfl rfl rfl rfl rfl ⟨rfl, rfl, rfl, rfl, rfl⟩ rfl rfl rfl rfl rfl (by kernel_rfl) Try.func12 (by kernel_rfl)
    (of_decide_eq_true (by kernel_rfl)) (by unfold Func.isWrapper; first | (rw [if_pos (by decide +kernel)]; kernel_rfl) | (rw [if_neg (by decide +kernel)]; exact ⟨rfl, rfl⟩))
    (fun os started H enc _ => lifted os started H enc)

/-- The statement. -/
theorem proved : Rows.FnExactCoverSeenSaid := over
#print axioms proved
end Go.Proofs.Ytpechflfloolkaa.lawCoverSeen
