/- The law 'FnExactCountsOf': the program's CountsOf returns what the reference's returns, for all arguments; no condition. -/
import Derived.Test.YtodbpecmaiidpaaRows
import Derived.WalkKit
import Derived.ProofKit
import Derived.OpenShut
import Derived.ChangeOld
import Derived.Below
import Derived.Test.YtodbpecmaiidpaaSxK1
import Derived.Test.YtodbpecmaiidpaaSxC6
import Derived.Test.YtodbpecmaiidpaaSxS6
namespace Go.Proofs.Ytodbpecmaiidpaa.lawCountsOf
open Go.ChangeShapes Go.WideShapes Go.ChangeAt Go.RowKit Go.Sx
set_option linter.unusedVariables false
set_option linter.unusedSimpArgs false
set_option maxRecDepth 100000
def lawN : Nat := 20
def lawD : Nat := 8

open Go.Sx.C6 Go.Sx.C1 Go.Sx.Fl Go.Proofs.Ytodbpecmaiidpaa.S6

def eqc : List Int → Bool
  | [] => true
  | x :: t => cond (x != x) false (eqc t)
def zc : AV := .agg (List.replicate 16 (.int .i16 0))
noncomputable def cd (g fin : Bool) (d : Option Nat) (t : Int) : Int := cond (cond (codeAt g d t == 0) (!fin) false) 4 (codeAt g d t)
noncomputable def TS (g fin : Bool) (d : Option Nat) (t : Int) (l : List Int) : Tr (AV × Option (List Blk)) :=
  .node (cd g fin d t != 0) (.leaf (.tup [zc, .int .i64 (cd g fin d t)], none)) (.leaf (.tup [.agg (List.map (AV.int .i16) l), .lit (.int .i64 0)], none))
noncomputable def TI (g fin : Bool) (d : Option Nat) (t : Int) (l : List Int) : Tr (AV × Option (List Blk)) :=
  .node (!g) (.leaf (.tup [zc, .lit (.int .i64 1)], none)) (.node (!tr t) (.leaf (.tup [zc, .lit (.int .i64 2)], none))
    (.node (!fcmp .gtr .f32 (lamp d t) (some 0)) (.leaf (.tup [zc, .lit (.int .i64 4)], none)) (.node (!fin) (.leaf (.tup [zc, .lit (.int .i64 4)], none)) (.leaf (.tup [.agg (List.map (AV.int .i16) l), .lit (.int .i64 0)], none)))))
theorem TI_TS (g fin : Bool) (d : Option Nat) (t : Int) (l : List Int) : delitD (TI g fin d t l).get.1 = delitD (TS g fin d t l).get.1 := by
  unfold TI TS cd codeAt
  cases g
  · cases fin <;> rfl
  · cases tr t
    · cases fin <;> rfl
    · cases fcmp .gtr .f32 (lamp d t) (some 0)
      · cases fin <;> rfl
      · cases fin <;> rfl

theorem law (l0 : List AV) (t0 : Typed (List.replicate 16 (.int .i16) ++ (List.replicate 16 (.int .i16) ++ (List.replicate 16 (.flt .f32) ++ [.flt .f32]))) l0) (l1 : List AV) (t1 : Typed (List.replicate 16 (.flt .f32)) l1) (l2 : AV) (t2 : LK.has (.int .i64) l2) :
    ∃ K, CallerTOk Try.prog K ∧ ∃ t, evF Try.prog K noL lawN lawD 11 [.agg l0, .agg l1, l2] [] = some (t, true) ∧ delit t.get.1 = .bool true := by
  obtain ⟨_, _, rfl, ⟨b0, rfl, b0L, b0U⟩, t0⟩ := t0
  obtain ⟨_, _, rfl, ⟨b1, rfl, b1L, b1U⟩, t0⟩ := t0
  obtain ⟨_, _, rfl, ⟨b2, rfl, b2L, b2U⟩, t0⟩ := t0
  obtain ⟨_, _, rfl, ⟨b3, rfl, b3L, b3U⟩, t0⟩ := t0
  obtain ⟨_, _, rfl, ⟨b4, rfl, b4L, b4U⟩, t0⟩ := t0
  obtain ⟨_, _, rfl, ⟨b5, rfl, b5L, b5U⟩, t0⟩ := t0
  obtain ⟨_, _, rfl, ⟨b6, rfl, b6L, b6U⟩, t0⟩ := t0
  obtain ⟨_, _, rfl, ⟨b7, rfl, b7L, b7U⟩, t0⟩ := t0
  obtain ⟨_, _, rfl, ⟨b8, rfl, b8L, b8U⟩, t0⟩ := t0
  obtain ⟨_, _, rfl, ⟨b9, rfl, b9L, b9U⟩, t0⟩ := t0
  obtain ⟨_, _, rfl, ⟨b10, rfl, b10L, b10U⟩, t0⟩ := t0
  obtain ⟨_, _, rfl, ⟨b11, rfl, b11L, b11U⟩, t0⟩ := t0
  obtain ⟨_, _, rfl, ⟨b12, rfl, b12L, b12U⟩, t0⟩ := t0
  obtain ⟨_, _, rfl, ⟨b13, rfl, b13L, b13U⟩, t0⟩ := t0
  obtain ⟨_, _, rfl, ⟨b14, rfl, b14L, b14U⟩, t0⟩ := t0
  obtain ⟨_, _, rfl, ⟨b15, rfl, b15L, b15U⟩, t0⟩ := t0
  obtain ⟨_, _, rfl, ⟨w0, rfl, w0L, w0U⟩, t0⟩ := t0
  obtain ⟨_, _, rfl, ⟨w1, rfl, w1L, w1U⟩, t0⟩ := t0
  obtain ⟨_, _, rfl, ⟨w2, rfl, w2L, w2U⟩, t0⟩ := t0
  obtain ⟨_, _, rfl, ⟨w3, rfl, w3L, w3U⟩, t0⟩ := t0
  obtain ⟨_, _, rfl, ⟨w4, rfl, w4L, w4U⟩, t0⟩ := t0
  obtain ⟨_, _, rfl, ⟨w5, rfl, w5L, w5U⟩, t0⟩ := t0
  obtain ⟨_, _, rfl, ⟨w6, rfl, w6L, w6U⟩, t0⟩ := t0
  obtain ⟨_, _, rfl, ⟨w7, rfl, w7L, w7U⟩, t0⟩ := t0
  obtain ⟨_, _, rfl, ⟨w8, rfl, w8L, w8U⟩, t0⟩ := t0
  obtain ⟨_, _, rfl, ⟨w9, rfl, w9L, w9U⟩, t0⟩ := t0
  obtain ⟨_, _, rfl, ⟨w10, rfl, w10L, w10U⟩, t0⟩ := t0
  obtain ⟨_, _, rfl, ⟨w11, rfl, w11L, w11U⟩, t0⟩ := t0
  obtain ⟨_, _, rfl, ⟨w12, rfl, w12L, w12U⟩, t0⟩ := t0
  obtain ⟨_, _, rfl, ⟨w13, rfl, w13L, w13U⟩, t0⟩ := t0
  obtain ⟨_, _, rfl, ⟨w14, rfl, w14L, w14U⟩, t0⟩ := t0
  obtain ⟨_, _, rfl, ⟨w15, rfl, w15L, w15U⟩, t0⟩ := t0
  obtain ⟨_, _, rfl, ⟨k0, rfl, k0K⟩, t0⟩ := t0
  obtain ⟨_, _, rfl, ⟨k1, rfl, k1K⟩, t0⟩ := t0
  obtain ⟨_, _, rfl, ⟨k2, rfl, k2K⟩, t0⟩ := t0
  obtain ⟨_, _, rfl, ⟨k3, rfl, k3K⟩, t0⟩ := t0
  obtain ⟨_, _, rfl, ⟨k4, rfl, k4K⟩, t0⟩ := t0
  obtain ⟨_, _, rfl, ⟨k5, rfl, k5K⟩, t0⟩ := t0
  obtain ⟨_, _, rfl, ⟨k6, rfl, k6K⟩, t0⟩ := t0
  obtain ⟨_, _, rfl, ⟨k7, rfl, k7K⟩, t0⟩ := t0
  obtain ⟨_, _, rfl, ⟨k8, rfl, k8K⟩, t0⟩ := t0
  obtain ⟨_, _, rfl, ⟨k9, rfl, k9K⟩, t0⟩ := t0
  obtain ⟨_, _, rfl, ⟨k10, rfl, k10K⟩, t0⟩ := t0
  obtain ⟨_, _, rfl, ⟨k11, rfl, k11K⟩, t0⟩ := t0
  obtain ⟨_, _, rfl, ⟨k12, rfl, k12K⟩, t0⟩ := t0
  obtain ⟨_, _, rfl, ⟨k13, rfl, k13K⟩, t0⟩ := t0
  obtain ⟨_, _, rfl, ⟨k14, rfl, k14K⟩, t0⟩ := t0
  obtain ⟨_, _, rfl, ⟨k15, rfl, k15K⟩, t0⟩ := t0
  obtain ⟨_, _, rfl, ⟨d, rfl, dK⟩, t0⟩ := t0
  have t0 := (t0 : _ = [])
  subst t0
  obtain ⟨_, _, rfl, ⟨c0, rfl, c0K⟩, t1⟩ := t1
  obtain ⟨_, _, rfl, ⟨c1, rfl, c1K⟩, t1⟩ := t1
  obtain ⟨_, _, rfl, ⟨c2, rfl, c2K⟩, t1⟩ := t1
  obtain ⟨_, _, rfl, ⟨c3, rfl, c3K⟩, t1⟩ := t1
  obtain ⟨_, _, rfl, ⟨c4, rfl, c4K⟩, t1⟩ := t1
  obtain ⟨_, _, rfl, ⟨c5, rfl, c5K⟩, t1⟩ := t1
  obtain ⟨_, _, rfl, ⟨c6, rfl, c6K⟩, t1⟩ := t1
  obtain ⟨_, _, rfl, ⟨c7, rfl, c7K⟩, t1⟩ := t1
  obtain ⟨_, _, rfl, ⟨c8, rfl, c8K⟩, t1⟩ := t1
  obtain ⟨_, _, rfl, ⟨c9, rfl, c9K⟩, t1⟩ := t1
  obtain ⟨_, _, rfl, ⟨c10, rfl, c10K⟩, t1⟩ := t1
  obtain ⟨_, _, rfl, ⟨c11, rfl, c11K⟩, t1⟩ := t1
  obtain ⟨_, _, rfl, ⟨c12, rfl, c12K⟩, t1⟩ := t1
  obtain ⟨_, _, rfl, ⟨c13, rfl, c13K⟩, t1⟩ := t1
  obtain ⟨_, _, rfl, ⟨c14, rfl, c14K⟩, t1⟩ := t1
  obtain ⟨_, _, rfl, ⟨c15, rfl, c15K⟩, t1⟩ := t1
  have t1 := (t1 : _ = [])
  subst t1
  obtain ⟨t, rfl, tL, tU⟩ := t2
  have hS : evF Try.prog cntK noL lawN lawD 38 [.agg (gcells [b0, b1, b2, b3, b4, b5, b6, b7, b8, b9, b10, b11, b12, b13, b14, b15] [w0, w1, w2, w3, w4, w5, w6, w7, w8, w9, w10, w11, w12, w13, w14, w15] [k0, k1, k2, k3, k4, k5, k6, k7, k8, k9, k10, k11, k12, k13, k14, k15] d), .agg (List.map (AV.flt .f32) [c0, c1, c2, c3, c4, c5, c6, c7, c8, c9, c10, c11, c12, c13, c14, c15]), .int .i64 t] [] =
      some (TS (vS [b0, b1, b2, b3, b4, b5, b6, b7, b8, b9, b10, b11, b12, b13, b14, b15] [w0, w1, w2, w3, w4, w5, w6, w7, w8, w9, w10, w11, w12, w13, w14, w15] [k0, k1, k2, k3, k4, k5, k6, k7, k8, k9, k10, k11, k12, k13, k14, k15] (dr d)) (fLS [c0, c1, c2, c3, c4, c5, c6, c7, c8, c9, c10, c11, c12, c13, c14, c15]) d t (cls d64 (lamp d t) [b0, b1, b2, b3, b4, b5, b6, b7, b8, b9, b10, b11, b12, b13, b14, b15] [w0, w1, w2, w3, w4, w5, w6, w7, w8, w9, w10, w11, w12, w13, w14, w15] [k0, k1, k2, k3, k4, k5, k6, k7, k8, k9, k10, k11, k12, k13, k14, k15] [c0, c1, c2, c3, c4, c5, c6, c7, c8, c9, c10, c11, c12, c13, c14, c15]), true) := by kernel_rfl
  have hI : evF Try.prog cntK noL lawN lawD 40 [.agg (gcells [b0, b1, b2, b3, b4, b5, b6, b7, b8, b9, b10, b11, b12, b13, b14, b15] [w0, w1, w2, w3, w4, w5, w6, w7, w8, w9, w10, w11, w12, w13, w14, w15] [k0, k1, k2, k3, k4, k5, k6, k7, k8, k9, k10, k11, k12, k13, k14, k15] d), .agg (List.map (AV.flt .f32) [c0, c1, c2, c3, c4, c5, c6, c7, c8, c9, c10, c11, c12, c13, c14, c15]), .int .i64 t] [] =
      some (TI (vI [b0, b1, b2, b3, b4, b5, b6, b7, b8, b9, b10, b11, b12, b13, b14, b15] [w0, w1, w2, w3, w4, w5, w6, w7, w8, w9, w10, w11, w12, w13, w14, w15] [k0, k1, k2, k3, k4, k5, k6, k7, k8, k9, k10, k11, k12, k13, k14, k15] (dr d)) (!decide (0 ≤ idxF [c0, c1, c2, c3, c4, c5, c6, c7, c8, c9, c10, c11, c12, c13, c14, c15] 0)) d t (cls d32 (lamp d t) [b0, b1, b2, b3, b4, b5, b6, b7, b8, b9, b10, b11, b12, b13, b14, b15] [w0, w1, w2, w3, w4, w5, w6, w7, w8, w9, w10, w11, w12, w13, w14, w15] [k0, k1, k2, k3, k4, k5, k6, k7, k8, k9, k10, k11, k12, k13, k14, k15] [c0, c1, c2, c3, c4, c5, c6, c7, c8, c9, c10, c11, c12, c13, c14, c15]), true) := by kernel_rfl
  rw [vI_vS _ _ _ _ (by rfl) (by rfl) (by simp), idxF_fin [c0, c1, c2, c3, c4, c5, c6, c7, c8, c9, c10, c11, c12, c13, c14, c15] 0 (Int.le_refl 0) (by simp), cls_eq (lamp d t) [b0, b1, b2, b3, b4, b5, b6, b7, b8, b9, b10, b11, b12, b13, b14, b15] [w0, w1, w2, w3, w4, w5, w6, w7, w8, w9, w10, w11, w12, w13, w14, w15] [k0, k1, k2, k3, k4, k5, k6, k7, k8, k9, k10, k11, k12, k13, k14, k15] [c0, c1, c2, c3, c4, c5, c6, c7, c8, c9, c10, c11, c12, c13, c14, c15] ⟨⟨b0L, b0U⟩, ⟨b1L, b1U⟩, ⟨b2L, b2U⟩, ⟨b3L, b3U⟩, ⟨b4L, b4U⟩, ⟨b5L, b5U⟩, ⟨b6L, b6U⟩, ⟨b7L, b7U⟩, ⟨b8L, b8U⟩, ⟨b9L, b9U⟩, ⟨b10L, b10U⟩, ⟨b11L, b11U⟩, ⟨b12L, b12U⟩, ⟨b13L, b13U⟩, ⟨b14L, b14U⟩, ⟨b15L, b15U⟩, trivial⟩ ⟨⟨w0L, w0U⟩, ⟨w1L, w1U⟩, ⟨w2L, w2U⟩, ⟨w3L, w3U⟩, ⟨w4L, w4U⟩, ⟨w5L, w5U⟩, ⟨w6L, w6U⟩, ⟨w7L, w7U⟩, ⟨w8L, w8U⟩, ⟨w9L, w9U⟩, ⟨w10L, w10U⟩, ⟨w11L, w11U⟩, ⟨w12L, w12U⟩, ⟨w13L, w13U⟩, ⟨w14L, w14U⟩, ⟨w15L, w15U⟩, trivial⟩] at hI
  generalize vS [b0, b1, b2, b3, b4, b5, b6, b7, b8, b9, b10, b11, b12, b13, b14, b15] [w0, w1, w2, w3, w4, w5, w6, w7, w8, w9, w10, w11, w12, w13, w14, w15] [k0, k1, k2, k3, k4, k5, k6, k7, k8, k9, k10, k11, k12, k13, k14, k15] (dr d) = g at hS hI
  generalize fLS [c0, c1, c2, c3, c4, c5, c6, c7, c8, c9, c10, c11, c12, c13, c14, c15] = fin at hS hI
  obtain ⟨x0, x1, x2, x3, x4, x5, x6, x7, x8, x9, x10, x11, x12, x13, x14, x15, e, hw⟩ : ∃ (x0 x1 x2 x3 x4 x5 x6 x7 x8 x9 x10 x11 x12 x13 x14 x15 : Int) (e : Int), delitD (TS g fin d t (cls d64 (lamp d t) [b0, b1, b2, b3, b4, b5, b6, b7, b8, b9, b10, b11, b12, b13, b14, b15] [w0, w1, w2, w3, w4, w5, w6, w7, w8, w9, w10, w11, w12, w13, w14, w15] [k0, k1, k2, k3, k4, k5, k6, k7, k8, k9, k10, k11, k12, k13, k14, k15] [c0, c1, c2, c3, c4, c5, c6, c7, c8, c9, c10, c11, c12, c13, c14, c15])).get.1 = .tup [.agg (List.map (AV.int .i16) [x0, x1, x2, x3, x4, x5, x6, x7, x8, x9, x10, x11, x12, x13, x14, x15]), .int .i64 e] := by
    unfold TS Tr.get
    cases cd g fin d t != 0
    · exact ⟨_, _, _, _, _, _, _, _, _, _, _, _, _, _, _, _, _, rfl⟩
    · exact ⟨_, _, _, _, _, _, _, _, _, _, _, _, _, _, _, _, _, rfl⟩
  have kS := sum_at0 (L := noL) sxApart sxMixed cntK_ok (fun _ _ _ _ => noL_ok) hS (by kernel_rfl) (T := .leaf (.tup [.agg (List.map (AV.int .i16) [x0, x1, x2, x3, x4, x5, x6, x7, x8, x9, x10, x11, x12, x13, x14, x15]), .int .i64 e], none)) (fun _ => hw) (fun _ => ⟨rfl, rfl⟩)
  have kI := sum_at0 (L := noL) sxApart sxMixed cntK_ok (fun _ _ _ _ => noL_ok) hI (by kernel_rfl) (T := .leaf (.tup [.agg (List.map (AV.int .i16) [x0, x1, x2, x3, x4, x5, x6, x7, x8, x9, x10, x11, x12, x13, x14, x15]), .int .i64 e], none)) (fun _ => (TI_TS _ _ _ _ _).trans hw) (fun _ => ⟨rfl, rfl⟩)
  refine ⟨addK 38 _ (addK 40 _ extK), addK_ok kS (addK_ok kI extK_ok), .leaf (.bool (cond (cond (!eqc [x0, x1, x2, x3, x4, x5, x6, x7, x8, x9, x10, x11, x12, x13, x14, x15]) true (e != e)) false true), none), ?_, ?_⟩
  · have h : evF Try.prog (addK 38 (runAt [.agg (gcells [b0, b1, b2, b3, b4, b5, b6, b7, b8, b9, b10, b11, b12, b13, b14, b15] [w0, w1, w2, w3, w4, w5, w6, w7, w8, w9, w10, w11, w12, w13, w14, w15] [k0, k1, k2, k3, k4, k5, k6, k7, k8, k9, k10, k11, k12, k13, k14, k15] d), .agg (List.map (AV.flt .f32) [c0, c1, c2, c3, c4, c5, c6, c7, c8, c9, c10, c11, c12, c13, c14, c15]), .int .i64 t] (.leaf (.tup [.agg (List.map (AV.int .i16) [x0, x1, x2, x3, x4, x5, x6, x7, x8, x9, x10, x11, x12, x13, x14, x15]), .int .i64 e], none)) true) (addK 40 (runAt [.agg (gcells [b0, b1, b2, b3, b4, b5, b6, b7, b8, b9, b10, b11, b12, b13, b14, b15] [w0, w1, w2, w3, w4, w5, w6, w7, w8, w9, w10, w11, w12, w13, w14, w15] [k0, k1, k2, k3, k4, k5, k6, k7, k8, k9, k10, k11, k12, k13, k14, k15] d), .agg (List.map (AV.flt .f32) [c0, c1, c2, c3, c4, c5, c6, c7, c8, c9, c10, c11, c12, c13, c14, c15]), .int .i64 t] (.leaf (.tup [.agg (List.map (AV.int .i16) [x0, x1, x2, x3, x4, x5, x6, x7, x8, x9, x10, x11, x12, x13, x14, x15]), .int .i64 e], none)) true) extK)) noL lawN lawD 11 [.agg (gcells [b0, b1, b2, b3, b4, b5, b6, b7, b8, b9, b10, b11, b12, b13, b14, b15] [w0, w1, w2, w3, w4, w5, w6, w7, w8, w9, w10, w11, w12, w13, w14, w15] [k0, k1, k2, k3, k4, k5, k6, k7, k8, k9, k10, k11, k12, k13, k14, k15] d), .agg (List.map (AV.flt .f32) [c0, c1, c2, c3, c4, c5, c6, c7, c8, c9, c10, c11, c12, c13, c14, c15]), .int .i64 t] [] = some (.leaf (.bool (cond (cond (!eqc [x0, x1, x2, x3, x4, x5, x6, x7, x8, x9, x10, x11, x12, x13, x14, x15]) true (e != e)) false true), none), andB (andB (andB (deq [.agg (gcells [b0, b1, b2, b3, b4, b5, b6, b7, b8, b9, b10, b11, b12, b13, b14, b15] [w0, w1, w2, w3, w4, w5, w6, w7, w8, w9, w10, w11, w12, w13, w14, w15] [k0, k1, k2, k3, k4, k5, k6, k7, k8, k9, k10, k11, k12, k13, k14, k15] d), .agg (List.map (AV.flt .f32) [c0, c1, c2, c3, c4, c5, c6, c7, c8, c9, c10, c11, c12, c13, c14, c15]), .int .i64 t] [.agg (gcells [b0, b1, b2, b3, b4, b5, b6, b7, b8, b9, b10, b11, b12, b13, b14, b15] [w0, w1, w2, w3, w4, w5, w6, w7, w8, w9, w10, w11, w12, w13, w14, w15] [k0, k1, k2, k3, k4, k5, k6, k7, k8, k9, k10, k11, k12, k13, k14, k15] d), .agg (List.map (AV.flt .f32) [c0, c1, c2, c3, c4, c5, c6, c7, c8, c9, c10, c11, c12, c13, c14, c15]), .int .i64 t]) true) true) (andB (andB (andB (deq [.agg (gcells [b0, b1, b2, b3, b4, b5, b6, b7, b8, b9, b10, b11, b12, b13, b14, b15] [w0, w1, w2, w3, w4, w5, w6, w7, w8, w9, w10, w11, w12, w13, w14, w15] [k0, k1, k2, k3, k4, k5, k6, k7, k8, k9, k10, k11, k12, k13, k14, k15] d), .agg (List.map (AV.flt .f32) [c0, c1, c2, c3, c4, c5, c6, c7, c8, c9, c10, c11, c12, c13, c14, c15]), .int .i64 t] [.agg (gcells [b0, b1, b2, b3, b4, b5, b6, b7, b8, b9, b10, b11, b12, b13, b14, b15] [w0, w1, w2, w3, w4, w5, w6, w7, w8, w9, w10, w11, w12, w13, w14, w15] [k0, k1, k2, k3, k4, k5, k6, k7, k8, k9, k10, k11, k12, k13, k14, k15] d), .agg (List.map (AV.flt .f32) [c0, c1, c2, c3, c4, c5, c6, c7, c8, c9, c10, c11, c12, c13, c14, c15]), .int .i64 t]) true) true) true)) := by kernel_rfl
    rw [deq_self] at h
    exact h
  · simp [Tr.get, delit, eqc]

set_option maxRecDepth 100000 in
theorem lifted (os : Os) (started : os.Started) (H : Type) (enc : TypeId × Value → H) :
    ReturnsInHanded {} Try.checked os 11 .any (Rows.fnExactCountsOfSpec.pre6 enc Try.prog Try.f11 Rows.fnExactCountsOfRow.domain false) (Rows.fnExactCountsOfSpec.post enc Try.prog Try.f11 false true false false) := by
  refine returnsInHanded_of_change (C := Try.checked) sxOwn started (by kernel_rfl) Try.func11
    (ChangeSpec.witness6 (enc := enc) (C := Try.checked) false ⟨#[], #[.agg #[.int .i16 0, .int .i16 0, .int .i16 0, .int .i16 0, .int .i16 0, .int .i16 0, .int .i16 0, .int .i16 0, .int .i16 0, .int .i16 0, .int .i16 0, .int .i16 0, .int .i16 0, .int .i16 0, .int .i16 0, .int .i16 0, .int .i16 0, .int .i16 0, .int .i16 0, .int .i16 0, .int .i16 0, .int .i16 0, .int .i16 0, .int .i16 0, .int .i16 0, .int .i16 0, .int .i16 0, .int .i16 0, .int .i16 0, .int .i16 0, .int .i16 0, .int .i16 0, .float .f32 0, .float .f32 0, .float .f32 0, .float .f32 0, .float .f32 0, .float .f32 0, .float .f32 0, .float .f32 0, .float .f32 0, .float .f32 0, .float .f32 0, .float .f32 0, .float .f32 0, .float .f32 0, .float .f32 0, .float .f32 0, .float .f32 0], .agg #[.float .f32 0, .float .f32 0, .float .f32 0, .float .f32 0, .float .f32 0, .float .f32 0, .float .f32 0, .float .f32 0, .float .f32 0, .float .f32 0, .float .f32 0, .float .f32 0, .float .f32 0, .float .f32 0, .float .f32 0, .float .f32 0], .int .i64 0], []⟩ 8 (by kernel_rfl) (by kernel_rfl) (by kernel_rfl) (by kernel_rfl)) ?_
  intro W base args ds gs before hval0 hW hcnd _
  have hval : ∀ (j : Nat) t v, Try.f11.params[j]? = some t → args[j]? = some v → Value.okWide Try.prog W .any base t v := hval0
  have hW' := hW
  obtain ⟨p, q, hA0, hV, rfl, hfz, hnd⟩ := hW
  have hA : DataW.TrodAll enc Try.prog W 0 (fun _ => true) true Try.f11.params.toList args.toList ds p := hA0
  rw [Try.params11] at hA hval
  obtain ⟨v0, vs0, d0, ds0, p0, q0, hargs, rfl, rfl, h0, r0⟩ := trodAll_cons hA
  obtain ⟨v1, vs1, d1, ds1, p1, q1, rfl, rfl, rfl, h1, r1⟩ := trodAll_cons r0
  obtain ⟨v2, vs2, d2, ds2, p2, q2, rfl, rfl, rfl, h2, r2⟩ := trodAll_cons r1
  obtain ⟨rfl, rfl, rfl⟩ := trodAll_nil r2
  obtain rfl : args = #[v0, v1, v2] := by cases args; simp_all
  obtain ⟨rfl, rfl⟩ := trodVars_none hV
  have hrel0 : HRel [] [] W := ⟨rfl, fun b x p h => by simp at h, fun b c x y p q _ h => by simp at h⟩
  have hro0 := ro_nil
  obtain ⟨l0, t0, e0⟩ := arg_agg (ρ := []) (ts := [23, 23, 23, 23, 23, 23, 23, 23, 23, 23, 23, 23, 23, 23, 23, 23, 23, 23, 23, 23, 23, 23, 23, 23, 23, 23, 23, 23, 23, 23, 23, 23, 22, 22, 22, 22, 22, 22, 22, 22, 22, 22, 22, 22, 22, 22, 22, 22, 22]) (ks := [.int .i16, .int .i16, .int .i16, .int .i16, .int .i16, .int .i16, .int .i16, .int .i16, .int .i16, .int .i16, .int .i16, .int .i16, .int .i16, .int .i16, .int .i16, .int .i16, .int .i16, .int .i16, .int .i16, .int .i16, .int .i16, .int .i16, .int .i16, .int .i16, .int .i16, .int .i16, .int .i16, .int .i16, .int .i16, .int .i16, .int .i16, .int .i16, .flt .f32, .flt .f32, .flt .f32, .flt .f32, .flt .f32, .flt .f32, .flt .f32, .flt .f32, .flt .f32, .flt .f32, .flt .f32, .flt .f32, .flt .f32, .flt .f32, .flt .f32, .flt .f32, .flt .f32]) (hval 0 29 v0 rfl rfl) (by kernel_rfl) (by kernel_rfl) (by kernel_rfl) (by kernel_rfl)
  obtain ⟨l1, t1, e1⟩ := arg_agg (ρ := []) (ts := [22, 22, 22, 22, 22, 22, 22, 22, 22, 22, 22, 22, 22, 22, 22, 22]) (ks := [.flt .f32, .flt .f32, .flt .f32, .flt .f32, .flt .f32, .flt .f32, .flt .f32, .flt .f32, .flt .f32, .flt .f32, .flt .f32, .flt .f32, .flt .f32, .flt .f32, .flt .f32, .flt .f32]) (hval 1 27 v1 rfl rfl) (by kernel_rfl) (by kernel_rfl) (by kernel_rfl) (by kernel_rfl)
  obtain ⟨l2, t2, e2⟩ := arg_cell (ρ := []) (k := .int .i64) (hval 2 2 v2 rfl rfl) (by kernel_rfl)
  have k0 := h0
  have lt0 : ∀ x ∈ p0, x.block < W.heap.size := by obtain ⟨m, hm⟩ := k0; exact DataW.trod_lt m _ _ _ hm
  have k1 := h1
  have lt1 : ∀ x ∈ p1, x.block < W.heap.size := by obtain ⟨m, hm⟩ := k1; exact DataW.trod_lt m _ _ _ hm
  have k2 := h2
  have lt2 : ∀ x ∈ p2, x.block < W.heap.size := by obtain ⟨m, hm⟩ := k2; exact DataW.trod_lt m _ _ _ hm
  have hargs : VRels [] [.agg l0, .agg l1, l2] [v0, v1, v2] := by
    simp only [VRels]
    exact ⟨v0, _, rfl, e0, ⟨v1, _, rfl, e1, ⟨v2, _, rfl, e2, rfl⟩⟩⟩
  obtain ⟨lawK, lawK_ok, hlaw⟩ := law l0 t0 l1 t1 l2 t2
  refine (evF_true (K := lawK) (L := noL) (N := lawN) (d := lawD) sxApart sxMixed lawK_ok (fun _ _ _ _ => noL_ok) hlaw hrel0 hro0 hargs).mono fun e W' ⟨he, bel⟩ => ?_
  subst he
  exact ⟨_, rfl, _, _, _, [], _, [], hW', trodAll_mk1 (shut_bool Try.underlying4 _), (trodAll_cons_mk (Below.trod sxLaid (by kernel_rfl) (of_decide_eq_true (by kernel_rfl)) k0 bel lt0) (trodAll_cons_mk (Below.trod sxLaid (by kernel_rfl) (of_decide_eq_true (by kernel_rfl)) k1 bel lt1) (trodAll_cons_mk (Below.trod sxLaid (by kernel_rfl) (of_decide_eq_true (by kernel_rfl)) k2 bel lt2) trodAll_mk0))), rfl, bel.frame _, fun h => by cases h⟩

theorem over : Rows.fnExactCountsOfRow.holds Try.pinned (OpenSpec.ofChange Rows.fnExactCountsOfSpec) :=
  OpenClaim.holds_of_wide 11 Try.f11 rfl rfl rfl rfl rfl rfl rfl ⟨rfl, rfl, rfl, rfl, rfl⟩ rfl rfl rfl rfl rfl (by kernel_rfl) Try.func11 (by kernel_rfl)
    (of_decide_eq_true (by kernel_rfl)) (by unfold Func.isWrapper; first | (rw [if_pos (by decide +kernel)]; kernel_rfl) | (rw [if_neg (by decide +kernel)]; exact ⟨rfl, rfl⟩))
    (fun os started H enc _ => lifted os started H enc)

/-- The statement. -/
theorem proved : Rows.FnExactCountsOfSaid := over
#print axioms proved
end Go.Proofs.Ytodbpecmaiidpaa.lawCountsOf
