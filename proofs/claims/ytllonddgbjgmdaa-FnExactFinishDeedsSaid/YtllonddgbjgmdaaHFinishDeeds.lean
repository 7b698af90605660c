/- Texts of one claim, put together. -/
import Derived.Test.YtllonddgbjgmdaaRows
import Derived.WalkKit
import Derived.ProofKit
import Derived.OpenShut
import Derived.ChangeOld
import Derived.Below
import Derived.Test.YtllonddgbjgmdaaSxK2
import Derived.Test.YtllonddgbjgmdaaSxFr
import Derived.Test.YtllonddgbjgmdaaG12
import Derived.Test.YtllonddgbjgmdaaG10
import Derived.Test.YtllonddgbjgmdaaXSxW7
namespace Go.Proofs.Ytllonddgbjgmdaa.lawFinishDeeds
open Go.ChangeShapes Go.WideShapes Go.ChangeAt Go.RowKit Go.Sx
set_option linter.unusedVariables false
set_option linter.unusedSimpArgs false
set_option maxRecDepth 100000
def lawN : Nat := 20
def lawD : Nat := 8

open Go.Proofs.Ytllonddgbjgmdaa.W1 Go.Proofs.Ytllonddgbjgmdaa.W3 Go.Proofs.Ytllonddgbjgmdaa.W4 Go.Proofs.Ytllonddgbjgmdaa.W7 Go.Proofs.Ytllonddgbjgmdaa.W9 Go.Proofs.Ytllonddgbjgmdaa.W10 Go.Proofs.Ytllonddgbjgmdaa.P13 Go.Proofs.Ytllonddgbjgmdaa.P14 Go.Proofs.Ytllonddgbjgmdaa.P29 Go.Proofs.Ytllonddgbjgmdaa.P31 Go.Sx.R0

noncomputable def KD (n : Nat) (c : Bt) (K : CallerT) : CallerT := K1 n c (addK 34 (selRun Dd.runTo) (addK 36 (selRun Dd.runEqS) (addK 43 (selRunM Dd.runMark) (addK 44 (selRun Dd.runHeld) (addK 65 (selRunM runMq) K)))))
theorem KD_ok (n : Nat) (c : Bt) {K : CallerT} (hK : CallerTOk Try.prog K) : CallerTOk Try.prog (KD n c K) := K1_ok n c (addK_ok Dd.to_ok (addK_ok Dd.eq_ok (addK_ok Dd.mark_ok (addK_ok Dd.held_ok (addK_ok mq_ok hK)))))
noncomputable def KX (r : Int) (n : Nat) (c : Bt) (m : Nat) (d : Dd) (xs xi : AV × Option (List Blk)) (g : Bool) : CallerT := addK 41 (runFd r n m c d xs g) (addK 42 (runFd r n m c d xi g) extK)
theorem KX_ok {r : Int} {n : Nat} {c : Bt} {m : Nat} {d : Dd} {xs xi : AV × Option (List Blk)} {g : Bool} (h1 : SumOk Try.prog 41 (runFd r n m c d xs g)) (h2 : SumOk Try.prog 42 (runFd r n m c d xi g)) : CallerTOk Try.prog (KX r n c m d xs xi g) := addK_ok h1 (addK_ok h2 extK_ok)
def dks : List LK := [.int .i64, .int .i64]
def dOf (f : Nat → List AV) : Dd := ⟨fun i => getI (gt (f i) 0), fun i => getI (gt (f i) 1)⟩
theorem canonD (f : Nat → List AV) : (fun i => canonR dks 0 (f i)) = (dOf f).row := rfl
noncomputable def neg2 (n : Nat) (c : Bt) (m : Nat) : Bool := decide (Ln (IntKind.i64.wrap (Ln (szB n c 1048576) - (m : Int))) < 0)
def n2 (r : Bool) : Bool := bif bif r then false else true then false else true
def n3 (r : Bool) : Bool := bif n2 r then false else true
-- no list
def nx (x : Bool) : Bool := bif x then false else true
def valX (A B x r : Bool) : Bool := bif A then true else bif B then true else bif nx x then false else bif n3 r then false else bif false then false else bif nx x then false else bif nx x then false else true
def owX (A B x r q0 t k1 w e1 kd mb md : Bool) : Bool := andB (andB q0 true) (impB (!A) (impB (!B) (andB (andB t true) (andB k1 (andB w (andB (andB t true) (andB k1 (andB w (impB (!nx x) (andB (andB (andB t true) true) (andB (impB (n2 r) (andB e1 true)) (impB (!n3 r) (andB k1 (andB kd (impB (!false) (andB (andB mb true) (andB md (impB (!nx x) (andB (andB t true) (andB k1 (andB w true)))))))))))))))))))))
theorem hX1 (r : Int) (n : Nat) (c : Bt) (m : Nat) (d : Dd) (x : Int) (g : Bool) : evF Try.prog (KD n c (KX r n c m d (lfL 1 n m c d 0 zD x) (lfE x) g)) noL lawN lawD 11 [.agg [.int .i64 r, .slc 0 0 n], .slc 1 0 m] [.rows false n 9 c.row, .rows false m 2 d.row] =
      some (.leaf (.bool (valX (neg1 n c) (neg2 n c m) (x == x) (r == r)), none), owX (neg1 n c) (neg2 n c m) (x == x) (r == r) (okSz n c 1048576) (Bt.okT n c) (Dd.okT m d) (okRf r n m c d g) (Bt.okE n c) (Dd.okE m d) (okQ n c.row 1) (Dd.okM m d (1 + 9 * (n : Int)))) := by kernel_rfl
theorem hX14 (r : Int) (n : Nat) (c : Bt) (m : Nat) (d : Dd) (x : Int) (g : Bool) : evF Try.prog (KD n c (KX r n c m d (lfL 14 n m c d 0 zD x) (lfE x) g)) noL lawN lawD 11 [.agg [.int .i64 r, .slc 0 0 n], .slc 1 0 m] [.rows false n 9 c.row, .rows false m 2 d.row] =
      some (.leaf (.bool (valX (neg1 n c) (neg2 n c m) (x == x) (r == r)), none), owX (neg1 n c) (neg2 n c m) (x == x) (r == r) (okSz n c 1048576) (Bt.okT n c) (Dd.okT m d) (okRf r n m c d g) (Bt.okE n c) (Dd.okE m d) (okQ n c.row 1) (Dd.okM m d (1 + 9 * (n : Int)))) := by kernel_rfl
theorem hX15 (r : Int) (n : Nat) (c : Bt) (m : Nat) (d : Dd) (x : Int) (g : Bool) : evF Try.prog (KD n c (KX r n c m d (lfL 15 n m c d 0 zD x) (lfE x) g)) noL lawN lawD 11 [.agg [.int .i64 r, .slc 0 0 n], .slc 1 0 m] [.rows false n 9 c.row, .rows false m 2 d.row] =
      some (.leaf (.bool (valX (neg1 n c) (neg2 n c m) (x == x) (r == r)), none), owX (neg1 n c) (neg2 n c m) (x == x) (r == r) (okSz n c 1048576) (Bt.okT n c) (Dd.okT m d) (okRf r n m c d g) (Bt.okE n c) (Dd.okE m d) (okQ n c.row 1) (Dd.okM m d (1 + 9 * (n : Int)))) := by kernel_rfl
theorem hX16 (r : Int) (n : Nat) (c : Bt) (m : Nat) (d : Dd) (x : Int) (g : Bool) : evF Try.prog (KD n c (KX r n c m d (lfL 16 n m c d 0 zD x) (lfE x) g)) noL lawN lawD 11 [.agg [.int .i64 r, .slc 0 0 n], .slc 1 0 m] [.rows false n 9 c.row, .rows false m 2 d.row] =
      some (.leaf (.bool (valX (neg1 n c) (neg2 n c m) (x == x) (r == r)), none), owX (neg1 n c) (neg2 n c m) (x == x) (r == r) (okSz n c 1048576) (Bt.okT n c) (Dd.okT m d) (okRf r n m c d g) (Bt.okE n c) (Dd.okE m d) (okQ n c.row 1) (Dd.okM m d (1 + 9 * (n : Int)))) := by kernel_rfl
theorem hX17 (r : Int) (n : Nat) (c : Bt) (m : Nat) (d : Dd) (x : Int) (g : Bool) : evF Try.prog (KD n c (KX r n c m d (lfL 17 n m c d 0 zD x) (lfE x) g)) noL lawN lawD 11 [.agg [.int .i64 r, .slc 0 0 n], .slc 1 0 m] [.rows false n 9 c.row, .rows false m 2 d.row] =
      some (.leaf (.bool (valX (neg1 n c) (neg2 n c m) (x == x) (r == r)), none), owX (neg1 n c) (neg2 n c m) (x == x) (r == r) (okSz n c 1048576) (Bt.okT n c) (Dd.okT m d) (okRf r n m c d g) (Bt.okE n c) (Dd.okE m d) (okQ n c.row 1) (Dd.okM m d (1 + 9 * (n : Int)))) := by kernel_rfl
-- a list
def valV (A B x r g : Bool) : Bool := bif A then true else bif B then true else bif nx x then false else bif n3 r then false else bif false then false else bif nx x then false else bif false then false else bif nx g then false else bif nx x then false else bif false then false else bif nx g then false else true
def owV (A B x r g q0 t k1 ws wi e1 kd mb md eq mk hd : Bool) : Bool := andB (andB q0 true) (impB (!A) (impB (!B) (andB (andB t true) (andB k1 (andB ws (andB (andB t true) (andB k1 (andB wi (andB eq (impB (!nx x) (andB (andB (andB t true) true) (andB (impB (n2 r) (andB e1 true)) (impB (!n3 r) (andB k1 (andB kd (impB (!false) (andB (andB mb true) (andB md (andB (andB (andB eq true) true) (impB (!nx x) (andB mk (andB hd (impB (!false) (impB (!nx g) (andB (andB t true) (andB k1 (andB wi (andB eq (impB (!nx x) (andB hd true))))))))))))))))))))))))))))))
def g2 (l : Nat) : Bool := (1 + 2 * (l : Int)) == (1 + 2 * (l : Int))
theorem hV1 (r : Int) (n : Nat) (c : Bt) (m : Nat) (d D : Dd) (l : Nat) (x : Int) (g : Bool) : evF Try.prog (KD n c (KX r n c m d (lfL (12 + 1) n m c d l D.row x) (lfL 2 n m c d l D.row x) g)) noL lawN lawD 11 [.agg [.int .i64 r, .slc 0 0 n], .slc 1 0 m] [.rows false n 9 c.row, .rows false m 2 d.row] =
      some (.leaf (.bool (valV (neg1 n c) (neg2 n c m) (x == x) (r == r) (g2 l)), none), owV (neg1 n c) (neg2 n c m) (x == x) (r == r) (g2 l) (okSz n c 1048576) (Bt.okT n c) (Dd.okT m d) (okRf r n m c d g) (okRf r n m c d g) (Bt.okE n c) (Dd.okE m d) (okQ n c.row 1) (Dd.okM m d (1 + 9 * (n : Int))) (Dd.okE l D) (Dd.okM l D 1) (Dd.okH l 1)) := by kernel_rfl
theorem hV2 (r : Int) (n : Nat) (c : Bt) (m : Nat) (d D : Dd) (l : Nat) (x : Int) (g : Bool) : evF Try.prog (KD n c (KX r n c m d (lfL (12 + 2) n m c d l D.row x) (lfL 2 n m c d l D.row x) g)) noL lawN lawD 11 [.agg [.int .i64 r, .slc 0 0 n], .slc 1 0 m] [.rows false n 9 c.row, .rows false m 2 d.row] =
      some (.leaf (.bool (valV (neg1 n c) (neg2 n c m) (x == x) (r == r) (g2 l)), none), owV (neg1 n c) (neg2 n c m) (x == x) (r == r) (g2 l) (okSz n c 1048576) (Bt.okT n c) (Dd.okT m d) (okRf r n m c d g) (okRf r n m c d g) (Bt.okE n c) (Dd.okE m d) (okQ n c.row 1) (Dd.okM m d (1 + 9 * (n : Int))) (Dd.okE l D) (Dd.okM l D 1) (Dd.okH l 1)) := by kernel_rfl
theorem hV3 (r : Int) (n : Nat) (c : Bt) (m : Nat) (d D : Dd) (l : Nat) (x : Int) (g : Bool) : evF Try.prog (KD n c (KX r n c m d (lfL (12 + 3) n m c d l D.row x) (lfL 2 n m c d l D.row x) g)) noL lawN lawD 11 [.agg [.int .i64 r, .slc 0 0 n], .slc 1 0 m] [.rows false n 9 c.row, .rows false m 2 d.row] =
      some (.leaf (.bool (valV (neg1 n c) (neg2 n c m) (x == x) (r == r) (g2 l)), none), owV (neg1 n c) (neg2 n c m) (x == x) (r == r) (g2 l) (okSz n c 1048576) (Bt.okT n c) (Dd.okT m d) (okRf r n m c d g) (okRf r n m c d g) (Bt.okE n c) (Dd.okE m d) (okQ n c.row 1) (Dd.okM m d (1 + 9 * (n : Int))) (Dd.okE l D) (Dd.okM l D 1) (Dd.okH l 1)) := by kernel_rfl
theorem hV4 (r : Int) (n : Nat) (c : Bt) (m : Nat) (d D : Dd) (l : Nat) (x : Int) (g : Bool) : evF Try.prog (KD n c (KX r n c m d (lfL (12 + 4) n m c d l D.row x) (lfL 2 n m c d l D.row x) g)) noL lawN lawD 11 [.agg [.int .i64 r, .slc 0 0 n], .slc 1 0 m] [.rows false n 9 c.row, .rows false m 2 d.row] =
      some (.leaf (.bool (valV (neg1 n c) (neg2 n c m) (x == x) (r == r) (g2 l)), none), owV (neg1 n c) (neg2 n c m) (x == x) (r == r) (g2 l) (okSz n c 1048576) (Bt.okT n c) (Dd.okT m d) (okRf r n m c d g) (okRf r n m c d g) (Bt.okE n c) (Dd.okE m d) (okQ n c.row 1) (Dd.okM m d (1 + 9 * (n : Int))) (Dd.okE l D) (Dd.okM l D 1) (Dd.okH l 1)) := by kernel_rfl
theorem imp2 (a b : Bool) (x : Bool) (h : a = true ∨ b = true) : andB (andB true true) (impB (!a) (impB (!b) x)) = true := by
  cases a <;> cases b <;> cases x <;> first | rfl | (rcases h with h | h <;> cases h)
theorem owX_t {A B x r q0 t k1 w e1 kd mb md : Bool} (hq : q0 = true) (h : A = false → B = false → t = true ∧ k1 = true ∧ w = true ∧ e1 = true ∧ kd = true ∧ mb = true ∧ md = true) : owX A B x r q0 t k1 w e1 kd mb md = true := by
  subst hq
  cases A with
  | true => exact imp2 _ _ _ (.inl rfl)
  | false =>
    cases B with
    | true => exact imp2 _ _ _ (.inr rfl)
    | false =>
      obtain ⟨rfl, rfl, rfl, rfl, rfl, rfl, rfl⟩ := h rfl rfl
      cases x <;> cases r <;> rfl
theorem owV_t {A B x r g q0 t k1 ws wi e1 kd mb md eq mk hd : Bool} (hq : q0 = true) (h : A = false → B = false → t = true ∧ k1 = true ∧ ws = true ∧ wi = true ∧ e1 = true ∧ kd = true ∧ mb = true ∧ md = true ∧ eq = true ∧ mk = true ∧ hd = true) : owV A B x r g q0 t k1 ws wi e1 kd mb md eq mk hd = true := by
  subst hq
  cases A with
  | true => exact imp2 _ _ _ (.inl rfl)
  | false =>
    cases B with
    | true => exact imp2 _ _ _ (.inr rfl)
    | false =>
      obtain ⟨rfl, rfl, rfl, rfl, rfl, rfl, rfl, rfl, rfl, rfl, rfl⟩ := h rfl rfl
      cases x <;> cases r <;> cases g <;> rfl
theorem valX_t : ∀ A B : Bool, valX A B true true = true := by decide
theorem valV_t : ∀ A B : Bool, valV A B true true true = true := by decide
theorem g2_t (l : Nat) : g2 l = true := by unfold g2; simp
/-- what is owed for what comes in -/
def Ow (n : Nat) (c : Bt) (m : Nat) (d : Dd) : Prop := neg1 n c = false → neg2 n c m = false → Bt.okT n c = true ∧ Dd.okT m d = true ∧ Bt.okE n c = true ∧ Dd.okE m d = true ∧ okQ n c.row 1 = true ∧ Dd.okM m d (1 + 9 * (n : Int)) = true
theorem lawX1 {r : Int} {n : Nat} {c : Bt} {m : Nat} {d : Dd} {x : Int} {g : Bool} (ln : n ≤ 9223372036854775807) (ho : Ow n c m d) (hg : neg1 n c = false → neg2 n c m = false → g = true) (h1 : SumOk Try.prog 41 (runFd r n m c d (lfL 1 n m c d 0 zD x) g)) (h2 : SumOk Try.prog 42 (runFd r n m c d (lfE x) g)) : ∃ K, CallerTOk Try.prog K ∧ ∃ t, evF Try.prog K noL lawN lawD 11 [.agg [.int .i64 r, .slc 0 0 n], .slc 1 0 m] [.rows false n 9 c.row, .rows false m 2 d.row] = some (t, true) ∧ delit t.get.1 = .bool true := by
  have h := hX1 r n c m d x g
  have o := owX_t (x := (x == x)) (r := (r == r)) (okSz_true ln c 1048576) (w := okRf r n m c d g) (fun ha hb => by
    obtain ⟨a1, a2, a3, a4, a5, a6⟩ := ho ha hb
    exact ⟨a1, a2, okRf_true _ n m c d (hg ha hb), a3, a4, a5, a6⟩)
  refine ⟨_, KD_ok n c (KX_ok h1 h2), _, h.trans (congrArg (fun b => some (_, b)) o), ?_⟩
  simp only [Tr.get, delit, beq_self_eq_true, valX_t]
theorem lawX14 {r : Int} {n : Nat} {c : Bt} {m : Nat} {d : Dd} {x : Int} {g : Bool} (ln : n ≤ 9223372036854775807) (ho : Ow n c m d) (hg : neg1 n c = false → neg2 n c m = false → g = true) (h1 : SumOk Try.prog 41 (runFd r n m c d (lfL 14 n m c d 0 zD x) g)) (h2 : SumOk Try.prog 42 (runFd r n m c d (lfE x) g)) : ∃ K, CallerTOk Try.prog K ∧ ∃ t, evF Try.prog K noL lawN lawD 11 [.agg [.int .i64 r, .slc 0 0 n], .slc 1 0 m] [.rows false n 9 c.row, .rows false m 2 d.row] = some (t, true) ∧ delit t.get.1 = .bool true := by
  have h := hX14 r n c m d x g
  have o := owX_t (x := (x == x)) (r := (r == r)) (okSz_true ln c 1048576) (w := okRf r n m c d g) (fun ha hb => by
    obtain ⟨a1, a2, a3, a4, a5, a6⟩ := ho ha hb
    exact ⟨a1, a2, okRf_true _ n m c d (hg ha hb), a3, a4, a5, a6⟩)
  refine ⟨_, KD_ok n c (KX_ok h1 h2), _, h.trans (congrArg (fun b => some (_, b)) o), ?_⟩
  simp only [Tr.get, delit, beq_self_eq_true, valX_t]
theorem lawX15 {r : Int} {n : Nat} {c : Bt} {m : Nat} {d : Dd} {x : Int} {g : Bool} (ln : n ≤ 9223372036854775807) (ho : Ow n c m d) (hg : neg1 n c = false → neg2 n c m = false → g = true) (h1 : SumOk Try.prog 41 (runFd r n m c d (lfL 15 n m c d 0 zD x) g)) (h2 : SumOk Try.prog 42 (runFd r n m c d (lfE x) g)) : ∃ K, CallerTOk Try.prog K ∧ ∃ t, evF Try.prog K noL lawN lawD 11 [.agg [.int .i64 r, .slc 0 0 n], .slc 1 0 m] [.rows false n 9 c.row, .rows false m 2 d.row] = some (t, true) ∧ delit t.get.1 = .bool true := by
  have h := hX15 r n c m d x g
  have o := owX_t (x := (x == x)) (r := (r == r)) (okSz_true ln c 1048576) (w := okRf r n m c d g) (fun ha hb => by
    obtain ⟨a1, a2, a3, a4, a5, a6⟩ := ho ha hb
    exact ⟨a1, a2, okRf_true _ n m c d (hg ha hb), a3, a4, a5, a6⟩)
  refine ⟨_, KD_ok n c (KX_ok h1 h2), _, h.trans (congrArg (fun b => some (_, b)) o), ?_⟩
  simp only [Tr.get, delit, beq_self_eq_true, valX_t]
theorem lawX16 {r : Int} {n : Nat} {c : Bt} {m : Nat} {d : Dd} {x : Int} {g : Bool} (ln : n ≤ 9223372036854775807) (ho : Ow n c m d) (hg : neg1 n c = false → neg2 n c m = false → g = true) (h1 : SumOk Try.prog 41 (runFd r n m c d (lfL 16 n m c d 0 zD x) g)) (h2 : SumOk Try.prog 42 (runFd r n m c d (lfE x) g)) : ∃ K, CallerTOk Try.prog K ∧ ∃ t, evF Try.prog K noL lawN lawD 11 [.agg [.int .i64 r, .slc 0 0 n], .slc 1 0 m] [.rows false n 9 c.row, .rows false m 2 d.row] = some (t, true) ∧ delit t.get.1 = .bool true := by
  have h := hX16 r n c m d x g
  have o := owX_t (x := (x == x)) (r := (r == r)) (okSz_true ln c 1048576) (w := okRf r n m c d g) (fun ha hb => by
    obtain ⟨a1, a2, a3, a4, a5, a6⟩ := ho ha hb
    exact ⟨a1, a2, okRf_true _ n m c d (hg ha hb), a3, a4, a5, a6⟩)
  refine ⟨_, KD_ok n c (KX_ok h1 h2), _, h.trans (congrArg (fun b => some (_, b)) o), ?_⟩
  simp only [Tr.get, delit, beq_self_eq_true, valX_t]
theorem lawX17 {r : Int} {n : Nat} {c : Bt} {m : Nat} {d : Dd} {x : Int} {g : Bool} (ln : n ≤ 9223372036854775807) (ho : Ow n c m d) (hg : neg1 n c = false → neg2 n c m = false → g = true) (h1 : SumOk Try.prog 41 (runFd r n m c d (lfL 17 n m c d 0 zD x) g)) (h2 : SumOk Try.prog 42 (runFd r n m c d (lfE x) g)) : ∃ K, CallerTOk Try.prog K ∧ ∃ t, evF Try.prog K noL lawN lawD 11 [.agg [.int .i64 r, .slc 0 0 n], .slc 1 0 m] [.rows false n 9 c.row, .rows false m 2 d.row] = some (t, true) ∧ delit t.get.1 = .bool true := by
  have h := hX17 r n c m d x g
  have o := owX_t (x := (x == x)) (r := (r == r)) (okSz_true ln c 1048576) (w := okRf r n m c d g) (fun ha hb => by
    obtain ⟨a1, a2, a3, a4, a5, a6⟩ := ho ha hb
    exact ⟨a1, a2, okRf_true _ n m c d (hg ha hb), a3, a4, a5, a6⟩)
  refine ⟨_, KD_ok n c (KX_ok h1 h2), _, h.trans (congrArg (fun b => some (_, b)) o), ?_⟩
  simp only [Tr.get, delit, beq_self_eq_true, valX_t]
theorem lawV1 {r : Int} {n : Nat} {c : Bt} {m : Nat} {d D : Dd} {l : Nat} {x : Int} {g : Bool} (ln : n ≤ 9223372036854775807) (ho : Ow n c m d) (hl : l ≤ 1000) (hg : g = true) (h1 : SumOk Try.prog 41 (runFd r n m c d (lfL (12 + 1) n m c d l D.row x) g)) (h2 : SumOk Try.prog 42 (runFd r n m c d (lfL 2 n m c d l D.row x) g)) : ∃ K, CallerTOk Try.prog K ∧ ∃ t, evF Try.prog K noL lawN lawD 11 [.agg [.int .i64 r, .slc 0 0 n], .slc 1 0 m] [.rows false n 9 c.row, .rows false m 2 d.row] = some (t, true) ∧ delit t.get.1 = .bool true := by
  have hf := few_eq
  have bl : Nat.ble l few = true := Nat.ble_eq_true_of_le (by omega)
  have h := hV1 r n c m d D l x g
  have o := owV_t (x := (x == x)) (r := (r == r)) (g := g2 l) (okSz_true ln c 1048576) (ws := okRf r n m c d g) (wi := okRf r n m c d g) (eq := Dd.okE l D) (mk := Dd.okM l D 1) (hd := Dd.okH l 1) (fun ha hb => by
    obtain ⟨a1, a2, a3, a4, a5, a6⟩ := ho ha hb
    exact ⟨a1, a2, okRf_true _ n m c d hg, okRf_true _ n m c d hg, a3, a4, a5, a6, Dd.okE_true bl _, Dd.okM_true bl _ (by omega) (by omega), Dd.okH_true bl (by omega) (by omega)⟩)
  refine ⟨_, KD_ok n c (KX_ok h1 h2), _, h.trans (congrArg (fun b => some (_, b)) o), ?_⟩
  rw [g2_t]
  simp only [Tr.get, delit, beq_self_eq_true, valV_t]
theorem lawV2 {r : Int} {n : Nat} {c : Bt} {m : Nat} {d D : Dd} {l : Nat} {x : Int} {g : Bool} (ln : n ≤ 9223372036854775807) (ho : Ow n c m d) (hl : l ≤ 1000) (hg : g = true) (h1 : SumOk Try.prog 41 (runFd r n m c d (lfL (12 + 2) n m c d l D.row x) g)) (h2 : SumOk Try.prog 42 (runFd r n m c d (lfL 2 n m c d l D.row x) g)) : ∃ K, CallerTOk Try.prog K ∧ ∃ t, evF Try.prog K noL lawN lawD 11 [.agg [.int .i64 r, .slc 0 0 n], .slc 1 0 m] [.rows false n 9 c.row, .rows false m 2 d.row] = some (t, true) ∧ delit t.get.1 = .bool true := by
  have hf := few_eq
  have bl : Nat.ble l few = true := Nat.ble_eq_true_of_le (by omega)
  have h := hV2 r n c m d D l x g
  have o := owV_t (x := (x == x)) (r := (r == r)) (g := g2 l) (okSz_true ln c 1048576) (ws := okRf r n m c d g) (wi := okRf r n m c d g) (eq := Dd.okE l D) (mk := Dd.okM l D 1) (hd := Dd.okH l 1) (fun ha hb => by
    obtain ⟨a1, a2, a3, a4, a5, a6⟩ := ho ha hb
    exact ⟨a1, a2, okRf_true _ n m c d hg, okRf_true _ n m c d hg, a3, a4, a5, a6, Dd.okE_true bl _, Dd.okM_true bl _ (by omega) (by omega), Dd.okH_true bl (by omega) (by omega)⟩)
  refine ⟨_, KD_ok n c (KX_ok h1 h2), _, h.trans (congrArg (fun b => some (_, b)) o), ?_⟩
  rw [g2_t]
  simp only [Tr.get, delit, beq_self_eq_true, valV_t]
theorem lawV3 {r : Int} {n : Nat} {c : Bt} {m : Nat} {d D : Dd} {l : Nat} {x : Int} {g : Bool} (ln : n ≤ 9223372036854775807) (ho : Ow n c m d) (hl : l ≤ 1000) (hg : g = true) (h1 : SumOk Try.prog 41 (runFd r n m c d (lfL (12 + 3) n m c d l D.row x) g)) (h2 : SumOk Try.prog 42 (runFd r n m c d (lfL 2 n m c d l D.row x) g)) : ∃ K, CallerTOk Try.prog K ∧ ∃ t, evF Try.prog K noL lawN lawD 11 [.agg [.int .i64 r, .slc 0 0 n], .slc 1 0 m] [.rows false n 9 c.row, .rows false m 2 d.row] = some (t, true) ∧ delit t.get.1 = .bool true := by
  have hf := few_eq
  have bl : Nat.ble l few = true := Nat.ble_eq_true_of_le (by omega)
  have h := hV3 r n c m d D l x g
  have o := owV_t (x := (x == x)) (r := (r == r)) (g := g2 l) (okSz_true ln c 1048576) (ws := okRf r n m c d g) (wi := okRf r n m c d g) (eq := Dd.okE l D) (mk := Dd.okM l D 1) (hd := Dd.okH l 1) (fun ha hb => by
    obtain ⟨a1, a2, a3, a4, a5, a6⟩ := ho ha hb
    exact ⟨a1, a2, okRf_true _ n m c d hg, okRf_true _ n m c d hg, a3, a4, a5, a6, Dd.okE_true bl _, Dd.okM_true bl _ (by omega) (by omega), Dd.okH_true bl (by omega) (by omega)⟩)
  refine ⟨_, KD_ok n c (KX_ok h1 h2), _, h.trans (congrArg (fun b => some (_, b)) o), ?_⟩
  rw [g2_t]
  simp only [Tr.get, delit, beq_self_eq_true, valV_t]
theorem lawV4 {r : Int} {n : Nat} {c : Bt} {m : Nat} {d D : Dd} {l : Nat} {x : Int} {g : Bool} (ln : n ≤ 9223372036854775807) (ho : Ow n c m d) (hl : l ≤ 1000) (hg : g = true) (h1 : SumOk Try.prog 41 (runFd r n m c d (lfL (12 + 4) n m c d l D.row x) g)) (h2 : SumOk Try.prog 42 (runFd r n m c d (lfL 2 n m c d l D.row x) g)) : ∃ K, CallerTOk Try.prog K ∧ ∃ t, evF Try.prog K noL lawN lawD 11 [.agg [.int .i64 r, .slc 0 0 n], .slc 1 0 m] [.rows false n 9 c.row, .rows false m 2 d.row] = some (t, true) ∧ delit t.get.1 = .bool true := by
  have hf := few_eq
  have bl : Nat.ble l few = true := Nat.ble_eq_true_of_le (by omega)
  have h := hV4 r n c m d D l x g
  have o := owV_t (x := (x == x)) (r := (r == r)) (g := g2 l) (okSz_true ln c 1048576) (ws := okRf r n m c d g) (wi := okRf r n m c d g) (eq := Dd.okE l D) (mk := Dd.okM l D 1) (hd := Dd.okH l 1) (fun ha hb => by
    obtain ⟨a1, a2, a3, a4, a5, a6⟩ := ho ha hb
    exact ⟨a1, a2, okRf_true _ n m c d hg, okRf_true _ n m c d hg, a3, a4, a5, a6, Dd.okE_true bl _, Dd.okM_true bl _ (by omega) (by omega), Dd.okH_true bl (by omega) (by omega)⟩)
  refine ⟨_, KD_ok n c (KX_ok h1 h2), _, h.trans (congrArg (fun b => some (_, b)) o), ?_⟩
  rw [g2_t]
  simp only [Tr.get, delit, beq_self_eq_true, valV_t]
theorem law (x0 : AV) (xk0 : LK.has (.int .i64) x0) (n0 : Nat) (ln0 : n0 ≤ 9223372036854775807) (f0 : Nat → List AV) (tf0 : ∀ i, i < n0 → Typed bks (f0 i)) (n1 : Nat) (ln1 : n1 ≤ 9223372036854775807) (f1 : Nat → List AV) (tf1 : ∀ i, i < n1 → Typed dks (f1 i)) :
    ∃ K, CallerTOk Try.prog K ∧ ∃ t, evF Try.prog K noL lawN lawD 11 [.agg [x0, .slc 0 0 n0], .slc 1 0 n1] [.rows false n0 9 (fun i => canonR bks 0 (f0 i)), .rows false n1 2 (fun i => canonR dks 0 (f1 i))] = some (t, true) ∧ delit t.get.1 = .bool true := by
  obtain ⟨r, rfl, _, _⟩ := xk0
  have k0 := nmOk tf0
  rw [canon, canonD]
  revert k0
  generalize cOf f0 = c
  generalize dOf f1 = d
  intro k0
  have hf := few_eq
  by_cases hs : neg1 n0 c = false ∧ neg2 n0 c n1 = false
  · obtain ⟨ha, hb⟩ := hs
    unfold neg1 at ha
    rw [Ln_neg] at ha
    have g0 := szB_few ln0 k0 (by omega) (by omega) ha
    have hb : neg2 n0 c n1 = false := hb
    unfold neg2 at hb
    rw [Ln_neg, Ln_pos ha] at hb
    have hb := of_decide_eq_false hb
    rw [wrap_i64 (by omega) (by omega)] at hb
    have hn : n0 ≤ few := by omega
    have hm : n1 ≤ few := by omega
    have bn := Nat.ble_eq_true_of_le hn
    have bm := Nat.ble_eq_true_of_le hm
    have ho : Ow n0 c n1 d := fun _ _ => ⟨Bt.okT_true bn _, Dd.okT_true bm _, Bt.okE_true bn _, Dd.okE_true bm _, okQ_true _ (by omega) (by omega) (by omega), Dd.okM_true bm _ (by omega) (by omega)⟩
    cases hz : (gv r n0 c n1 d == 0) with
    | false => exact lawX1 ln0 ho (fun _ _ => gX_true hn hm k0 hz) (fdSX r n0 n1 c d) (fdIX r n0 n1 c d)
    | true =>
      have h0 : gv r n0 c n1 d = 0 := by simpa using hz
      obtain ⟨⟨R, h1, h2, rfl⟩, h6, hd, h300⟩ := gv_zero h0
      have hg : gV (Int.ofNat R) n0 n1 c d = true := gV_true k0 hz
      have hR : R = 1 ∨ R = 2 ∨ R = 3 ∨ R = 4 := by omega
      rcases hR with rfl | rfl | rfl | rfl
      · have hl := ld_le (R := 1) (n := n0) (m := n1) (c := c) (d := d) (by omega) hd h6
        cases hbig : big n1 (ld 1 n0 n1 c d) with
        | true => exact lawX14 ln0 ho (fun _ _ => by rw [hg, hbig]; rfl) (fdSL1 c d) (fdIL1 c d)
        | false => exact lawV1 ln0 ho (by omega) (by rw [hg, hbig]; rfl) (fdSV1 c d) (fdIV1 c d)
      · have hl := ld_le (R := 2) (n := n0) (m := n1) (c := c) (d := d) (by omega) hd h6
        cases hbig : big n1 (ld 2 n0 n1 c d) with
        | true => exact lawX15 ln0 ho (fun _ _ => by rw [hg, hbig]; rfl) (fdSL2 c d) (fdIL2 c d)
        | false => exact lawV2 ln0 ho (by omega) (by rw [hg, hbig]; rfl) (fdSV2 c d) (fdIV2 c d)
      · have hl := ld_le (R := 3) (n := n0) (m := n1) (c := c) (d := d) (by omega) hd h6
        cases hbig : big n1 (ld 3 n0 n1 c d) with
        | true => exact lawX16 ln0 ho (fun _ _ => by rw [hg, hbig]; rfl) (fdSL3 c d) (fdIL3 c d)
        | false => exact lawV3 ln0 ho (by omega) (by rw [hg, hbig]; rfl) (fdSV3 c d) (fdIV3 c d)
      · have hl := ld_le (R := 4) (n := n0) (m := n1) (c := c) (d := d) (by omega) hd h6
        cases hbig : big n1 (ld 4 n0 n1 c d) with
        | true => exact lawX17 ln0 ho (fun _ _ => by rw [hg, hbig]; rfl) (fdSL4 c d) (fdIL4 c d)
        | false => exact lawV4 ln0 ho (by omega) (by rw [hg, hbig]; rfl) (fdSV4 c d) (fdIV4 c d)
  · have hq : neg1 n0 c = true ∨ neg2 n0 c n1 = true := by
      cases h1 : neg1 n0 c <;> cases h2 : neg2 n0 c n1 <;> simp_all
    refine lawX1 ln0 (fun ha hb => ?_) (fun ha hb => ?_) (fdSX r n0 n1 c d) (fdIX r n0 n1 c d)
    · rcases hq with hq | hq
      · rw [ha] at hq; cases hq
      · rw [hb] at hq; cases hq
    · rcases hq with hq | hq
      · rw [ha] at hq; cases hq
      · rw [hb] at hq; cases hq

set_option maxRecDepth 100000 in
theorem lifted (os : Os) (started : os.Started) (H : Type) (enc : TypeId × Value → H) :
    ReturnsInHanded {} Try.checked os 11 .any (Rows.fnExactFinishDeedsSpec.pre6 enc Try.prog Try.f11 Rows.fnExactFinishDeedsRow.domain false) (Rows.fnExactFinishDeedsSpec.post enc Try.prog Try.f11 false true false false) := by
  refine returnsInHanded_of_change (C := Try.checked) sxOwn started (by kernel_rfl) Try.func11
    (ChangeSpec.witness6 (enc := enc) (C := Try.checked) false ⟨#[], #[.agg #[.int .i64 0, .slice none 0 0], .slice none 0 0], []⟩ 8 (by kernel_rfl) (by kernel_rfl) (by kernel_rfl) (by kernel_rfl)) ?_
  intro W base args ds gs before hval0 hW hcnd _
  have hval : ∀ (j : Nat) t v, Try.f11.params[j]? = some t → args[j]? = some v → Value.okWide Try.prog W .any base t v := hval0
  have hW' := hW
  obtain ⟨p, q, hA0, hV, rfl, hfz, hnd⟩ := hW
  have hA : DataW.TrodAll enc Try.prog W 0 (fun _ => true) true Try.f11.params.toList args.toList ds p := hA0
  rw [Try.params11] at hA hval
  obtain ⟨v0, vs0, d0, ds0, p0, q0, hargs, rfl, rfl, h0, r0⟩ := trodAll_cons hA
  obtain ⟨v1, vs1, d1, ds1, p1, q1, rfl, rfl, rfl, h1, r1⟩ := trodAll_cons r0
  obtain ⟨rfl, rfl, rfl⟩ := trodAll_nil r1
  obtain rfl : args = #[v0, v1] := by cases args; simp_all
  obtain ⟨rfl, rfl⟩ := trodVars_none hV
  have hrel0 : HRel [] [] W := ⟨rfl, fun b x p h => by simp at h, fun b c x y p q _ h => by simp at h⟩
  have hro0 := ro_nil
  obtain ⟨x0, n0, f0, pl0, xk0, ln0, tf0, hr0, ev0⟩ := arg_pairB (t0 := 2) (t1 := 28) (e := 128) (D := 8) (k0 := .int .i64) (ks := [.str, .int .i64, .int .i64, .int .i64, .int .i64, .int .i64, .int .i64, .int .i64, .int .i64]) (hval 0 30 v0 rfl rfl) h0 (by kernel_rfl) (by kernel_rfl) (by kernel_rfl) (by kernel_rfl) (by kernel_rfl) (by kernel_rfl) (by kernel_rfl) (by kernel_rfl) (of_decide_eq_true (by kernel_rfl)) hrel0 hro0
  have hrel1 := HRel.canon hr0 (ro_app hro0) tf0
  have hro1 := ro_app (n := n0) (sz := 9) (f := fun i => canonR [.str, .int .i64, .int .i64, .int .i64, .int .i64, .int .i64, .int .i64, .int .i64, .int .i64] 0 (f0 i)) hro0
  obtain ⟨n1, f1, pl1, ln1, tf1, hr1, ev1⟩ := arg_slice (e := 23) (D := 8) (ks := [.int .i64, .int .i64]) (hval 1 51 v1 rfl rfl) h1 (by kernel_rfl) (by kernel_rfl) (by kernel_rfl) (of_decide_eq_true (by kernel_rfl)) hrel1 hro1
  have hrel2 := HRel.canon hr1 (ro_app hro1) tf1
  have hro2 := ro_app (n := n1) (sz := 2) (f := fun i => canonR [.int .i64, .int .i64] 0 (f1 i)) hro1
  have e0 : VRel [pl0, pl1] (.agg [x0, .slc 0 0 n0]) v0 := VRel.ext (fun b p hp => by revert hp; rcases b with _ | _ | _ | _ <;> simp) ev0
  have e1 : VRel [pl0, pl1] (.slc 1 0 n1) v1 := VRel.ext (fun b p hp => by revert hp; rcases b with _ | _ | _ | _ <;> simp) ev1
  have k0 := h0
  have lt0 : ∀ x ∈ p0, x.block < W.heap.size := by obtain ⟨m, hm⟩ := k0; exact DataW.trod_lt m _ _ _ hm
  have k1 := h1
  have lt1 : ∀ x ∈ p1, x.block < W.heap.size := by obtain ⟨m, hm⟩ := k1; exact DataW.trod_lt m _ _ _ hm
  have hargs : VRels [pl0, pl1] [.agg [x0, .slc 0 0 n0], .slc 1 0 n1] [v0, v1] := by
    simp only [VRels]
    exact ⟨v0, _, rfl, e0, ⟨v1, _, rfl, e1, rfl⟩⟩
  obtain ⟨lawK, lawK_ok, hlaw⟩ := law x0 xk0 n0 ln0 f0 tf0 n1 ln1 f1 tf1
  refine (evF_true (K := lawK) (L := noL) (N := lawN) (d := lawD) sxApart sxMixed lawK_ok (fun _ _ _ _ => noL_ok) hlaw hrel2 hro2 hargs).mono fun e W' ⟨he, bel⟩ => ?_
  subst he
  exact ⟨_, rfl, _, _, _, [], _, [], hW', trodAll_mk1 (shut_bool Try.underlying4 _), (trodAll_cons_mk (Below.trod sxLaid (by kernel_rfl) (of_decide_eq_true (by kernel_rfl)) k0 bel lt0) (trodAll_cons_mk (Below.trod sxLaid (by kernel_rfl) (of_decide_eq_true (by kernel_rfl)) k1 bel lt1) trodAll_mk0)), rfl, bel.frame _, fun h => by cases h⟩

theorem over : Rows.fnExactFinishDeedsRow.holds Try.pinned (OpenSpec.ofChange Rows.fnExactFinishDeedsSpec) :=
  OpenClaim.holds_of_wide 11 Try.f11 rfl rfl rfl rfl rfl rfl rfl ⟨rfl, rfl, rfl, rfl, rfl⟩ rfl rfl rfl rfl rfl (by kernel_rfl) Try.func11 (by kernel_rfl)
    (of_decide_eq_true (by kernel_rfl)) (by unfold Func.isWrapper; first | (rw [if_pos (by decide +kernel)]; kernel_rfl) | (rw [if_neg (by decide +kernel)]; exact ⟨rfl, rfl⟩))
    (fun os started H enc _ => lifted os started H enc)

/-- The statement. -/
theorem proved : Rows.FnExactFinishDeedsSaid := over
#print axioms proved
end Go.Proofs.Ytllonddgbjgmdaa.lawFinishDeeds
