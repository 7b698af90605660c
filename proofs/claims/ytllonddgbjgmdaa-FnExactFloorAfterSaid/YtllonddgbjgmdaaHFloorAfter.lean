/- Texts of one claim, put together. -/
import Derived.Test.YtllonddgbjgmdaaRows
import Derived.WalkKit
import Derived.ProofKit
import Derived.OpenShut
import Derived.ChangeOld
import Derived.Below
import Derived.Test.YtllonddgbjgmdaaSxK2
import Derived.Test.YtllonddgbjgmdaaSxFr
import Derived.Test.YtllonddgbjgmdaaXSxP24
import Derived.Test.YtllonddgbjgmdaaXSxP20
import Derived.Test.YtllonddgbjgmdaaXSxW7
namespace Go.Proofs.Ytllonddgbjgmdaa.lawFloorAfter
open Go.ChangeShapes Go.WideShapes Go.ChangeAt Go.RowKit Go.Sx
set_option linter.unusedVariables false
set_option linter.unusedSimpArgs false
set_option maxRecDepth 100000
def lawN : Nat := 20
def lawD : Nat := 8

open Go.Proofs.Ytllonddgbjgmdaa.W1 Go.Proofs.Ytllonddgbjgmdaa.W3 Go.Proofs.Ytllonddgbjgmdaa.W4 Go.Proofs.Ytllonddgbjgmdaa.W7 Go.Proofs.Ytllonddgbjgmdaa.W9 Go.Proofs.Ytllonddgbjgmdaa.W10 Go.Proofs.Ytllonddgbjgmdaa.P1 Go.Proofs.Ytllonddgbjgmdaa.P7 Go.Proofs.Ytllonddgbjgmdaa.P8 Go.Proofs.Ytllonddgbjgmdaa.P9 Go.Proofs.Ytllonddgbjgmdaa.P12 Go.Proofs.Ytllonddgbjgmdaa.P13 Go.Proofs.Ytllonddgbjgmdaa.P14 Go.Proofs.Ytllonddgbjgmdaa.P22 Go.Proofs.Ytllonddgbjgmdaa.P23 Go.Proofs.Ytllonddgbjgmdaa.P24 Go.Sx.R0

noncomputable def KD (n : Nat) (c : Bt) (K : CallerT) : CallerT := K1 n c (addK 34 (selRun Dd.runTo) (addK 36 (selRun Dd.runEqS) (addK 43 (selRunM Dd.runMark) (addK 65 (selRunM runMq) K))))
theorem KD_ok (n : Nat) (c : Bt) {K : CallerT} (hK : CallerTOk Try.prog K) : CallerTOk Try.prog (KD n c K) := K1_ok n c (addK_ok Dd.to_ok (addK_ok Dd.eq_ok (addK_ok Dd.mark_ok (addK_ok mq_ok hK))))
noncomputable def KF (R : Nat) (K : CallerT) : CallerT := addK 78 (selRun Vs.runEqS) (addK 79 (selRunF (refX R) (runBE R)) (addK 80 (selRun Bs.runEqS) (addK 81 (selRun Ns.runEqS)
  (addK 82 (selRunM Vs.runMark) (addK 83 (selRunR (refX R) (runBM R)) (addK 84 (selRunM Bs.runMark) (addK 85 (selRunM Ns.runMark)
  (addK 86 (selRun Vs.runHeld) (addK 87 (selRunF (refX R) (runBH R)) (addK 88 (selRun Bs.runHeld) (addK 89 (selRun Ns.runHeld) K)))))))))))
theorem KF_ok {R : Nat} (h1 : 1 ≤ R) (h2 : R ≤ 4) {K : CallerT} (hK : CallerTOk Try.prog K) : CallerTOk Try.prog (KF R K) := addK_ok Vs.eq_ok (addK_ok (bE_ok h1 h2) (addK_ok Bs.eq_ok (addK_ok Ns.eq_ok (addK_ok Vs.mark_ok (addK_ok (bM_ok h1 h2) (addK_ok Bs.mark_ok (addK_ok Ns.mark_ok (addK_ok Vs.held_ok (addK_ok (bH_ok h1 h2) (addK_ok Bs.held_ok (addK_ok Ns.held_ok hK)))))))))))
noncomputable def KX (r : Int) (n : Nat) (c : Bt) (m : Nat) (d : Dd) (xs xi : AV × Option (List Blk)) (g : Bool) : CallerT := addK 45 (runFl r n m c d xs g) (addK 46 (runFl r n m c d xi g) extK)
theorem KX_ok {r : Int} {n : Nat} {c : Bt} {m : Nat} {d : Dd} {xs xi : AV × Option (List Blk)} {g : Bool} (h1 : SumOk Try.prog 45 (runFl r n m c d xs g)) (h2 : SumOk Try.prog 46 (runFl r n m c d xi g)) : CallerTOk Try.prog (KX r n c m d xs xi g) := addK_ok h1 (addK_ok h2 extK_ok)
def dks : List LK := [.int .i64, .int .i64]
def dOf (f : Nat → List AV) : Dd := ⟨fun i => getI (gt (f i) 0), fun i => getI (gt (f i) 1)⟩
theorem canonD (f : Nat → List AV) : (fun i => canonR dks 0 (f i)) = (dOf f).row := rfl
noncomputable def neg2 (n : Nat) (c : Bt) (m : Nat) : Bool := decide (Ln (IntKind.i64.wrap (Ln (szB n c 1048576) - (m : Int))) < 0)
def n2 (r : Bool) : Bool := bif bif r then false else true then false else true
def n3 (r : Bool) : Bool := bif n2 r then false else true
-- what is wrong
def valX (A B x r : Bool) : Bool := bif A then true else bif B then true else bif (bif x then false else true) then false else bif n3 r then false else bif false then false else bif (bif x then false else true) then false else bif (bif x then false else true) then false else true
def owX (A B x r q0 t k1 w e1 kd mb md : Bool) : Bool := andB (andB q0 true) (impB (!A) (impB (!B) (andB (andB t true) (andB k1 (andB w (andB (andB t true) (andB k1 (andB w (impB (!bif x then false else true) (andB (andB (andB t true) true) (andB (impB (n2 r) (andB e1 true)) (impB (!n3 r) (andB k1 (andB kd (impB (!false) (andB (andB mb true) (andB md (impB (!bif x then false else true) (andB (andB t true) (andB k1 (andB w true)))))))))))))))))))))
theorem hX (r : Int) (n : Nat) (c : Bt) (m : Nat) (d : Dd) (x : Int) (g : Bool) : evF Try.prog (KD n c (KX r n c m d (lfX x) (lfX x) g)) noL lawN lawD 12 [.agg [.int .i64 r, .slc 0 0 n], .slc 1 0 m] [.rows false n 9 c.row, .rows false m 2 d.row] =
      some (.leaf (.bool (valX (neg1 n c) (neg2 n c m) (x == x) (r == r)), none), owX (neg1 n c) (neg2 n c m) (x == x) (r == r) (okSz n c 1048576) (Bt.okT n c) (Dd.okT m d) (okRf r n m c d g) (Bt.okE n c) (Dd.okE m d) (okQ n c.row 1) (Dd.okM m d (1 + 9 * (n : Int)))) := by kernel_rfl
-- what is right
def vsF (F : Fl) : Vs := ⟨F.vt 0, F.vt 1, F.vt 2, F.vt 3, F.vt 4, F.vt 5, F.vt 6, F.vt 7⟩
def bsF (F : Fl) (r : Nat) : Bs := ⟨F.bk r⟩
def nsF (F : Fl) : Ns := ⟨F.wb, F.wt⟩
noncomputable def lEq (R M : Nat) (F : Fl) : Bool := okEq R ([.rows false R 1 (canM 2 M R), .rows false R 1 (canM (2 + R) M R)] ++ bkl false M R (bsF F) ++ bkl false M R (bsF F)) R R
noncomputable def lMk (R M : Nat) (F : Fl) (z : Int) : Bool := okMk R ([.rows true R 1 (canM 1 M R)] ++ bkl true M R (bsF F)) R z
noncomputable def lHd (R M : Nat) (z : Int) : Bool := okHd R ([.rows false R 1 (canM 1 M R)] ++ bkl false M R (mzs z M)) R z
def z1 (n : Nat) : Int := 1 + 8 * (n : Int)
def z2 (n R M : Nat) : Int := z1 n + (R : Int) * (M : Int)
def z3 (n R M : Nat) : Int := z2 n R M + 1 * (M : Int)
def z4 (n R M : Nat) : Int := z3 n R M + 1 * (M : Int)
def z5 (n R M w : Nat) : Int := z4 n R M + 2 * (w : Int)
def hk (n R M w : Nat) : Int := bif decide (z1 n < 0) then -1 else bif decide (z2 n R M < 0) then -1 else bif decide (z3 n R M < 0) then -1 else bif decide (z4 n R M < 0) then -1 else bif decide (z5 n R M w < 0) then -1 else z5 n R M w
def EQ (a b c d e : Bool) : Bool := andB a (andB (andB b (andB (andB c (andB (andB d (andB (andB e true) true)) true)) true)) true)
def MK (a b c d e : Bool) : Bool := andB a (andB b (andB c (andB d (andB e true))))
def valV (A B x r g : Bool) : Bool := bif A then true else bif B then true else bif andB (bif x then false else true) true then false else bif n3 r then false else bif false then false else bif andB (bif x then false else true) true then false else bif false then false else bif (bif g then false else true) then false else bif andB (bif x then false else true) true then false else bif false then false else bif (bif g then false else true) then false else true
def owV (A B x r g q0 t k1 ws wi e1 kd mb md eq mk hd : Bool) : Bool := andB (andB q0 true) (impB (!A) (impB (!B) (andB (andB t true) (andB k1 (andB ws (andB (andB t true) (andB k1 (andB wi (andB eq (impB (!andB (bif x then false else true) true) (andB (andB (andB t true) true) (andB (impB (n2 r) (andB e1 true)) (impB (!n3 r) (andB k1 (andB kd (impB (!false) (andB (andB mb true) (andB md (andB (andB (andB eq true) true) (impB (!andB (bif x then false else true) true) (andB mk (andB hd (impB (!false) (impB (!bif g then false else true) (andB (andB t true) (andB k1 (andB wi (andB eq (impB (!andB (bif x then false else true) true) (andB hd true))))))))))))))))))))))))))))))
noncomputable def oEQ (R n M : Nat) (F : Fl) : Bool := EQ (Vs.okE n (vsF F)) (lEq R M F) (Bs.okE M ⟨F.kn⟩) (Bs.okE M ⟨F.sv⟩) (Ns.okE F.w (nsF F))
noncomputable def oMK (R n M : Nat) (F : Fl) : Bool := MK (Vs.okM n (vsF F) 1) (lMk R M F (z1 n)) (Bs.okM M ⟨F.kn⟩ (z2 n R M)) (Bs.okM M ⟨F.sv⟩ (z3 n R M)) (Ns.okM F.w (nsF F) (z4 n R M))
noncomputable def oHD (R n M w : Nat) : Bool := EQ (Vs.okH n 1) (lHd R M (z1 n)) (Bs.okH M (z2 n R M)) (Bs.okH M (z3 n R M)) (Ns.okH w (z4 n R M))
theorem hV1 (r : Int) (n : Nat) (c : Bt) (m : Nat) (d : Dd) (F : Fl) (dn : Int) (g : Bool) : evF Try.prog (KD n c (KF 1 (KX r n c m d (lfF 5 n 1 m c d F dn) (lfF 4 n 1 m c d F dn) g))) noL lawN lawD 12 [.agg [.int .i64 r, .slc 0 0 n], .slc 1 0 m] [.rows false n 9 c.row, .rows false m 2 d.row] =
      some (.leaf (.bool (valV (neg1 n c) (neg2 n c m) (dn == dn) (r == r) (hk n 1 (mOf c n) F.w == z5 n 1 (mOf c n) F.w)), none), owV (neg1 n c) (neg2 n c m) (dn == dn) (r == r) (hk n 1 (mOf c n) F.w == z5 n 1 (mOf c n) F.w) (okSz n c 1048576) (Bt.okT n c) (Dd.okT m d) (okRf r n m c d g) (okRf r n m c d g) (Bt.okE n c) (Dd.okE m d) (okQ n c.row 1) (Dd.okM m d (1 + 9 * (n : Int))) (oEQ 1 n (mOf c n) F) (oMK 1 n (mOf c n) F) (oHD 1 n (mOf c n) F.w)) := by kernel_rfl
theorem hV2 (r : Int) (n : Nat) (c : Bt) (m : Nat) (d : Dd) (F : Fl) (dn : Int) (g : Bool) : evF Try.prog (KD n c (KF 2 (KX r n c m d (lfF 5 n 2 m c d F dn) (lfF 4 n 2 m c d F dn) g))) noL lawN lawD 12 [.agg [.int .i64 r, .slc 0 0 n], .slc 1 0 m] [.rows false n 9 c.row, .rows false m 2 d.row] =
      some (.leaf (.bool (valV (neg1 n c) (neg2 n c m) (dn == dn) (r == r) (hk n 2 (mOf c n) F.w == z5 n 2 (mOf c n) F.w)), none), owV (neg1 n c) (neg2 n c m) (dn == dn) (r == r) (hk n 2 (mOf c n) F.w == z5 n 2 (mOf c n) F.w) (okSz n c 1048576) (Bt.okT n c) (Dd.okT m d) (okRf r n m c d g) (okRf r n m c d g) (Bt.okE n c) (Dd.okE m d) (okQ n c.row 1) (Dd.okM m d (1 + 9 * (n : Int))) (oEQ 2 n (mOf c n) F) (oMK 2 n (mOf c n) F) (oHD 2 n (mOf c n) F.w)) := by kernel_rfl
theorem hV3 (r : Int) (n : Nat) (c : Bt) (m : Nat) (d : Dd) (F : Fl) (dn : Int) (g : Bool) : evF Try.prog (KD n c (KF 3 (KX r n c m d (lfF 5 n 3 m c d F dn) (lfF 4 n 3 m c d F dn) g))) noL lawN lawD 12 [.agg [.int .i64 r, .slc 0 0 n], .slc 1 0 m] [.rows false n 9 c.row, .rows false m 2 d.row] =
      some (.leaf (.bool (valV (neg1 n c) (neg2 n c m) (dn == dn) (r == r) (hk n 3 (mOf c n) F.w == z5 n 3 (mOf c n) F.w)), none), owV (neg1 n c) (neg2 n c m) (dn == dn) (r == r) (hk n 3 (mOf c n) F.w == z5 n 3 (mOf c n) F.w) (okSz n c 1048576) (Bt.okT n c) (Dd.okT m d) (okRf r n m c d g) (okRf r n m c d g) (Bt.okE n c) (Dd.okE m d) (okQ n c.row 1) (Dd.okM m d (1 + 9 * (n : Int))) (oEQ 3 n (mOf c n) F) (oMK 3 n (mOf c n) F) (oHD 3 n (mOf c n) F.w)) := by kernel_rfl
theorem hV4 (r : Int) (n : Nat) (c : Bt) (m : Nat) (d : Dd) (F : Fl) (dn : Int) (g : Bool) : evF Try.prog (KD n c (KF 4 (KX r n c m d (lfF 5 n 4 m c d F dn) (lfF 4 n 4 m c d F dn) g))) noL lawN lawD 12 [.agg [.int .i64 r, .slc 0 0 n], .slc 1 0 m] [.rows false n 9 c.row, .rows false m 2 d.row] =
      some (.leaf (.bool (valV (neg1 n c) (neg2 n c m) (dn == dn) (r == r) (hk n 4 (mOf c n) F.w == z5 n 4 (mOf c n) F.w)), none), owV (neg1 n c) (neg2 n c m) (dn == dn) (r == r) (hk n 4 (mOf c n) F.w == z5 n 4 (mOf c n) F.w) (okSz n c 1048576) (Bt.okT n c) (Dd.okT m d) (okRf r n m c d g) (okRf r n m c d g) (Bt.okE n c) (Dd.okE m d) (okQ n c.row 1) (Dd.okM m d (1 + 9 * (n : Int))) (oEQ 4 n (mOf c n) F) (oMK 4 n (mOf c n) F) (oHD 4 n (mOf c n) F.w)) := by kernel_rfl
theorem imp2 (a b : Bool) (x : Bool) (h : a = true ∨ b = true) : andB (andB true true) (impB (!a) (impB (!b) x)) = true := by
  cases a <;> cases b <;> cases x <;> first | rfl | (rcases h with h | h <;> cases h)
theorem owX_t {A B x r q0 t k1 w e1 kd mb md : Bool} (hq : q0 = true) (h : A = false → B = false → t = true ∧ k1 = true ∧ w = true ∧ e1 = true ∧ kd = true ∧ mb = true ∧ md = true) : owX A B x r q0 t k1 w e1 kd mb md = true := by
  subst hq
  cases A with
  | true => exact imp2 _ _ _ (.inl rfl)
  | false =>
    cases B with
    | true => exact imp2 _ _ _ (.inr rfl)
    | false =>
      obtain ⟨rfl, rfl, rfl, rfl, rfl, rfl, rfl⟩ := h rfl rfl
      cases x <;> cases r <;> rfl
theorem owV_t {A B x r g q0 t k1 ws wi e1 kd mb md eq mk hd : Bool} (hq : q0 = true) (h : A = false → B = false → t = true ∧ k1 = true ∧ ws = true ∧ wi = true ∧ e1 = true ∧ kd = true ∧ mb = true ∧ md = true ∧ eq = true ∧ mk = true ∧ hd = true) : owV A B x r g q0 t k1 ws wi e1 kd mb md eq mk hd = true := by
  subst hq
  cases A with
  | true => exact imp2 _ _ _ (.inl rfl)
  | false =>
    cases B with
    | true => exact imp2 _ _ _ (.inr rfl)
    | false =>
      obtain ⟨rfl, rfl, rfl, rfl, rfl, rfl, rfl, rfl, rfl, rfl, rfl⟩ := h rfl rfl
      cases x <;> cases r <;> cases g <;> rfl
theorem valX_t : ∀ A B : Bool, valX A B true true = true := by decide
theorem valV_t : ∀ A B : Bool, valV A B true true true = true := by decide
theorem slT_true {b M : Nat} {f : Nat → List AV} : ∀ {R : Nat}, (∀ i, i < R → f i = [.slc (b + i) 0 M]) → slT b M f R = true
  | 0, _ => rfl
  | R + 1, h => by
    unfold slT
    rw [h R (by omega), deq_self, slT_true fun i hi => h i (by omega)]; rfl
theorem slM (b M R : Nat) : slT b M (canM b M R) R = true := slT_true fun i hi => by unfold canM; rw [ix_lt hi]
theorem lEq_true {R M : Nat} (h1 : 1 ≤ R) (h2 : R ≤ 4) (hM : M ≤ few) (F : Fl) : lEq R M F = true := by
  have hR : R = 1 ∨ R = 2 ∨ R = 3 ∨ R = 4 := by omega
  rcases hR with rfl | rfl | rfl | rfl
  · show andB true (andB true (andB true (andB true (andB (slT 2 M (canM 2 M 1) 1) (andB (slT (2 + 1) M (canM (2 + 1) M 1) 1) (andB (pB (∃ g, bkl false M 1 (bsF F) ++ bkl false M 1 (bsF F) = bkl false M 1 g ++ bkl false M 1 g)) (Nat.ble M few))))))) = true
    rw [slM, slM, pB_true ⟨bsF F, rfl⟩, Nat.ble_eq_true_of_le hM]; rfl
  · show andB true (andB true (andB true (andB true (andB (slT 2 M (canM 2 M 2) 2) (andB (slT (2 + 2) M (canM (2 + 2) M 2) 2) (andB (pB (∃ g, bkl false M 2 (bsF F) ++ bkl false M 2 (bsF F) = bkl false M 2 g ++ bkl false M 2 g)) (Nat.ble M few))))))) = true
    rw [slM, slM, pB_true ⟨bsF F, rfl⟩, Nat.ble_eq_true_of_le hM]; rfl
  · show andB true (andB true (andB true (andB true (andB (slT 2 M (canM 2 M 3) 3) (andB (slT (2 + 3) M (canM (2 + 3) M 3) 3) (andB (pB (∃ g, bkl false M 3 (bsF F) ++ bkl false M 3 (bsF F) = bkl false M 3 g ++ bkl false M 3 g)) (Nat.ble M few))))))) = true
    rw [slM, slM, pB_true ⟨bsF F, rfl⟩, Nat.ble_eq_true_of_le hM]; rfl
  · show andB true (andB true (andB true (andB true (andB (slT 2 M (canM 2 M 4) 4) (andB (slT (2 + 4) M (canM (2 + 4) M 4) 4) (andB (pB (∃ g, bkl false M 4 (bsF F) ++ bkl false M 4 (bsF F) = bkl false M 4 g ++ bkl false M 4 g)) (Nat.ble M few))))))) = true
    rw [slM, slM, pB_true ⟨bsF F, rfl⟩, Nat.ble_eq_true_of_le hM]; rfl
theorem lMk_true {R M : Nat} (h1 : 1 ≤ R) (h2 : R ≤ 4) (hM : M ≤ 1000000) (F : Fl) {z : Int} (h0 : 0 ≤ z) (h3 : z ≤ 1073741824) : lMk R M F z = true := by
  have hR : R = 1 ∨ R = 2 ∨ R = 3 ∨ R = 4 := by omega
  rcases hR with rfl | rfl | rfl | rfl
  · show andB true (andB true (andB (slT 1 M (canM 1 M 1) 1) (andB (pB (∃ g, bkl true M 1 (bsF F) = bkl true M 1 g)) (bdZ M z)))) = true
    rw [slM, pB_true ⟨bsF F, rfl⟩, bdZ_true hM h0 h3]; rfl
  · show andB true (andB true (andB (slT 1 M (canM 1 M 2) 2) (andB (pB (∃ g, bkl true M 2 (bsF F) = bkl true M 2 g)) (bdZ M z)))) = true
    rw [slM, pB_true ⟨bsF F, rfl⟩, bdZ_true hM h0 h3]; rfl
  · show andB true (andB true (andB (slT 1 M (canM 1 M 3) 3) (andB (pB (∃ g, bkl true M 3 (bsF F) = bkl true M 3 g)) (bdZ M z)))) = true
    rw [slM, pB_true ⟨bsF F, rfl⟩, bdZ_true hM h0 h3]; rfl
  · show andB true (andB true (andB (slT 1 M (canM 1 M 4) 4) (andB (pB (∃ g, bkl true M 4 (bsF F) = bkl true M 4 g)) (bdZ M z)))) = true
    rw [slM, pB_true ⟨bsF F, rfl⟩, bdZ_true hM h0 h3]; rfl
theorem lHd_true {R M : Nat} (h1 : 1 ≤ R) (h2 : R ≤ 4) (hM : M ≤ 1000000) {z : Int} (h0 : 0 ≤ z) (h3 : z ≤ 1073741824) : lHd R M z = true := by
  have hR : R = 1 ∨ R = 2 ∨ R = 3 ∨ R = 4 := by omega
  rcases hR with rfl | rfl | rfl | rfl
  · show andB true (andB true (andB (slT 1 M (canM 1 M 1) 1) (andB (pB (bkl false M 1 (mzs z M) = bkl false M 1 (mzs z M))) (bdZ M z)))) = true
    rw [slM, pB_true rfl, bdZ_true hM h0 h3]; rfl
  · show andB true (andB true (andB (slT 1 M (canM 1 M 2) 2) (andB (pB (bkl false M 2 (mzs z M) = bkl false M 2 (mzs z M))) (bdZ M z)))) = true
    rw [slM, pB_true rfl, bdZ_true hM h0 h3]; rfl
  · show andB true (andB true (andB (slT 1 M (canM 1 M 3) 3) (andB (pB (bkl false M 3 (mzs z M) = bkl false M 3 (mzs z M))) (bdZ M z)))) = true
    rw [slM, pB_true rfl, bdZ_true hM h0 h3]; rfl
  · show andB true (andB true (andB (slT 1 M (canM 1 M 4) 4) (andB (pB (bkl false M 4 (mzs z M) = bkl false M 4 (mzs z M))) (bdZ M z)))) = true
    rw [slM, pB_true rfl, bdZ_true hM h0 h3]; rfl
theorem zs_ok {n R M w : Nat} (h2 : R ≤ 4) (hn : n ≤ 6) (hM : M ≤ 48) (hw : w ≤ 10) : 0 ≤ z1 n ∧ 0 ≤ z2 n R M ∧ 0 ≤ z3 n R M ∧ 0 ≤ z4 n R M ∧ 0 ≤ z5 n R M w ∧ z1 n ≤ 1000 ∧ z2 n R M ≤ 1000 ∧ z3 n R M ≤ 1000 ∧ z4 n R M ≤ 1000 := by
  have h : R * M ≤ 4 * 48 := Nat.mul_le_mul h2 hM
  have e : (R : Int) * (M : Int) = ((R * M : Nat) : Int) := by simp
  unfold z5 z4 z3 z2 z1
  rw [e]
  omega
theorem hk_eq {n R M w : Nat} (h2 : R ≤ 4) (hn : n ≤ 6) (hM : M ≤ 48) (hw : w ≤ 10) : hk n R M w = z5 n R M w := by
  obtain ⟨a1, a2, a3, a4, a5, _⟩ := zs_ok h2 hn hM hw
  unfold hk
  rw [decide_eq_false (show ¬ (z1 n < 0) by omega), decide_eq_false (show ¬ (z2 n R M < 0) by omega), decide_eq_false (show ¬ (z3 n R M < 0) by omega), decide_eq_false (show ¬ (z4 n R M < 0) by omega), decide_eq_false (show ¬ (z5 n R M w < 0) by omega)]
  rfl
theorem oF_true {R n M : Nat} (h1 : 1 ≤ R) (h2 : R ≤ 4) (hn : n ≤ 6) (hM : M ≤ 48) {F : Fl} (hw : F.w ≤ 10) : oEQ R n M F = true ∧ oMK R n M F = true ∧ oHD R n M F.w = true := by
  have hf := few_eq
  obtain ⟨a1, a2, a3, a4, a5, b1, b2, b3, b4⟩ := zs_ok (R := R) h2 hn hM hw
  have bn : Nat.ble n few = true := Nat.ble_eq_true_of_le (by omega)
  have bM : Nat.ble M few = true := Nat.ble_eq_true_of_le (by omega)
  have bw : Nat.ble F.w few = true := Nat.ble_eq_true_of_le (by omega)
  refine ⟨?_, ?_, ?_⟩
  · unfold oEQ
    rw [Vs.okE_true bn, lEq_true h1 h2 (by omega), Bs.okE_true bM, Bs.okE_true bM, Ns.okE_true bw]; rfl
  · unfold oMK
    rw [Vs.okM_true bn _ (by omega) (by omega), lMk_true h1 h2 (by omega) _ a1 (by omega), Bs.okM_true bM _ a2 (by omega), Bs.okM_true bM _ a3 (by omega), Ns.okM_true bw _ a4 (by omega)]; rfl
  · unfold oHD
    rw [Vs.okH_true bn (by omega) (by omega), lHd_true h1 h2 (by omega) a1 (by omega), Bs.okH_true bM a2 (by omega), Bs.okH_true bM a3 (by omega), Ns.okH_true bw a4 (by omega)]; rfl
theorem lawV1 {n : Nat} {c : Bt} {m : Nat} {d : Dd} (ln : n ≤ 9223372036854775807) (ho : neg1 n c = false → neg2 n c m = false → Bt.okT n c = true ∧ Dd.okT m d = true ∧ Bt.okE n c = true ∧ Dd.okE m d = true ∧ okQ n c.row 1 = true ∧ Dd.okM m d (1 + 9 * (n : Int)) = true ∧ oEQ 1 n (mOf c n) (sq (enS 1 n c) 1 d m) = true ∧ oMK 1 n (mOf c n) (sq (enS 1 n c) 1 d m) = true ∧ oHD 1 n (mOf c n) (sq (enS 1 n c) 1 d m).w = true)
    (eh : hk n 1 (mOf c n) (sq (enS 1 n c) 1 d m).w = z5 n 1 (mOf c n) (sq (enS 1 n c) 1 d m).w) (hg : gV (Int.ofNat 1) n m c d = true) :
    ∃ K, CallerTOk Try.prog K ∧ ∃ t, evF Try.prog K noL lawN lawD 12 [.agg [.int .i64 (Int.ofNat 1), .slc 0 0 n], .slc 1 0 m] [.rows false n 9 c.row, .rows false m 2 d.row] = some (t, true) ∧ delit t.get.1 = .bool true := by
  have k1 : SumOk Try.prog 45 (runFl (Int.ofNat 1) n m c d (lfF 5 n 1 m c d (sq (enS 1 n c) 1 d m) (dnc (enS 1 n c) 1 d m)) (gV (Int.ofNat 1) n m c d)) := fSV1 c d
  have k2 : SumOk Try.prog 46 (runFl (Int.ofNat 1) n m c d (lfF 4 n 1 m c d (sq (enS 1 n c) 1 d m) (dnc (enS 1 n c) 1 d m)) (gV (Int.ofNat 1) n m c d)) := fIV1 c d
  generalize sq (enS 1 n c) 1 d m = F at *
  generalize (dnc (enS 1 n c) 1 d m : Int) = dn at *
  have h := hV1 (Int.ofNat 1) n c m d F dn (gV (Int.ofNat 1) n m c d)
  have o := owV_t (x := (dn == dn)) (r := (Int.ofNat 1 == Int.ofNat 1)) (g := (hk n 1 (mOf c n) F.w == z5 n 1 (mOf c n) F.w)) (okSz_true ln c 1048576) (ws := okRf (Int.ofNat 1) n m c d (gV (Int.ofNat 1) n m c d)) (wi := okRf (Int.ofNat 1) n m c d (gV (Int.ofNat 1) n m c d)) (fun ha hb => by
    obtain ⟨a1, a2, a3, a4, a5, a6, a7, a8, a9⟩ := ho ha hb
    exact ⟨a1, a2, okRf_true _ n m c d hg, okRf_true _ n m c d hg, a3, a4, a5, a6, a7, a8, a9⟩)
  refine ⟨_, KD_ok n c (KF_ok (by omega) (by omega) (KX_ok k1 k2)), _, h.trans (congrArg (fun b => some (_, b)) o), ?_⟩
  rw [eh]
  simp only [Tr.get, delit, beq_self_eq_true, valV_t]
theorem lawV2 {n : Nat} {c : Bt} {m : Nat} {d : Dd} (ln : n ≤ 9223372036854775807) (ho : neg1 n c = false → neg2 n c m = false → Bt.okT n c = true ∧ Dd.okT m d = true ∧ Bt.okE n c = true ∧ Dd.okE m d = true ∧ okQ n c.row 1 = true ∧ Dd.okM m d (1 + 9 * (n : Int)) = true ∧ oEQ 2 n (mOf c n) (sq (enS 2 n c) 2 d m) = true ∧ oMK 2 n (mOf c n) (sq (enS 2 n c) 2 d m) = true ∧ oHD 2 n (mOf c n) (sq (enS 2 n c) 2 d m).w = true)
    (eh : hk n 2 (mOf c n) (sq (enS 2 n c) 2 d m).w = z5 n 2 (mOf c n) (sq (enS 2 n c) 2 d m).w) (hg : gV (Int.ofNat 2) n m c d = true) :
    ∃ K, CallerTOk Try.prog K ∧ ∃ t, evF Try.prog K noL lawN lawD 12 [.agg [.int .i64 (Int.ofNat 2), .slc 0 0 n], .slc 1 0 m] [.rows false n 9 c.row, .rows false m 2 d.row] = some (t, true) ∧ delit t.get.1 = .bool true := by
  have k1 : SumOk Try.prog 45 (runFl (Int.ofNat 2) n m c d (lfF 5 n 2 m c d (sq (enS 2 n c) 2 d m) (dnc (enS 2 n c) 2 d m)) (gV (Int.ofNat 2) n m c d)) := fSV2 c d
  have k2 : SumOk Try.prog 46 (runFl (Int.ofNat 2) n m c d (lfF 4 n 2 m c d (sq (enS 2 n c) 2 d m) (dnc (enS 2 n c) 2 d m)) (gV (Int.ofNat 2) n m c d)) := fIV2 c d
  generalize sq (enS 2 n c) 2 d m = F at *
  generalize (dnc (enS 2 n c) 2 d m : Int) = dn at *
  have h := hV2 (Int.ofNat 2) n c m d F dn (gV (Int.ofNat 2) n m c d)
  have o := owV_t (x := (dn == dn)) (r := (Int.ofNat 2 == Int.ofNat 2)) (g := (hk n 2 (mOf c n) F.w == z5 n 2 (mOf c n) F.w)) (okSz_true ln c 1048576) (ws := okRf (Int.ofNat 2) n m c d (gV (Int.ofNat 2) n m c d)) (wi := okRf (Int.ofNat 2) n m c d (gV (Int.ofNat 2) n m c d)) (fun ha hb => by
    obtain ⟨a1, a2, a3, a4, a5, a6, a7, a8, a9⟩ := ho ha hb
    exact ⟨a1, a2, okRf_true _ n m c d hg, okRf_true _ n m c d hg, a3, a4, a5, a6, a7, a8, a9⟩)
  refine ⟨_, KD_ok n c (KF_ok (by omega) (by omega) (KX_ok k1 k2)), _, h.trans (congrArg (fun b => some (_, b)) o), ?_⟩
  rw [eh]
  simp only [Tr.get, delit, beq_self_eq_true, valV_t]
theorem lawV3 {n : Nat} {c : Bt} {m : Nat} {d : Dd} (ln : n ≤ 9223372036854775807) (ho : neg1 n c = false → neg2 n c m = false → Bt.okT n c = true ∧ Dd.okT m d = true ∧ Bt.okE n c = true ∧ Dd.okE m d = true ∧ okQ n c.row 1 = true ∧ Dd.okM m d (1 + 9 * (n : Int)) = true ∧ oEQ 3 n (mOf c n) (sq (enS 3 n c) 3 d m) = true ∧ oMK 3 n (mOf c n) (sq (enS 3 n c) 3 d m) = true ∧ oHD 3 n (mOf c n) (sq (enS 3 n c) 3 d m).w = true)
    (eh : hk n 3 (mOf c n) (sq (enS 3 n c) 3 d m).w = z5 n 3 (mOf c n) (sq (enS 3 n c) 3 d m).w) (hg : gV (Int.ofNat 3) n m c d = true) :
    ∃ K, CallerTOk Try.prog K ∧ ∃ t, evF Try.prog K noL lawN lawD 12 [.agg [.int .i64 (Int.ofNat 3), .slc 0 0 n], .slc 1 0 m] [.rows false n 9 c.row, .rows false m 2 d.row] = some (t, true) ∧ delit t.get.1 = .bool true := by
  have k1 : SumOk Try.prog 45 (runFl (Int.ofNat 3) n m c d (lfF 5 n 3 m c d (sq (enS 3 n c) 3 d m) (dnc (enS 3 n c) 3 d m)) (gV (Int.ofNat 3) n m c d)) := fSV3 c d
  have k2 : SumOk Try.prog 46 (runFl (Int.ofNat 3) n m c d (lfF 4 n 3 m c d (sq (enS 3 n c) 3 d m) (dnc (enS 3 n c) 3 d m)) (gV (Int.ofNat 3) n m c d)) := fIV3 c d
  generalize sq (enS 3 n c) 3 d m = F at *
  generalize (dnc (enS 3 n c) 3 d m : Int) = dn at *
  have h := hV3 (Int.ofNat 3) n c m d F dn (gV (Int.ofNat 3) n m c d)
  have o := owV_t (x := (dn == dn)) (r := (Int.ofNat 3 == Int.ofNat 3)) (g := (hk n 3 (mOf c n) F.w == z5 n 3 (mOf c n) F.w)) (okSz_true ln c 1048576) (ws := okRf (Int.ofNat 3) n m c d (gV (Int.ofNat 3) n m c d)) (wi := okRf (Int.ofNat 3) n m c d (gV (Int.ofNat 3) n m c d)) (fun ha hb => by
    obtain ⟨a1, a2, a3, a4, a5, a6, a7, a8, a9⟩ := ho ha hb
    exact ⟨a1, a2, okRf_true _ n m c d hg, okRf_true _ n m c d hg, a3, a4, a5, a6, a7, a8, a9⟩)
  refine ⟨_, KD_ok n c (KF_ok (by omega) (by omega) (KX_ok k1 k2)), _, h.trans (congrArg (fun b => some (_, b)) o), ?_⟩
  rw [eh]
  simp only [Tr.get, delit, beq_self_eq_true, valV_t]
theorem lawV4 {n : Nat} {c : Bt} {m : Nat} {d : Dd} (ln : n ≤ 9223372036854775807) (ho : neg1 n c = false → neg2 n c m = false → Bt.okT n c = true ∧ Dd.okT m d = true ∧ Bt.okE n c = true ∧ Dd.okE m d = true ∧ okQ n c.row 1 = true ∧ Dd.okM m d (1 + 9 * (n : Int)) = true ∧ oEQ 4 n (mOf c n) (sq (enS 4 n c) 4 d m) = true ∧ oMK 4 n (mOf c n) (sq (enS 4 n c) 4 d m) = true ∧ oHD 4 n (mOf c n) (sq (enS 4 n c) 4 d m).w = true)
    (eh : hk n 4 (mOf c n) (sq (enS 4 n c) 4 d m).w = z5 n 4 (mOf c n) (sq (enS 4 n c) 4 d m).w) (hg : gV (Int.ofNat 4) n m c d = true) :
    ∃ K, CallerTOk Try.prog K ∧ ∃ t, evF Try.prog K noL lawN lawD 12 [.agg [.int .i64 (Int.ofNat 4), .slc 0 0 n], .slc 1 0 m] [.rows false n 9 c.row, .rows false m 2 d.row] = some (t, true) ∧ delit t.get.1 = .bool true := by
  have k1 : SumOk Try.prog 45 (runFl (Int.ofNat 4) n m c d (lfF 5 n 4 m c d (sq (enS 4 n c) 4 d m) (dnc (enS 4 n c) 4 d m)) (gV (Int.ofNat 4) n m c d)) := fSV4 c d
  have k2 : SumOk Try.prog 46 (runFl (Int.ofNat 4) n m c d (lfF 4 n 4 m c d (sq (enS 4 n c) 4 d m) (dnc (enS 4 n c) 4 d m)) (gV (Int.ofNat 4) n m c d)) := fIV4 c d
  generalize sq (enS 4 n c) 4 d m = F at *
  generalize (dnc (enS 4 n c) 4 d m : Int) = dn at *
  have h := hV4 (Int.ofNat 4) n c m d F dn (gV (Int.ofNat 4) n m c d)
  have o := owV_t (x := (dn == dn)) (r := (Int.ofNat 4 == Int.ofNat 4)) (g := (hk n 4 (mOf c n) F.w == z5 n 4 (mOf c n) F.w)) (okSz_true ln c 1048576) (ws := okRf (Int.ofNat 4) n m c d (gV (Int.ofNat 4) n m c d)) (wi := okRf (Int.ofNat 4) n m c d (gV (Int.ofNat 4) n m c d)) (fun ha hb => by
    obtain ⟨a1, a2, a3, a4, a5, a6, a7, a8, a9⟩ := ho ha hb
    exact ⟨a1, a2, okRf_true _ n m c d hg, okRf_true _ n m c d hg, a3, a4, a5, a6, a7, a8, a9⟩)
  refine ⟨_, KD_ok n c (KF_ok (by omega) (by omega) (KX_ok k1 k2)), _, h.trans (congrArg (fun b => some (_, b)) o), ?_⟩
  rw [eh]
  simp only [Tr.get, delit, beq_self_eq_true, valV_t]
theorem law (x0 : AV) (xk0 : LK.has (.int .i64) x0) (n0 : Nat) (ln0 : n0 ≤ 9223372036854775807) (f0 : Nat → List AV) (tf0 : ∀ i, i < n0 → Typed bks (f0 i)) (n1 : Nat) (ln1 : n1 ≤ 9223372036854775807) (f1 : Nat → List AV) (tf1 : ∀ i, i < n1 → Typed dks (f1 i)) :
    ∃ K, CallerTOk Try.prog K ∧ ∃ t, evF Try.prog K noL lawN lawD 12 [.agg [x0, .slc 0 0 n0], .slc 1 0 n1] [.rows false n0 9 (fun i => canonR bks 0 (f0 i)), .rows false n1 2 (fun i => canonR dks 0 (f1 i))] = some (t, true) ∧ delit t.get.1 = .bool true := by
  obtain ⟨r, rfl, _, _⟩ := xk0
  have k0 := nmOk tf0
  rw [canon, canonD]
  revert k0
  generalize cOf f0 = c
  generalize dOf f1 = d
  intro k0
  have hf := few_eq
  by_cases hs : neg1 n0 c = false ∧ neg2 n0 c n1 = false
  · obtain ⟨ha, hb⟩ := hs
    unfold neg1 at ha
    rw [Ln_neg] at ha
    have g0 := szB_few ln0 k0 (by omega) (by omega) ha
    have hb : neg2 n0 c n1 = false := hb
    unfold neg2 at hb
    rw [Ln_neg, Ln_pos ha] at hb
    have hb := of_decide_eq_false hb
    rw [wrap_i64 (by omega) (by omega)] at hb
    have hn : n0 ≤ few := by omega
    have hm : n1 ≤ few := by omega
    have bn := Nat.ble_eq_true_of_le hn
    have bm := Nat.ble_eq_true_of_le hm
    have oq : okQ n0 c.row 1 = true := okQ_true _ (by omega) (by omega) (by omega)
    have od : Dd.okM n1 d (1 + 9 * (n0 : Int)) = true := Dd.okM_true bm _ (by omega) (by omega)
    cases hz : (gv r n0 c n1 d == 0) with
    | false =>
      have h := hX r n0 c n1 d (gv r n0 c n1 d) (gX r n0 n1 c d)
      rw [owX_t (okSz_true ln0 _ _) fun _ _ => ⟨Bt.okT_true bn _, Dd.okT_true bm _, okRf_true r n0 n1 c d (gX_true hn hm k0 hz), Bt.okE_true bn _, Dd.okE_true bm _, oq, od⟩] at h
      refine ⟨_, KD_ok n0 c (KX_ok (fSX r n0 n1 c d) (fIX r n0 n1 c d)), _, h, ?_⟩
      simp only [Tr.get, delit, beq_self_eq_true, valX_t]
    | true =>
      have h0 : gv r n0 c n1 d = 0 := by simpa using hz
      obtain ⟨⟨R, h1, h2, rfl⟩, h6, hd, h300⟩ := gv_zero h0
      have hM : mOf c n0 ≤ 48 := by have := mOf_le c n0; omega
      have hw : (sq (enS R n0 c) R d n1).w ≤ 10 := (sq_ok (tsOf_ok R n0 c) h1 hd.2 n1 (Nat.le_refl _)).2.1
      obtain ⟨e1, e2, e3⟩ := oF_true h1 h2 h6 hM hw
      have eh := hk_eq (n := n0) h2 h6 hM hw
      have hg : gV (Int.ofNat R) n0 n1 c d = true := gV_true k0 hz
      have hR : R = 1 ∨ R = 2 ∨ R = 3 ∨ R = 4 := by omega
      rcases hR with rfl | rfl | rfl | rfl
      · exact lawV1 ln0 (fun _ _ => ⟨Bt.okT_true bn _, Dd.okT_true bm _, Bt.okE_true bn _, Dd.okE_true bm _, oq, od, e1, e2, e3⟩) eh hg
      · exact lawV2 ln0 (fun _ _ => ⟨Bt.okT_true bn _, Dd.okT_true bm _, Bt.okE_true bn _, Dd.okE_true bm _, oq, od, e1, e2, e3⟩) eh hg
      · exact lawV3 ln0 (fun _ _ => ⟨Bt.okT_true bn _, Dd.okT_true bm _, Bt.okE_true bn _, Dd.okE_true bm _, oq, od, e1, e2, e3⟩) eh hg
      · exact lawV4 ln0 (fun _ _ => ⟨Bt.okT_true bn _, Dd.okT_true bm _, Bt.okE_true bn _, Dd.okE_true bm _, oq, od, e1, e2, e3⟩) eh hg
  · have hq : neg1 n0 c = true ∨ neg2 n0 c n1 = true := by
      cases h1 : neg1 n0 c <;> cases h2 : neg2 n0 c n1 <;> simp_all
    have h := hX r n0 c n1 d (gv r n0 c n1 d) (gX r n0 n1 c d)
    rw [owX_t (okSz_true ln0 _ _) fun ha hb => by
        rcases hq with hq | hq
        · rw [ha] at hq; cases hq
        · rw [hb] at hq; cases hq] at h
    refine ⟨_, KD_ok n0 c (KX_ok (fSX r n0 n1 c d) (fIX r n0 n1 c d)), _, h, ?_⟩
    simp only [Tr.get, delit, beq_self_eq_true, valX_t]

set_option maxRecDepth 100000 in
theorem lifted (os : Os) (started : os.Started) (H : Type) (enc : TypeId × Value → H) :
    ReturnsInHanded {} Try.checked os 12 .any (Rows.fnExactFloorAfterSpec.pre6 enc Try.prog Try.f12 Rows.fnExactFloorAfterRow.domain false) (Rows.fnExactFloorAfterSpec.post enc Try.prog Try.f12 false true false false) := by
  refine returnsInHanded_of_change (C := Try.checked) sxOwn started (by kernel_rfl) Try.func12
    (ChangeSpec.witness6 (enc := enc) (C := Try.checked) false ⟨#[], #[.agg #[.int .i64 0, .slice none 0 0], .slice none 0 0], []⟩ 8 (by kernel_rfl) (by kernel_rfl) (by kernel_rfl) (by kernel_rfl)) ?_
  intro W base args ds gs before hval0 hW hcnd _
  have hval : ∀ (j : Nat) t v, Try.f12.params[j]? = some t → args[j]? = some v → Value.okWide Try.prog W .any base t v := hval0
  have hW' := hW
  obtain ⟨p, q, hA0, hV, rfl, hfz, hnd⟩ := hW
  have hA : DataW.TrodAll enc Try.prog W 0 (fun _ => true) true Try.f12.params.toList args.toList ds p := hA0
  rw [Try.params12] at hA hval
  obtain ⟨v0, vs0, d0, ds0, p0, q0, hargs, rfl, rfl, h0, r0⟩ := trodAll_cons hA
  obtain ⟨v1, vs1, d1, ds1, p1, q1, rfl, rfl, rfl, h1, r1⟩ := trodAll_cons r0
  obtain ⟨rfl, rfl, rfl⟩ := trodAll_nil r1
  obtain rfl : args = #[v0, v1] := by cases args; simp_all
  obtain ⟨rfl, rfl⟩ := trodVars_none hV
  have hrel0 : HRel [] [] W := ⟨rfl, fun b x p h => by simp at h, fun b c x y p q _ h => by simp at h⟩
  have hro0 := ro_nil
  obtain ⟨x0, n0, f0, pl0, xk0, ln0, tf0, hr0, ev0⟩ := arg_pairB (t0 := 2) (t1 := 28) (e := 128) (D := 8) (k0 := .int .i64) (ks := [.str, .int .i64, .int .i64, .int .i64, .int .i64, .int .i64, .int .i64, .int .i64, .int .i64]) (hval 0 30 v0 rfl rfl) h0 (by kernel_rfl) (by kernel_rfl) (by kernel_rfl) (by kernel_rfl) (by kernel_rfl) (by kernel_rfl) (by kernel_rfl) (by kernel_rfl) (of_decide_eq_true (by kernel_rfl)) hrel0 hro0
  have hrel1 := HRel.canon hr0 (ro_app hro0) tf0
  have hro1 := ro_app (n := n0) (sz := 9) (f := fun i => canonR [.str, .int .i64, .int .i64, .int .i64, .int .i64, .int .i64, .int .i64, .int .i64, .int .i64] 0 (f0 i)) hro0
  obtain ⟨n1, f1, pl1, ln1, tf1, hr1, ev1⟩ := arg_slice (e := 23) (D := 8) (ks := [.int .i64, .int .i64]) (hval 1 51 v1 rfl rfl) h1 (by kernel_rfl) (by kernel_rfl) (by kernel_rfl) (of_decide_eq_true (by kernel_rfl)) hrel1 hro1
  have hrel2 := HRel.canon hr1 (ro_app hro1) tf1
  have hro2 := ro_app (n := n1) (sz := 2) (f := fun i => canonR [.int .i64, .int .i64] 0 (f1 i)) hro1
  have e0 : VRel [pl0, pl1] (.agg [x0, .slc 0 0 n0]) v0 := VRel.ext (fun b p hp => by revert hp; rcases b with _ | _ | _ | _ <;> simp) ev0
  have e1 : VRel [pl0, pl1] (.slc 1 0 n1) v1 := VRel.ext (fun b p hp => by revert hp; rcases b with _ | _ | _ | _ <;> simp) ev1
  have k0 := h0
  have lt0 : ∀ x ∈ p0, x.block < W.heap.size := by obtain ⟨m, hm⟩ := k0; exact DataW.trod_lt m _ _ _ hm
  have k1 := h1
  have lt1 : ∀ x ∈ p1, x.block < W.heap.size := by obtain ⟨m, hm⟩ := k1; exact DataW.trod_lt m _ _ _ hm
  have hargs : VRels [pl0, pl1] [.agg [x0, .slc 0 0 n0], .slc 1 0 n1] [v0, v1] := by
    simp only [VRels]
    exact ⟨v0, _, rfl, e0, ⟨v1, _, rfl, e1, rfl⟩⟩
  obtain ⟨lawK, lawK_ok, hlaw⟩ := law x0 xk0 n0 ln0 f0 tf0 n1 ln1 f1 tf1
  refine (evF_true (K := lawK) (L := noL) (N := lawN) (d := lawD) sxApart sxMixed lawK_ok (fun _ _ _ _ => noL_ok) hlaw hrel2 hro2 hargs).mono fun e W' ⟨he, bel⟩ => ?_
  subst he
  exact ⟨_, rfl, _, _, _, [], _, [], hW', trodAll_mk1 (shut_bool Try.underlying4 _), (trodAll_cons_mk (Below.trod sxLaid (by kernel_rfl) (of_decide_eq_true (by kernel_rfl)) k0 bel lt0) (trodAll_cons_mk (Below.trod sxLaid (by kernel_rfl) (of_decide_eq_true (by kernel_rfl)) k1 bel lt1) trodAll_mk0)), rfl, bel.frame _, fun h => by cases h⟩

theorem over : Rows.fnExactFloorAfterRow.holds Try.pinned (OpenSpec.ofChange Rows.fnExactFloorAfterSpec) :=
  OpenClaim.holds_of_wide 12 Try.f12 rfl rfl rfl rfl rfl rfl rfl ⟨rfl, rfl, rfl, rfl, rfl⟩ rfl rfl rfl rfl rfl (by kernel_rfl) Try.func12 (by kernel_rfl)
    (of_decide_eq_true (by kernel_rfl)) (by unfold Func.isWrapper; first | (rw [if_pos (by decide +kernel)]; kernel_rfl) | (rw [if_neg (by decide +kernel)]; exact ⟨rfl, rfl⟩))
    (fun os started H enc _ => lifted os started H enc)

/-- The statement. -/
theorem proved : Rows.FnExactFloorAfterSaid := over
#print axioms proved
end Go.Proofs.Ytllonddgbjgmdaa.lawFloorAfter
