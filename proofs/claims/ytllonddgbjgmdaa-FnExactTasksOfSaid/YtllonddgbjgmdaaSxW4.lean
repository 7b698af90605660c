/- Laws with works and no slice told: what they owe. -/
import Derived.Test.YtllonddgbjgmdaaSxW3
set_option linter.unusedVariables false
set_option linter.unusedSimpArgs false
set_option maxRecDepth 100000
namespace Go.Proofs.Ytllonddgbjgmdaa.W4
open Go.Sx Go.Sx.R0 Go.RowKit Go.Proofs.Ytllonddgbjgmdaa.W1

noncomputable def K1 (n : Nat) (c : Bt) (K : CallerT) : CallerT := addK 52 (runSz n c) (addK 54 (selRun Bt.runTo) (addK 56 (selRun Bt.runEqS) K))
theorem K1_ok (n : Nat) (c : Bt) {K : CallerT} (hK : CallerTOk Try.prog K) : CallerTOk Try.prog (K1 n c K) := addK_ok (sumSz n c) (addK_ok Bt.to_ok (addK_ok Bt.eq_ok hK))
def val1 (a x r : Bool) : Bool := bif a then true else bif x then false else bif bif bif bif r then false else true then false else true then false else true then false else true
def owed1 (a x r q0 t w e0 : Bool) : Bool := andB (andB q0 true) (impB (!a) (andB (andB t true) (andB w (andB (andB t true) (andB w (impB (!x) (andB (andB (andB t true) true) (andB (impB (bif bif r then false else true then false else true) (andB e0 true)) true))))))))
theorem owed1_t : ∀ a x r q0 t w e0 : Bool, q0 = true → (a = false → t = true ∧ w = true ∧ e0 = true) → owed1 a x r q0 t w e0 = true := by decide
theorem val1_t : ∀ a : Bool, val1 a false true = true := by decide
noncomputable def neg1 (n : Nat) (c : Bt) : Bool := decide (Ln (szB n c 1048576) < 0)
theorem few_of {n : Nat} {c : Bt} (ln : n ≤ 9223372036854775807) (k0 : NmOk n c) (h : neg1 n c = false) : n ≤ few := by
  unfold neg1 at h
  rw [Ln_neg] at h
  have := szB_few ln k0 (by omega) (by omega) h
  rw [few_eq]; omega
theorem end1 {n : Nat} {c : Bt} (ln : n ≤ 9223372036854775807) (k0 : NmOk n c) (x r w : Bool) (hw : n ≤ few → w = true) : owed1 (neg1 n c) x r (okSz n c 1048576) (Bt.okT n c) w (Bt.okE n c) = true :=
  owed1_t _ _ _ _ _ _ _ (okSz_true ln _ _) fun ha => by
    have hf := few_of ln k0 ha
    have hb : Nat.ble n few = true := Nat.ble_eq_true_of_le hf
    exact ⟨Bt.okT_true hb _, hw hf, Bt.okE_true hb _⟩
end Go.Proofs.Ytllonddgbjgmdaa.W4
