/- What the laws on samples owe, and how they compare. -/
import Derived.Test.YtibdnhjldifpaaaSxV6
set_option linter.unusedVariables false
set_option linter.unusedSimpArgs false
set_option maxRecDepth 100000
namespace Go.Proofs.Ytibdnhjldifpaaa.H6
open Go.Sx Go.Sx.Fl Go.RowKit Go.Proofs.Ytibdnhjldifpaaa.S6 Go.Proofs.Ytibdnhjldifpaaa.V6

theorem imp_ff (x : Bool) : andB (impB false x) true = true := by cases x <;> rfl
noncomputable def okH (n : Nat) (T : Nat → Int) (C : Nat → Nat → Int) : Bool := andB (deq [.slc 0 0 n] [.slc 0 0 n]) (andB (deqH (roH n T C) (roH n T C)) (Nat.ble n few))
theorem okH_true {n : Nat} (hn : Nat.ble n few = true) (T : Nat → Int) (C : Nat → Nat → Int) : okH n T C = true := by unfold okH; rw [deq_self, deqH_self, hn]; rfl
/-- the code of samples, one of which there has to be -/
def sc (n : Nat) (T : Nat → Int) : Int := bif !vS n T then 1 else bif (n : Int) == 0 then 6 else 0
/-- how the laws compare counts -/
def eqc : List Int → Bool
  | [] => true
  | x :: t => cond (x != x) false (eqc t)
theorem eqc_true : ∀ l, eqc l = true
  | [] => rfl
  | x :: t => by simp [eqc, eqc_true t]
noncomputable def okE (n : Nat) (T : Nat → Int) (C : Nat → Nat → Int) : Bool := andB (deq [.slc 0 0 n, .slc 1 0 n] [.slc 0 0 n, .slc 1 0 n]) (andB (deqH (roH2 n T C) (roH2 n T C)) (Nat.ble n few))
theorem okE_true {n : Nat} (hn : Nat.ble n few = true) (T : Nat → Int) (C : Nat → Nat → Int) : okE n T C = true := by unfold okE; rw [deq_self, deqH_self, hn]; rfl
def lv (n : Nat) : Bool := decide (lft n < 0)
theorem law_ob1 {l a q1 q2 q3 q4 : Bool} (h : l = true ∨ (q1 = true ∧ q2 = true ∧ q3 = true ∧ q4 = true)) : impB (!l) (andB q1 (andB q3 (andB q1 (andB q4 (impB a (andB q1 (andB q2 true))))))) = true := by
  rcases h with h | ⟨h1, h2, h3, h4⟩
  · subst h
    cases (andB q1 (andB q3 (andB q1 (andB q4 (impB a (andB q1 (andB q2 true))))))) <;> rfl
  · subst h1 h2 h3 h4
    cases l <;> cases a <;> rfl
theorem lv_or {n : Nat} (h : n ≤ 9223372036854775807) : lv n = true ∨ Nat.ble n few = true := by
  rcases lft_few h with h | h
  · exact .inl h
  · exact .inr (Nat.ble_eq_true_of_le h)
end Go.Proofs.Ytibdnhjldifpaaa.H6
