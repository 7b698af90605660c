/- Texts of one claim, put together. -/
import Derived.Test.YtpnjimpiphbcfaaSxCp
import Derived.Test.YtpnjimpiphbcfaaSxFs
import Derived.Test.YtpnjimpiphbcfaaG1
import Derived.Test.YtpnjimpiphbcfaaSxExt
set_option linter.unusedVariables false
set_option linter.unusedSimpArgs false
set_option exponentiation.threshold 3000
set_option maxRecDepth 100000
namespace Go.Sx.Pr
open Go Go.Sx Go.Sx.Fl Go.Sx.C5 Go.Sx.Ink Ieee

theorem NV_uniq {o : Option Nat} {A B : Nat} (h : NV o A) (k : NV o B) : A = B := by
  obtain ⟨x, s, rfl, h1, _⟩ := h
  obtain ⟨y, t, e, k1, _⟩ := k
  cases e
  exact (FinS_same h1 k1).2
/-- what a number is worth -/
noncomputable def vN (o : Option Nat) : Nat := @dite Nat (∃ A, NV o A) (Classical.propDecidable _) (fun h => h.choose) (fun _ => 0)
theorem vN_eq {o : Option Nat} {A : Nat} (h : NV o A) : vN o = A := by
  have he : ∃ A, NV o A := ⟨A, h⟩
  unfold vN
  rw [dif_pos he]
  exact NV_uniq he.choose_spec h
theorem vN_NV {o : Option Nat} {k : Nat} (h : LE k o) : NV o (vN o) ∧ vN o ≤ k * 2 ^ 1074 := by
  obtain ⟨A, h1, h2⟩ := h
  rw [vN_eq h1]
  exact ⟨h1, h2⟩
/-- rounding of what is below 2 ^ (e + 24) moves it by less than 2 ^ e -/
theorem rd_e {X e : Nat} (h : X < 2 ^ 24 * 2 ^ e) (h0 : 925 ≤ e) (h1 : e ≤ 1080) : rd X ≤ X + 2 ^ e ∧ X ≤ rd X + 2 ^ e ∧ g32 X < single.infRung := by
  have hp : 0 < (2 : Nat) ^ e := Nat.two_pow_pos _
  have hg : g32 X < single.infRung := Nat.lt_of_le_of_lt (gR_mono (Nat.le_of_lt h)) (rep_grid (Nat.le_refl _) h0 h1).2
  have rg : ∀ {k : Nat}, k ≤ 2 ^ 24 → rd (k * 2 ^ e) = k * 2 ^ e := fun hk => (rep_grid hk h0 h1).1
  generalize hu : (2 : Nat) ^ e = u at *
  have hq : X / u < 2 ^ 24 := (Nat.div_lt_iff_lt_mul hp).2 h
  have hd := Nat.div_add_mod X u
  have hm := Nat.mod_lt X hp
  have r1 := rg (k := X / u + 1) (by omega)
  have r0 := rg (k := X / u) (by omega)
  have hx : X = u * (X / u) + X % u := hd.symm
  generalize X / u = q at *
  generalize X % u = t at *
  have e1 : (q + 1) * u = u * q + u := by rw [Nat.add_mul, Nat.one_mul, Nat.mul_comm]
  have e0 : q * u = u * q := Nat.mul_comm q u
  have a1 := rd_le (X := X) (Y := (q + 1) * u) (by omega) r1
  have a0 := rd_ge (X := X) (Y := q * u) (by omega) r0
  exact ⟨by omega, by omega, hg⟩
-- sums over bits
def L (g g' : Nat) (F : Bool → Nat) : Nat := g' * F false + g * F true
theorem L_mono {g g' : Nat} {F H : Bool → Nat} {k : Nat} (h : ∀ b, F b ≤ H b + k) : L g g' F ≤ L g g' H + (g + g') * k := by
  unfold L
  have h1 : g' * F false ≤ g' * (H false + k) := Nat.mul_le_mul_left _ (h false)
  have h2 : g * F true ≤ g * (H true + k) := Nat.mul_le_mul_left _ (h true)
  rw [Nat.mul_add] at h1 h2
  rw [Nat.add_mul]
  omega
theorem L_more {g g' d d' : Nat} {F : Bool → Nat} {k : Nat} (hg : g ≤ d) (hs : g + g' = d + d') (h : F true ≤ F false + k) : L d d' F ≤ L g g' F + (g + g') * k := by
  unfold L
  obtain ⟨x, rfl⟩ : ∃ x, d = g + x := ⟨d - g, by omega⟩
  obtain rfl : g' = d' + x := by omega
  have h1 : x * F true ≤ x * (F false + k) := Nat.mul_le_mul_left _ h
  have h2 : x * k ≤ (g + (d' + x)) * k := Nat.mul_le_mul_right _ (by omega)
  rw [Nat.mul_add] at h1
  rw [Nat.add_mul g x, Nat.add_mul d' x]
  omega
theorem L_const {g g' k : Nat} : L g g' (fun _ => k) = (g + g') * k := by unfold L; rw [← Nat.add_mul, Nat.add_comm]
/-- weights of four shares, in parts of 2 ^ 14 -/
structure Wt where
  g : Nat → Nat
  h : ∀ i, i < 4 → g i ≤ 16384
def L4 (w : Nat → Nat) (R : Bool → Bool → Bool → Bool → Nat) : Nat :=
  L (w 0) (16384 - w 0) fun b0 => L (w 1) (16384 - w 1) fun b1 => L (w 2) (16384 - w 2) fun b2 => L (w 3) (16384 - w 3) fun b3 => R b0 b1 b2 b3
theorem L4_mono {w : Nat → Nat} (hw : ∀ i, i < 4 → w i ≤ 16384) {R Q : Bool → Bool → Bool → Bool → Nat} {k : Nat} (h : ∀ a b c d, R a b c d ≤ Q a b c d + k) : L4 w R ≤ L4 w Q + 2 ^ 56 * k := by
  have h0 := hw 0 (by omega)
  have h1 := hw 1 (by omega)
  have h2 := hw 2 (by omega)
  have h3 := hw 3 (by omega)
  have e : ∀ {i : Nat}, w i ≤ 16384 → w i + (16384 - w i) = 16384 := fun h => by omega
  have := L_mono (g := w 0) (g' := 16384 - w 0) fun b0 => L_mono (g := w 1) (g' := 16384 - w 1) fun b1 => L_mono (g := w 2) (g' := 16384 - w 2) fun b2 => L_mono (g := w 3) (g' := 16384 - w 3) fun b3 => h b0 b1 b2 b3
  rw [e h0, e h1, e h2, e h3, ← Nat.mul_assoc, ← Nat.mul_assoc, ← Nat.mul_assoc] at this
  exact this
theorem L4_const {w : Nat → Nat} (hw : ∀ i, i < 4 → w i ≤ 16384) (k : Nat) : L4 w (fun _ _ _ _ => k) = 2 ^ 56 * k := by
  have h0 := hw 0 (by omega)
  have h1 := hw 1 (by omega)
  have h2 := hw 2 (by omega)
  have h3 := hw 3 (by omega)
  have e : ∀ {i : Nat}, w i ≤ 16384 → w i + (16384 - w i) = 16384 := fun h => by omega
  unfold L4
  rw [L_const, L_const, L_const, L_const, e h0, e h1, e h2, e h3, ← Nat.mul_assoc, ← Nat.mul_assoc, ← Nat.mul_assoc]
/-- more of one share never makes the sum greater than by what a set bit adds -/
theorem L4_more {w v : Nat → Nat} (hw : ∀ i, i < 4 → w i ≤ 16384) (hv : ∀ i, i < 4 → v i ≤ 16384) {R : Bool → Bool → Bool → Bool → Nat} {k : Nat} {i : Nat} (hi : i < 4) (ho : ∀ j, j ≠ i → v j = w j) (hm : w i ≤ v i)
    (h : ∀ a b c d, (i = 0 → R true b c d ≤ R false b c d + k) ∧ (i = 1 → R a true c d ≤ R a false c d + k) ∧ (i = 2 → R a b true d ≤ R a b false d + k) ∧ (i = 3 → R a b c true ≤ R a b c false + k)) : L4 v R ≤ L4 w R + 2 ^ 56 * k := by
  have h0 := hw 0 (by omega)
  have h1 := hw 1 (by omega)
  have h2 := hw 2 (by omega)
  have h3 := hw 3 (by omega)
  have e : ∀ {i : Nat}, w i ≤ 16384 → w i + (16384 - w i) = 16384 := fun h => by omega
  have hvi := hv i hi
  rcases i with _ | _ | _ | _ | i
  · have e1 := ho 1 (by omega); have e2 := ho 2 (by omega); have e3 := ho 3 (by omega)
    have hvi : v 0 ≤ 16384 := hvi
    have hm : w 0 ≤ v 0 := hm
    unfold L4
    rw [e1, e2, e3]
    have := L_more (d := v 0) (d' := 16384 - v 0) hm (by omega) (L_mono (g := w 1) (g' := 16384 - w 1) fun b1 => L_mono (g := w 2) (g' := 16384 - w 2) fun b2 => L_mono (g := w 3) (g' := 16384 - w 3) fun b3 => (h true b1 b2 b3).1 rfl) (F := fun b0 => L (w 1) (16384 - w 1) fun b1 => L (w 2) (16384 - w 2) fun b2 => L (w 3) (16384 - w 3) fun b3 => R b0 b1 b2 b3) (g := w 0) (g' := 16384 - w 0)
    rw [e h0, e h1, e h2, e h3, ← Nat.mul_assoc, ← Nat.mul_assoc, ← Nat.mul_assoc] at this
    exact this
  · have e1 := ho 0 (by omega); have e2 := ho 2 (by omega); have e3 := ho 3 (by omega)
    have hvi : v 1 ≤ 16384 := hvi
    have hm : w 1 ≤ v 1 := hm
    unfold L4
    rw [e1, e2, e3]
    have := L_mono (g := w 0) (g' := 16384 - w 0) fun b0 => L_more (d := v 1) (d' := 16384 - v 1) hm (by omega) (L_mono (g := w 2) (g' := 16384 - w 2) fun b2 => L_mono (g := w 3) (g' := 16384 - w 3) fun b3 => (h b0 true b2 b3).2.1 rfl) (F := fun b1 => L (w 2) (16384 - w 2) fun b2 => L (w 3) (16384 - w 3) fun b3 => R b0 b1 b2 b3) (g := w 1) (g' := 16384 - w 1)
    rw [e h0, e h1, e h2, e h3, ← Nat.mul_assoc, ← Nat.mul_assoc, ← Nat.mul_assoc] at this
    exact this
  · have e1 := ho 0 (by omega); have e2 := ho 1 (by omega); have e3 := ho 3 (by omega)
    have hvi : v 2 ≤ 16384 := hvi
    have hm : w 2 ≤ v 2 := hm
    unfold L4
    rw [e1, e2, e3]
    have := L_mono (g := w 0) (g' := 16384 - w 0) fun b0 => L_mono (g := w 1) (g' := 16384 - w 1) fun b1 => L_more (d := v 2) (d' := 16384 - v 2) hm (by omega) (L_mono (g := w 3) (g' := 16384 - w 3) fun b3 => (h b0 b1 true b3).2.2.1 rfl) (F := fun b2 => L (w 3) (16384 - w 3) fun b3 => R b0 b1 b2 b3) (g := w 2) (g' := 16384 - w 2)
    rw [e h0, e h1, e h2, e h3, ← Nat.mul_assoc, ← Nat.mul_assoc, ← Nat.mul_assoc] at this
    exact this
  · have e1 := ho 0 (by omega); have e2 := ho 1 (by omega); have e3 := ho 2 (by omega)
    have hvi : v 3 ≤ 16384 := hvi
    have hm : w 3 ≤ v 3 := hm
    unfold L4
    rw [e1, e2, e3]
    have := L_mono (g := w 0) (g' := 16384 - w 0) fun b0 => L_mono (g := w 1) (g' := 16384 - w 1) fun b1 => L_mono (g := w 2) (g' := 16384 - w 2) fun b2 => L_more (d := v 3) (d' := 16384 - v 3) hm (by omega) ((h b0 b1 b2 true).2.2.2 rfl) (F := fun b3 => R b0 b1 b2 b3) (g := w 3) (g' := 16384 - w 3)
    rw [e h0, e h1, e h2, e h3, ← Nat.mul_assoc, ← Nat.mul_assoc, ← Nat.mul_assoc] at this
    exact this
  · omega
-- the sum as it is computed, part by part
def xi (w : Nat → Nat) (n i : Nat) : Nat := bif kb n i then w i else 16384 - w i
def al (w : Nat → Nat) (n : Nat) : Nat := xi w n 0 * xi w n 1 * xi w n 2 * xi w n 3
def esum (a R : Nat → Nat) : Nat → Nat
  | 0 => a 0 * R 0
  | n + 1 => esum a R n + a (n + 1) * R (n + 1)
def num (a b c d : Bool) : Nat := a.toNat + 2 * b.toNat + 4 * c.toNat + 8 * d.toNat
theorem esum_L4 (w R : Nat → Nat) : esum (al w) R 15 = L4 w fun a b c d => R (num a b c d) := by
  show ((((((((((((((((al w 0 * R 0) + al w 1 * R 1) + al w 2 * R 2) + al w 3 * R 3) + al w 4 * R 4) + al w 5 * R 5) + al w 6 * R 6) + al w 7 * R 7) + al w 8 * R 8) + al w 9 * R 9) + al w 10 * R 10) + al w 11 * R 11) + al w 12 * R 12) + al w 13 * R 13) + al w 14 * R 14) + al w 15 * R 15) = _
  have e : ∀ n, al w n = xi w n 0 * xi w n 1 * xi w n 2 * xi w n 3 := fun _ => rfl
  unfold L4 L
  simp only [e, xi, show ∀ n i, kb n i = Nat.beq (n / 2 ^ i % 2) 1 from fun _ _ => rfl, num, Nat.mul_add, Nat.mul_assoc, cond_true, cond_false, show Nat.beq (0 / 2 ^ 0 % 2) 1 = false from rfl]
  simp [Nat.mul_add, Nat.mul_assoc]
  omega
end Go.Sx.Pr
set_option linter.unusedVariables false
set_option linter.unusedSimpArgs false
set_option exponentiation.threshold 3000
set_option maxRecDepth 100000
namespace Go.Sx.Pr
open Go Go.Sx Go.Sx.Fl Go.Sx.C5 Go.Sx.Ink Ieee

/-- the unit of errors -/
def ve : Nat := 2 ^ 1050
theorem ve_pos : 0 < ve := Nat.two_pow_pos _
theorem U_ve : (2 : Nat) ^ 1074 = 16777216 * ve := by unfold ve; rw [show (1074 : Nat) = 24 + 1050 from rfl, Nat.pow_add]
theorem v4 : (2 : Nat) ^ 1052 = 4 * ve := by unfold ve; rw [show (1052 : Nat) = 2 + 1050 from rfl, Nat.pow_add]
/-- within `k` units -/
def nw (k A B : Nat) : Prop := A ≤ B + k * ve ∧ B ≤ A + k * ve
theorem mul_e {a b : Option Nat} {A B : Nat} (ha : NV a A) (hb : NV b B) : ∃ Z, A * B = Z * 2 ^ 1074 ∧ (Z < 16777216 * (4 * ve) → NV (mu a b) (rd Z) ∧ nw 4 (rd Z) Z) ∧ (Z ≤ 16777216 * ve → NV (mu a b) (rd Z) ∧ nw 2 (rd Z) Z) := by
  obtain ⟨Z, hZ, hn⟩ := ha.mul hb
  refine ⟨Z, hZ, fun h => ?_, fun h => ?_⟩
  · have h' : Z < 2 ^ 24 * 2 ^ 1052 := by rw [v4]; exact h
    obtain ⟨h1, h2, h3⟩ := rd_e h' (by omega) (by omega)
    rw [v4] at h1 h2
    exact ⟨hn h3, h1, h2⟩
  · have e : (2 : Nat) ^ 1051 = 2 * ve := by unfold ve; rw [show (1051 : Nat) = 1 + 1050 from rfl, Nat.pow_add]
    have h' : Z < 2 ^ 24 * 2 ^ 1051 := by
      rw [e]; have := ve_pos; rw [show (2 : Nat) ^ 24 = 16777216 from rfl]; omega
    obtain ⟨h1, h2, h3⟩ := rd_e h' (by omega) (by omega)
    rw [e] at h1 h2
    exact ⟨hn h3, h1, h2⟩
theorem step_e {A T ξ Z j q : Nat} (h : nw j A (T * (16384 * q))) (hξ : ξ ≤ 16384) (hZ : Z * 16384 = A * ξ) : nw j Z (T * ξ * q) := by
  unfold nw at h ⊢
  obtain ⟨h1, h2⟩ := h
  have m1 := Nat.mul_le_mul_right ξ h1
  have m2 := Nat.mul_le_mul_right ξ h2
  rw [Nat.add_mul] at m1 m2
  have e1 : T * (16384 * q) * ξ = (T * ξ * q) * 16384 := by
    simp only [Nat.mul_assoc, Nat.mul_left_comm, Nat.mul_comm]
  have e2 : j * ve * ξ ≤ j * ve * 16384 := Nat.mul_le_mul_left _ hξ
  rw [e1, ← hZ] at m1
  rw [e1, ← hZ] at m2
  generalize T * ξ * q = y at *
  generalize j * ve = x at *
  generalize x * ξ = z at *
  constructor
  · omega
  · omega
theorem pw (k a b : Nat) (h : a + b = k := by rfl) : (2 : Nat) ^ k = 2 ^ a * 2 ^ b := by rw [← h, Nat.pow_add]
/-- an area, near the whole number -/
theorem area_e {x0 x1 x2 x3 : Option Nat} {a b c d : Nat} (h0 : NV x0 (a * 2 ^ 1060)) (h1 : NV x1 (b * 2 ^ 1060)) (h2 : NV x2 (c * 2 ^ 1060)) (h3 : NV x3 (d * 2 ^ 1060)) (ha : a ≤ 16384) (hb : b ≤ 16384) (hc : c ≤ 16384) (hd : d ≤ 16384) :
    ∃ A, NV (mu (mu (mu x0 x1) x2) x3) A ∧ nw 6 A (a * b * c * d * 2 ^ 1018) := by
  have e14 : (2 : Nat) ^ 14 = 16384 := by decide
  have eU : (2 : Nat) ^ 1074 = 16384 * 2 ^ 1060 := by rw [pw 1074 14 1060, e14]
  have e46 : (2 : Nat) ^ 1060 = 16384 * 2 ^ 1046 := by rw [pw 1060 14 1046, e14]
  have e32 : (2 : Nat) ^ 1046 = 16384 * 2 ^ 1032 := by rw [pw 1046 14 1032, e14]
  have e18 : (2 : Nat) ^ 1032 = 16384 * 2 ^ 1018 := by rw [pw 1032 14 1018, e14]
  have hp : 0 < (2 : Nat) ^ 1060 := Nat.two_pow_pos _
  -- the first product
  obtain ⟨Z1, z1, _, f1⟩ := mul_e h0 h1
  have q1 : Z1 = a * b * 2 ^ 1046 := by
    have : Z1 * 2 ^ 1074 = a * b * 2 ^ 1046 * 2 ^ 1074 := by
      rw [← z1, Nat.mul_mul_mul_comm, Nat.mul_assoc (a * b), ← Nat.pow_add]
    exact Nat.eq_of_mul_eq_mul_right (Nat.two_pow_pos _) this
  have hab : a * b ≤ 16384 * 16384 := Nat.mul_le_mul ha hb
  have habU : a * b * 2 ^ 1046 ≤ 16777216 * ve := by
    rw [← U_ve, pw 1074 28 1046]
    exact Nat.mul_le_mul_right _ hab
  obtain ⟨n1, w1⟩ := f1 (by rw [q1]; exact habU)
  rw [q1] at n1 w1
  have rU : rd (16777216 * ve) = 16777216 * ve := by
    have := (rep_nat (k := 1) (by decide)).1
    rw [Nat.one_mul, U_ve] at this
    exact this
  have l1 : rd (a * b * 2 ^ 1046) ≤ 16777216 * ve := rd_le habU rU
  -- the second
  obtain ⟨Z2, z2, _, f2⟩ := mul_e n1 h2
  have q2 : Z2 * 16384 = rd (a * b * 2 ^ 1046) * c := by
    have : Z2 * 16384 * 2 ^ 1060 = rd (a * b * 2 ^ 1046) * c * 2 ^ 1060 := by
      rw [Nat.mul_assoc Z2, ← eU, Nat.mul_assoc, z2]
    exact Nat.eq_of_mul_eq_mul_right hp this
  have u2 : Z2 ≤ 16777216 * ve := by
    have : Z2 * 16384 ≤ (16777216 * ve) * 16384 := by rw [q2]; exact Nat.mul_le_mul l1 hc
    exact Nat.le_of_mul_le_mul_right this (by decide)
  have w2 := step_e (T := a * b) (q := 2 ^ 1032) (by rw [← e32]; exact w1) hc q2
  obtain ⟨n2, r2⟩ := f2 u2
  have l2 : rd Z2 ≤ 16777216 * ve := rd_le u2 rU
  have w2' : nw 4 (rd Z2) (a * b * c * (16384 * 2 ^ 1018)) := by
    rw [← e18]
    unfold nw at *
    omega
  -- the third
  obtain ⟨Z3, z3, _, f3⟩ := mul_e n2 h3
  have q3 : Z3 * 16384 = rd Z2 * d := by
    have : Z3 * 16384 * 2 ^ 1060 = rd Z2 * d * 2 ^ 1060 := by
      rw [Nat.mul_assoc Z3, ← eU, Nat.mul_assoc, z3]
    exact Nat.eq_of_mul_eq_mul_right hp this
  have u3 : Z3 ≤ 16777216 * ve := by
    have : Z3 * 16384 ≤ (16777216 * ve) * 16384 := by rw [q3]; exact Nat.mul_le_mul l2 hd
    exact Nat.le_of_mul_le_mul_right this (by decide)
  have w3 := step_e w2' hd q3
  obtain ⟨n3, r3⟩ := f3 u3
  refine ⟨_, n3, ?_⟩
  unfold nw at *
  omega
abbrev c56 : Nat := 72057594037927936
theorem c56_eq : (2 : Nat) ^ 56 = 72057594037927936 := by decide
/-- within `k` units, in parts of 2 ^ 56 -/
def nS (k A E : Nat) : Prop := 72057594037927936 * A ≤ E + 72057594037927936 * (k * ve) ∧ E ≤ 72057594037927936 * A + 72057594037927936 * (k * ve)
theorem term_n {Z T R y c : Nat} (hp : 0 < c) (h1 : Z * (72057594037927936 * c) ≤ T * R * c + y) (h2 : T * R * c ≤ Z * (72057594037927936 * c) + y) (hy : y ≤ 72057594037927936 * (12 * ve) * c) : nS 12 Z (T * R) := by
  have e : Z * (72057594037927936 * c) = 72057594037927936 * Z * c := by rw [Nat.mul_left_comm, Nat.mul_assoc]
  rw [e] at h1 h2
  constructor
  · refine Nat.le_of_mul_le_mul_right (c := c) ?_ hp
    rw [Nat.add_mul]
    exact Nat.le_trans h1 (Nat.add_le_add_left hy _)
  · refine Nat.le_of_mul_le_mul_right (c := c) ?_ hp
    rw [Nat.add_mul]
    exact Nat.le_trans h2 (Nat.add_le_add_left hy _)
theorem nS_lt {Z E v : Nat} (h : 72057594037927936 * Z ≤ E + 72057594037927936 * (12 * v)) (hE : E ≤ 72057594037927936 * (2 * (16777216 * v))) (hv : 0 < v) : Z < 16777216 * (4 * v) := by omega
theorem nS_rd {k j A B E : Nat} (h : nS k A E) (h1 : nw j B A) : nS (k + j) B E := by
  unfold nS nw at *
  rw [Nat.add_mul]
  generalize k * ve = x at *
  generalize j * ve = y at *
  constructor <;> omega
theorem term_e {a r : Option Nat} {A T R : Nat} (ha : NV a A) (hw : nw 6 A (T * 2 ^ 1018)) (hT : T ≤ 2 ^ 56) (hr : NV r R) (hR : R ≤ 2 * (16777216 * ve)) : ∃ t, NV (mu a r) t ∧ nS 16 t (T * R) := by
  have hv := ve_pos
  have eU : (2 : Nat) ^ 1074 = 72057594037927936 * 2 ^ 1018 := by rw [pw 1074 56 1018, c56_eq]
  have hp : 0 < (2 : Nat) ^ 1018 := Nat.two_pow_pos _
  obtain ⟨Z, z, f, _⟩ := mul_e ha hr
  obtain ⟨w1, w2⟩ := hw
  have m1 := Nat.mul_le_mul_right R w1
  have m2 := Nat.mul_le_mul_right R w2
  rw [Nat.add_mul] at m1 m2
  have e1 : T * 2 ^ 1018 * R = T * R * 2 ^ 1018 := Nat.mul_right_comm _ _ _
  have e2 : 6 * ve * R ≤ 72057594037927936 * (12 * ve) * 2 ^ 1018 := by
    have := Nat.mul_le_mul_left (6 * ve) hR
    rw [← U_ve, eU] at this
    refine Nat.le_trans this (Nat.le_of_eq ?_)
    rw [show 12 * ve = 6 * ve * 2 by omega]
    simp only [Nat.mul_assoc, Nat.mul_left_comm]
  rw [e1, z, eU] at m1 m2
  have l := term_n hp m1 m2 e2
  have l3 : T * R ≤ 72057594037927936 * (2 * (16777216 * ve)) := by
    have := Nat.mul_le_mul hT hR
    rw [c56_eq] at this
    exact this
  obtain ⟨n, r1⟩ := f (nS_lt l.1 l3 hv)
  have h := nS_rd l r1
  rw [show (12 + 4 : Nat) = 16 from rfl] at h
  exact ⟨_, n, h⟩
theorem al_le {w : Nat → Nat} (hw : ∀ i, i < 4 → w i ≤ 16384) (n : Nat) : al w n ≤ 2 ^ 56 := by
  have hx : ∀ i, i < 4 → xi w n i ≤ 16384 := fun i hi => by
    unfold xi
    cases kb n i
    · exact Nat.sub_le _ _
    · exact hw i hi
  have := Nat.mul_le_mul (Nat.mul_le_mul (Nat.mul_le_mul (hx 0 (by omega)) (hx 1 (by omega))) (hx 2 (by omega))) (hx 3 (by omega))
  exact this
theorem esum_mono {a R : Nat → Nat} : ∀ {n m : Nat}, n ≤ m → esum a R n ≤ esum a R m
  | n, 0, h => by
    have : n = 0 := by omega
    subst this
    exact Nat.le_refl _
  | n, m + 1, h => by
    by_cases h1 : n = m + 1
    · subst h1; exact Nat.le_refl _
    · exact Nat.le_trans (esum_mono (n := n) (m := m) (by omega)) (Nat.le_add_right _ _)
theorem esum_le {a R : Nat → Nat} {K : Nat} (h : ∀ n, n < 16 → R n ≤ K) : ∀ n, n < 16 → esum a R n ≤ esum a (fun _ => K) n
  | 0, _ => Nat.mul_le_mul_left _ (h 0 (by omega))
  | n + 1, hn => Nat.add_le_add (esum_le h n (by omega)) (Nat.mul_le_mul_left _ (h (n + 1) hn))
theorem esum_top {w R : Nat → Nat} (hw : ∀ i, i < 4 → w i ≤ 16384) {K : Nat} (h : ∀ n, n < 16 → R n ≤ K) {n : Nat} (hn : n < 16) : esum (al w) R n ≤ 72057594037927936 * K := by
  have h1 := esum_le (a := al w) h n hn
  have h2 := esum_mono (a := al w) (R := fun _ => K) (n := n) (m := 15) (by omega)
  rw [esum_L4, L4_const hw, c56_eq] at h2
  exact Nat.le_trans h1 h2
theorem sum_n {S t E F y v : Nat} (h2 : 72057594037927936 * S ≤ E + 72057594037927936 * y ∧ E ≤ 72057594037927936 * S + 72057594037927936 * y) (k2 : 72057594037927936 * t ≤ F + 72057594037927936 * (16 * v) ∧ F ≤ 72057594037927936 * t + 72057594037927936 * (16 * v))
    (ht : E + F ≤ 72057594037927936 * (2 * (16777216 * v))) (hk : y ≤ 320 * v) (hv : 0 < v) : S + t < 16777216 * (4 * v) := by omega
theorem sum_m {S t E F y z v : Nat} (h2 : 72057594037927936 * S ≤ E + 72057594037927936 * y ∧ E ≤ 72057594037927936 * S + 72057594037927936 * y) (k2 : 72057594037927936 * t ≤ F + 72057594037927936 * (16 * v) ∧ F ≤ 72057594037927936 * t + 72057594037927936 * (16 * v))
    (g1 : z ≤ S + t + 4 * v) (g2 : S + t ≤ z + 4 * v) : 72057594037927936 * z ≤ E + F + 72057594037927936 * (y + 20 * v) ∧ E + F ≤ 72057594037927936 * z + 72057594037927936 * (y + 20 * v) := by omega
/-- the sum at a wavelength, near the whole number -/
theorem sum_e {a r : Nat → Option Nat} {A R w : Nat → Nat} {x : Nat} (hw : ∀ i, i < 4 → w i ≤ 16384) (ha : ∀ n, n < 16 → NV (a n) (A n) ∧ nw 6 (A n) (al w n * 2 ^ 1018)) (hr : ∀ n, n < 16 → NV (r (n * 16 + x)) (R n) ∧ R n ≤ 2 * (16777216 * ve)) :
    ∀ n, n < 16 → ∃ S, NV (sm a r x n) S ∧ nS (20 * (n + 1)) S (esum (al w) R n)
  | 0, _ => by
    obtain ⟨t, h1, h2⟩ := term_e (ha 0 (by omega)).1 (ha 0 (by omega)).2 (al_le hw 0) (hr 0 (by omega)).1 (hr 0 (by omega)).2
    refine ⟨t, h1, ?_⟩
    have e : esum (al w) R 0 = al w 0 * R 0 := rfl
    rw [e]
    unfold nS at *
    constructor <;> omega
  | n + 1, hn => by
    have hv := ve_pos
    obtain ⟨S, h1, h2⟩ := sum_e hw ha hr n (by omega)
    obtain ⟨t, k1, k2⟩ := term_e (ha (n + 1) hn).1 (ha (n + 1) hn).2 (al_le hw (n + 1)) (hr (n + 1) hn).1 (hr (n + 1) hn).2
    have ht := esum_top hw (fun n hn => (hr n hn).2) hn
    have e : esum (al w) R (n + 1) = esum (al w) R n + al w (n + 1) * R (n + 1) := rfl
    rw [e] at ht ⊢
    have hk : 20 * (n + 1) * ve ≤ 320 * ve := Nat.mul_le_mul_right _ (by omega)
    have hk2 : 20 * (n + 1 + 1) * ve = 20 * (n + 1) * ve + 20 * ve := by rw [← Nat.add_mul]; congr 1
    have hs := sum_n h2 k2 ht hk hv
    have hs' : S + t < 2 ^ 24 * 2 ^ 1052 := by rw [v4]; exact hs
    obtain ⟨g1, g2, g3⟩ := rd_e hs' (by omega) (by omega)
    rw [v4] at g1 g2
    refine ⟨_, h1.add k1 g3, ?_⟩
    unfold nS
    rw [hk2]
    exact sum_m h2 k2 g1 g2
end Go.Sx.Pr
set_option linter.unusedVariables false
set_option linter.unusedSimpArgs false
set_option exponentiation.threshold 3000
set_option maxRecDepth 100000
namespace Go.Sx.Pr
open Go Go.Sx Go.Sx.Fl Go.Sx.C5 Go.Sx.Ink Ieee

def dst (A B : Nat) : Nat := (A - B) + (B - A)
/-- a difference, of either sign -/
theorem sub_abs {a b : Option Nat} {A B : Nat} (ha : NV a A) (hb : NV b B) : ∃ z s, fop .sub .f32 a b = some z ∧ FinS .f32 z s (rd (dst A B)) := by
  have hf : g32 (dst A B) < single.infRung := by
    rcases Nat.le_total A B with h | h
    · refine Nat.lt_of_le_of_lt (gR_mono (?_ : dst A B ≤ B)) hb.rep.2
      unfold dst; omega
    · refine Nat.lt_of_le_of_lt (gR_mono (?_ : dst A B ≤ A)) ha.rep.2
      unfold dst; omega
  obtain ⟨x, s, rfl, ⟨m, i, h1, h2, rfl⟩, h3⟩ := ha
  obtain ⟨y, t, rfl, ⟨n, j, k1, k2, rfl⟩, k3⟩ := hb
  have hx : single.read x = .number s m i := h1
  have hy : single.read y = .number t n j := k1
  rw [fop_eq]
  show ∃ z s, single.sub x y = some z ∧ _
  unfold Format.sub
  rw [hx, hy]
  unfold Datum.sum Datum.opposite
  simp only [Option.map_some]
  have hb : -1074 ≤ min i j := by omega
  generalize hbase : min i j = base at *
  have ei : (i + 1074).toNat = (i - base).toNat + (base + 1074).toNat := by omega
  have ej : (j + 1074).toNat = (j - base).toNat + (base + 1074).toNat := by omega
  have hvi : m * 2 ^ (i + 1074).toNat = m * 2 ^ (i - base).toNat * 2 ^ (base + 1074).toNat := by rw [Nat.mul_assoc, ← Nat.pow_add, ← ei]
  have hvj : n * 2 ^ (j + 1074).toNat = n * 2 ^ (j - base).toNat * 2 ^ (base + 1074).toNat := by rw [Nat.mul_assoc, ← Nat.pow_add, ← ej]
  have hsm : signed s m (i - base).toNat = ((m * 2 ^ (i - base).toNat : Nat) : Int) := signed_NV (by rw [ei]) h3
  have hsn : signed (!t) n (j - base).toNat = -((n * 2 ^ (j - base).toNat : Nat) : Int) := by
    have := signed_NV (s := t) (by rw [ej]) k3
    rw [signed_eq]
    cases t
    · simp
    · have hn : n = 0 := by
        rcases Nat.mul_eq_zero.1 (k3 rfl) with h | h
        · exact h
        · exact absurd h (Nat.pos_iff_ne_zero.1 (Nat.two_pow_pos _))
      simp [hn]
  rw [hsm, hsn]
  have hv : dst (m * 2 ^ (i - base).toNat) (n * 2 ^ (j - base).toNat) * 2 ^ (base + 1074).toNat = dst (m * 2 ^ (i + 1074).toNat) (n * 2 ^ (j + 1074).toNat) := by
    unfold dst
    rw [hvi, hvj, Nat.add_mul, Nat.sub_mul, Nat.sub_mul]
  rw [← hv] at hf ⊢
  generalize m * 2 ^ (i - base).toNat = a at *
  generalize n * 2 ^ (j - base).toNat = b at *
  have ht : ((a : Int) + -(b : Int)).natAbs = dst a b := by unfold dst; omega
  rw [ht]
  exact ⟨_, _, rfl, write32 _ _ base hb hf⟩
-- the absolute value
noncomputable def ab (x : Option Nat) : Option Nat := ffrom .f32 (bitsOp .and .u32 (fbits x) 2147483647)
noncomputable def obN (x : Option Nat) : Bool := andB (isS x) (andB (decide (0 ≤ bitsOp .and .u32 (fbits x) 2147483647) && decide (bitsOp .and .u32 (fbits x) 2147483647 < 4294967296)) true)
theorem and31 {z : Nat} (hz : z < 2 ^ 32) : bitsOp .and .u32 (fbits (some z)) 2147483647 = ((z % 2147483648 : Nat) : Int) := by
  rw [bitsOp_eq]
  unfold bitsReal fbits
  show IntKind.u32.wrap ((BitVec.ofInt 32 (z : Int) &&& BitVec.ofInt 32 2147483647).toNat : Nat) = _
  have e2 : (BitVec.ofInt 32 2147483647).toNat = 2 ^ 31 - 1 := by decide
  have e1 : (BitVec.ofInt 32 (z : Int)).toNat = z := by
    rw [BitVec.toNat_ofInt]
    omega
  rw [BitVec.toNat_and, e1, e2, Nat.and_two_pow_sub_one_eq_mod]
  have : z % 2 ^ 31 < 2147483648 := Nat.mod_lt _ (by decide)
  rw [IntWalk.u32_in _ ⟨by omega, by omega⟩]
theorem ab_FinS {z : Nat} {s : Bool} {X : Nat} (hw : Wd z) (h : FinS .f32 z s X) : NV (ab (some z)) X ∧ obN (some z) = true := by
  have hr : rung z < 2147483648 := Nat.mod_lt _ (by decide)
  have ha := and31 hw.1
  rw [show z % 2147483648 = rung z from rfl] at ha
  rcases wd_read hw with ⟨h1, h2⟩ | ⟨_, h2⟩
  · obtain ⟨_, e2⟩ := FinS_same h h2
    have hn : Wd (rung z) := ⟨by omega, (by
      obtain ⟨m, i, h3, _⟩ := read_rung false h1
      have e : single.word false (rung z) = rung z := by simp [Format.word]
      rw [e] at h3
      rw [h3]; rfl)⟩
    have hf : FinS .f32 (rung z) false X := by
      have := read_rung false h1
      have e : single.word false (rung z) = rung z := by simp [Format.word]
      rw [e] at this
      rw [e2]; exact this
    constructor
    · unfold ab
      rw [ha, ffrom_eq]
      have : ffromReal .f32 ((rung z : Nat) : Int) = some (rung z) := by
        unfold ffromReal nrm
        rw [Int.toNat_natCast, hn.2]; rfl
      rw [this]
      exact NV.of hf
    · unfold obN
      rw [ha, decide_eq_true (by omega), decide_eq_true (by omega)]; rfl
  · obtain ⟨m, i, h3, _⟩ := h
    rw [h2] at h3; cases h3
/-- how far two numbers are apart -/
theorem near_e {a b : Option Nat} {A B : Nat} (ha : NV a A) (hb : NV b B) : NV (ab (fop .sub .f32 a b)) (rd (dst A B)) ∧ obN (fop .sub .f32 a b) = true := by
  obtain ⟨z, s, e, hf⟩ := sub_abs ha hb
  rw [e]
  exact ab_FinS (fop_wd e) hf
noncomputable def nr (a b d : Option Nat) : Bool := fcmp .leq .f32 (ab (fop .sub .f32 a b)) d
theorem tk_ve : NV (some 953267991) (13743895 * 2 ^ 1037) ∧ ve = 8192 * 2 ^ 1037 := ⟨NV_val (by decide +kernel), by unfold ve; rw [show (1050 : Nat) = 13 + 1037 from rfl, Nat.pow_add]⟩
theorem nr_true {a b : Option Nat} {A B : Nat} (ha : NV a A) (hb : NV b B) (h : nw 1600 A B) : nr a b (some 953267991) = true := by
  obtain ⟨h1, _⟩ := near_e ha hb
  obtain ⟨t1, t2⟩ := tk_ve
  unfold nr
  rw [(fcmp_NV h1 t1).2.2.2.1]
  refine decide_eq_true (Nat.le_trans (rd_le (Y := 1600 * ve) ?_ (rep_grid (k := 1600) (e := 1050) (by decide) (by decide) (by decide)).1) ?_)
  · unfold nw at h
    unfold dst
    omega
  · rw [t2]
    have := Nat.two_pow_pos 1037
    omega
end Go.Sx.Pr
set_option linter.unusedVariables false
set_option linter.unusedSimpArgs false
set_option exponentiation.threshold 3000
set_option maxRecDepth 100000
namespace Go.Sx.Pr
open Go Go.Sx Go.Sx.Fl Go.Sx.C5 Go.Sx.Ink Ieee

-- overprints in whole numbers
def mv (X Y : Nat) : Nat := rd (X * Y / 2 ^ 1074)
theorem rU : rd (2 ^ 1074) = 2 ^ 1074 := by
  have := (rep_nat (k := 1) (by decide)).1
  rwa [Nat.one_mul] at this
theorem mv_NV {x y : Option Nat} {X Y : Nat} (hx : NV x X) (hy : NV y Y) (hX : X ≤ 2 ^ 1074) (hY : Y ≤ 2 ^ 1074) : NV (mu x y) (mv X Y) := by
  obtain ⟨Z, hZ, hn⟩ := hx.mul hy
  have e : X * Y / 2 ^ 1074 = Z := by rw [hZ, Nat.mul_div_cancel _ (Nat.two_pow_pos _)]
  have hl : Z ≤ 2 ^ 1074 := by
    have : Z * 2 ^ 1074 ≤ 2 ^ 1074 * 2 ^ 1074 := by rw [← hZ]; exact Nat.mul_le_mul hX hY
    exact Nat.le_of_mul_le_mul_right this (Nat.two_pow_pos _)
  unfold mv
  rw [e]
  exact hn (g_lt (k := 1) (by decide) (by rw [Nat.one_mul]; exact hl))
theorem mv_le {X Y : Nat} (hX : rd X = X) (hY : Y ≤ 2 ^ 1074) : mv X Y ≤ X := by
  unfold mv
  refine rd_le ?_ hX
  have : X * Y / 2 ^ 1074 ≤ X * 2 ^ 1074 / 2 ^ 1074 := Nat.div_le_div_right (Nat.mul_le_mul_left _ hY)
  rwa [Nat.mul_div_cancel _ (Nat.two_pow_pos _)] at this
theorem mv_mono {X X' Y : Nat} (h : X ≤ X') : mv X Y ≤ mv X' Y := rd_mono (Nat.div_le_div_right (Nat.mul_le_mul_right _ h))
def ovN (k : Bool) (X Y : Nat) : Nat := bif k then mv X Y else X
theorem ovN_mono {k : Bool} {X X' Y : Nat} (h : X ≤ X') : ovN k X Y ≤ ovN k X' Y := by
  cases k
  · exact h
  · exact mv_mono h
theorem ovN_NV {k : Bool} {x y : Option Nat} {X Y : Nat} (hx : NV x X) (hy : NV y Y) (hX : X ≤ 2 ^ 1074) (hY : Y ≤ 2 ^ 1074) : NV (ov1 k x y) (ovN k X Y) ∧ ovN k X Y ≤ 2 ^ 1074 ∧ ovN k X Y ≤ X := by
  cases k
  · exact ⟨hx, hX, Nat.le_refl _⟩
  · have h := mv_le hx.rep.1 hY
    exact ⟨mv_NV hx hy hX hY, Nat.le_trans h hX, h⟩
/-- the press as whole numbers -/
noncomputable def pN (f : Nat → Option Nat) (i : Nat) : Nat := vN (f i)
noncomputable def oV (f : Nat → Option Nat) (w : Nat) (a b c d : Bool) : Nat := ovN d (ovN c (ovN b (ovN a (pN f w) (pN f (16 + w))) (pN f (32 + w))) (pN f (48 + w))) (pN f (64 + w))
theorem pN_NV {f : Nat → Option Nat} (h : ∀ i, i < 80 → LE 1 (f i)) {i : Nat} (hi : i < 80) : NV (f i) (pN f i) ∧ pN f i ≤ 2 ^ 1074 := by
  have := vN_NV (h i hi)
  rwa [Nat.one_mul] at this
theorem ov_NV {f : Nat → Option Nat} (h : ∀ i, i < 80 → LE 1 (f i)) {w : Nat} (hw : w < 16) (a b c d : Bool) : NV (ov f a b c d w) (oV f w a b c d) ∧ oV f w a b c d ≤ 2 ^ 1074 := by
  obtain ⟨p, hp⟩ := pN_NV h (i := w) (by omega)
  obtain ⟨p0, h0⟩ := pN_NV h (i := 16 + w) (by omega)
  obtain ⟨p1, h1⟩ := pN_NV h (i := 32 + w) (by omega)
  obtain ⟨p2, h2⟩ := pN_NV h (i := 48 + w) (by omega)
  obtain ⟨p3, h3⟩ := pN_NV h (i := 64 + w) (by omega)
  have s0 := ovN_NV (k := a) p p0 hp h0
  have s1 := ovN_NV (k := b) s0.1 p1 s0.2.1 h1
  have s2 := ovN_NV (k := c) s1.1 p2 s1.2.1 h2
  have s3 := ovN_NV (k := d) s2.1 p3 s2.2.1 h3
  exact ⟨s3.1, s3.2.1⟩
theorem oV_more {f : Nat → Option Nat} (h : ∀ i, i < 80 → LE 1 (f i)) {w : Nat} (hw : w < 16) (a b c d : Bool) :
    oV f w true b c d ≤ oV f w false b c d ∧ oV f w a true c d ≤ oV f w a false c d ∧ oV f w a b true d ≤ oV f w a b false d ∧ oV f w a b c true ≤ oV f w a b c false := by
  obtain ⟨p, hp⟩ := pN_NV h (i := w) (by omega)
  obtain ⟨p0, h0⟩ := pN_NV h (i := 16 + w) (by omega)
  obtain ⟨p1, h1⟩ := pN_NV h (i := 32 + w) (by omega)
  obtain ⟨p2, h2⟩ := pN_NV h (i := 48 + w) (by omega)
  obtain ⟨p3, h3⟩ := pN_NV h (i := 64 + w) (by omega)
  have s0 := ovN_NV (k := a) p p0 hp h0
  have s1 := ovN_NV (k := b) s0.1 p1 s0.2.1 h1
  have s2 := ovN_NV (k := c) s1.1 p2 s1.2.1 h2
  have r0 := (ovN_NV (k := true) p p0 hp h0).2.2
  have r1 := (ovN_NV (k := true) s0.1 p1 s0.2.1 h1).2.2
  have r2 := (ovN_NV (k := true) s1.1 p2 s1.2.1 h2).2.2
  have r3 := (ovN_NV (k := true) s2.1 p3 s2.2.1 h3).2.2
  exact ⟨ovN_mono (ovN_mono (ovN_mono r0)), ovN_mono (ovN_mono r1), ovN_mono r2, r3⟩
-- roots
theorem root_mono {A A' R R' : Nat} (h : RootN A R) (h' : RootN A' R') (hA : A ≤ A') (hR : R' ≤ 2 * (16777216 * ve)) : R ≤ R' + 32 * ve := by
  obtain ⟨h1, _⟩ := h
  obtain ⟨_, h2⟩ := h'
  have m : A * 2 ^ 1074 * 1048577 ≤ A' * 2 ^ 1074 * 1048577 := Nat.mul_le_mul_right _ (Nat.mul_le_mul_right _ hA)
  have h3 := Nat.mul_le_mul_right 1048576 (Nat.le_trans h1 m)
  have h4 := Nat.mul_le_mul_right 1048577 h2
  have e3 : R * R * 1048576 * 1048576 = (R * 1048576) * (R * 1048576) := by rw [Nat.mul_mul_mul_comm, Nat.mul_assoc]
  have e4 : R' * R' * 1048577 * 1048577 = (R' * 1048577) * (R' * 1048577) := by rw [Nat.mul_mul_mul_comm, Nat.mul_assoc]
  rw [e3, Nat.mul_right_comm _ 1048577 1048576] at h3
  rw [e4] at h4
  have h5 := Nat.mul_self_le_mul_self_iff.1 (Nat.le_trans h3 h4)
  omega
theorem root_top {A R : Nat} (h : RootN A R) (hA : A ≤ 2 ^ 1074) : R ≤ 16777216 * ve + 8 * ve := by
  obtain ⟨h1, _⟩ := h
  have m : A * 2 ^ 1074 * 1048577 ≤ 2 ^ 1074 * 2 ^ 1074 * 1048577 := Nat.mul_le_mul_right _ (Nat.mul_le_mul_right _ hA)
  have h3 := Nat.mul_le_mul_right 4194304 (Nat.le_trans h1 m)
  have e3 : R * R * 1048576 * 4194304 = (R * 2097152) * (R * 2097152) := by
    rw [Nat.mul_mul_mul_comm, Nat.mul_assoc]
  have e4 : 2 ^ 1074 * 2 ^ 1074 * 1048577 * 4194304 ≤ (2 ^ 1074 * 2097153) * (2 ^ 1074 * 2097153) := by
    rw [Nat.mul_mul_mul_comm, Nat.mul_assoc]
    exact Nat.mul_le_mul_left _ (by decide)
  rw [e3] at h3
  have h5 := Nat.mul_self_le_mul_self_iff.1 (Nat.le_trans h3 e4)
  rw [U_ve] at h5
  omega
noncomputable def Rv (f : Nat → Option Nat) (w n : Nat) : Nat := vN (rF f (n * 16 + w))
theorem Rv_NV {f : Nat → Option Nat} (h : ∀ i, i < 80 → LE 1 (f i)) {w : Nat} (hw : w < 16) (n : Nat) : NV (rF f (n * 16 + w)) (Rv f w n) ∧ RootN (oV f w (kb n 0) (kb n 1) (kb n 2) (kb n 3)) (Rv f w n) ∧ Rv f w n ≤ 16777216 * ve + 8 * ve := by
  have e : rF f (n * 16 + w) = rt (ov f (kb n 0) (kb n 1) (kb n 2) (kb n 3) w) := by
    unfold rF oN
    rw [show (n * 16 + w) / 16 = n by omega, show (n * 16 + w) % 16 = w by omega]
  obtain ⟨o1, o2⟩ := ov_NV h hw (kb n 0) (kb n 1) (kb n 2) (kb n 3)
  obtain ⟨R, r1, r2⟩ := rt_rel o1 o2
  have r1' : NV (rF f (n * 16 + w)) R := by rw [e]; exact r1
  have : Rv f w n = R := vN_eq r1'
  rw [this]
  exact ⟨r1', r2, root_top r2 o2⟩
theorem kb_num (a b c d : Bool) : kb (num a b c d) 0 = a ∧ kb (num a b c d) 1 = b ∧ kb (num a b c d) 2 = c ∧ kb (num a b c d) 3 = d := by
  cases a <;> cases b <;> cases c <;> cases d <;> decide
theorem Rv_more {f : Nat → Option Nat} (h : ∀ i, i < 80 → LE 1 (f i)) {w : Nat} (hw : w < 16) {a b c d a' b' c' d' : Bool} (ho : oV f w a b c d ≤ oV f w a' b' c' d') : Rv f w (num a b c d) ≤ Rv f w (num a' b' c' d') + 32 * ve := by
  obtain ⟨_, r1, _⟩ := Rv_NV h hw (num a b c d)
  obtain ⟨_, r2, r3⟩ := Rv_NV h hw (num a' b' c' d')
  obtain ⟨e0, e1, e2, e3⟩ := kb_num a b c d
  obtain ⟨g0, g1, g2, g3⟩ := kb_num a' b' c' d'
  rw [e0, e1, e2, e3] at r1
  rw [g0, g1, g2, g3] at r2
  exact root_mono r1 r2 ho (by omega)
/-- a cover of four grown shares, in parts of 2 ^ 14 -/
structure Grown (G : Nat → Option Nat) (γ : Nat → Nat) : Prop where
  v : ∀ i, i < 4 → NV (G i) (γ i * 2 ^ 1060)
  le : ∀ i, i < 4 → γ i ≤ 16384
theorem one_g : NV (some 1065353216) (16384 * 2 ^ 1060) := by
  have := NV_one
  rw [Nat.one_mul, pw 1074 14 1060] at this
  exact this
theorem ar_g {G : Nat → Option Nat} {γ : Nat → Nat} (h : Grown G γ) (n : Nat) {i : Nat} (hi : i < 4) : NV (ar (kb n i) (G i)) (xi γ n i * 2 ^ 1060) ∧ xi γ n i ≤ 16384 := by
  unfold ar xi
  cases kb n i
  · exact ⟨sub_g one_g (h.v i hi) (h.le i hi) (by decide) (by decide) (by decide), Nat.sub_le _ _⟩
  · exact ⟨h.v i hi, h.le i hi⟩
theorem areas_e {G : Nat → Option Nat} {γ : Nat → Nat} (h : Grown G γ) (n : Nat) : NV (area G n) (vN (area G n)) ∧ nw 6 (vN (area G n)) (al γ n * 2 ^ 1018) := by
  obtain ⟨a0, l0⟩ := ar_g h n (i := 0) (by omega)
  obtain ⟨a1, l1⟩ := ar_g h n (i := 1) (by omega)
  obtain ⟨a2, l2⟩ := ar_g h n (i := 2) (by omega)
  obtain ⟨a3, l3⟩ := ar_g h n (i := 3) (by omega)
  obtain ⟨A, h1, h2⟩ := area_e a0 a1 a2 a3 l0 l1 l2 l3
  have h1 : NV (area G n) A := h1
  rw [vN_eq h1]
  exact ⟨h1, h2⟩
noncomputable def E4 (f : Nat → Option Nat) (γ : Nat → Nat) (w : Nat) : Nat := L4 γ fun a b c d => Rv f w (num a b c d)
theorem print_s {f G : Nat → Option Nat} {γ : Nat → Nat} (h : ∀ i, i < 80 → LE 1 (f i)) (hG : Grown G γ) {w : Nat} (hw : w < 16) : ∃ S, NV (sm (area G) (rF f) w 15) S ∧ nS 320 S (E4 f γ w) := by
  obtain ⟨S, h1, h2⟩ := sum_e (a := area G) (r := rF f) (A := fun n => vN (area G n)) (R := Rv f w) (w := γ) (x := w) hG.le (fun n _ => areas_e hG n) (fun n _ => ⟨(Rv_NV h hw n).1, by have := (Rv_NV h hw n).2.2; omega⟩) 15 (by omega)
  rw [esum_L4] at h2
  exact ⟨S, h1, h2⟩
theorem E4_top {f : Nat → Option Nat} {γ : Nat → Nat} (h : ∀ i, i < 80 → LE 1 (f i)) (hl : ∀ i, i < 4 → γ i ≤ 16384) {w : Nat} (hw : w < 16) : E4 f γ w ≤ 72057594037927936 * (16777224 * ve) := by
  have := L4_mono hl (R := fun a b c d => Rv f w (num a b c d)) (Q := fun _ _ _ _ => 0) (k := 16777224 * ve) fun a b c d => by
    have := (Rv_NV h hw (num a b c d)).2.2
    omega
  rw [L4_const hl, Nat.mul_zero, Nat.zero_add, c56_eq] at this
  exact this
theorem E4_more {f : Nat → Option Nat} {γ δ : Nat → Nat} (h : ∀ i, i < 80 → LE 1 (f i)) (hl : ∀ i, i < 4 → γ i ≤ 16384) (hd : ∀ i, i < 4 → δ i ≤ 16384) {i : Nat} (hi : i < 4) (ho : ∀ j, j ≠ i → δ j = γ j) (hm : γ i ≤ δ i) {w : Nat} (hw : w < 16) : E4 f δ w ≤ E4 f γ w + 72057594037927936 * (32 * ve) := by
  have := L4_more hl hd hi ho hm (R := fun a b c d => Rv f w (num a b c d)) (k := 32 * ve) fun a b c d => by
    obtain ⟨o0, o1, o2, o3⟩ := oV_more h hw a b c d
    exact ⟨fun _ => Rv_more h hw o0, fun _ => Rv_more h hw o1, fun _ => Rv_more h hw o2, fun _ => Rv_more h hw o3⟩
  rw [c56_eq] at this
  exact this
end Go.Sx.Pr
set_option linter.unusedVariables false
set_option linter.unusedSimpArgs false
set_option exponentiation.threshold 3000
set_option maxRecDepth 100000
namespace Go.Sx.Pr
open Go Go.Sx Go.Sx.Fl Go.Sx.C5 Go.Sx.Ink Ieee

theorem sq_top {S Z v : Nat} (hv : 0 < v) (hS : S ≤ 16777544 * v) (hZ : S * S = Z * (16777216 * v)) : Z ≤ 16777873 * v := by
  have h1 := Nat.mul_self_le_mul_self hS
  have e : 16777544 * v * (16777544 * v) ≤ 16777873 * v * (16777216 * v) := by
    rw [Nat.mul_mul_mul_comm, Nat.mul_mul_mul_comm 16777873 v]
    exact Nat.mul_le_mul_right _ (by decide)
  rw [hZ] at h1
  exact Nat.le_of_mul_le_mul_right (Nat.le_trans h1 e) (Nat.mul_pos (by decide) hv)
theorem sq_cmp {S T Z Y v : Nat} (hv : 0 < v) (h : S ≤ T + 672 * v) (hT : T ≤ 16777544 * v) (hZ : S * S = Z * (16777216 * v)) (hY : T * T = Y * (16777216 * v)) : Z ≤ Y + 1345 * v := by
  have h1 := Nat.mul_self_le_mul_self h
  have e : (T + 672 * v) * (T + 672 * v) = T * T + T * (1344 * v) + 672 * v * (672 * v) := by
    rw [Nat.mul_add, Nat.add_mul, Nat.add_mul, Nat.mul_comm (672 * v) T, show 1344 * v = 672 * v + 672 * v by omega, Nat.mul_add]
    omega
  have h2 : T * (1344 * v) ≤ 16777544 * v * (1344 * v) := Nat.mul_le_mul_right _ hT
  have h3 : 16777544 * v * (1344 * v) + 672 * v * (672 * v) ≤ 1345 * v * (16777216 * v) := by
    rw [Nat.mul_mul_mul_comm, Nat.mul_mul_mul_comm 672 v, Nat.mul_mul_mul_comm 1345 v, ← Nat.add_mul]
    exact Nat.mul_le_mul_right _ (by decide)
  rw [hZ, e, hY] at h1
  have h4 : Z * (16777216 * v) ≤ (Y + 1345 * v) * (16777216 * v) := by
    rw [Nat.add_mul Y]
    generalize Z * (16777216 * v) = a at *
    generalize Y * (16777216 * v) = b at *
    generalize T * (1344 * v) = c at *
    generalize 672 * v * (672 * v) = d at *
    generalize 16777544 * v * (1344 * v) = x at *
    generalize 1345 * v * (16777216 * v) = y at *
    omega
  exact Nat.le_of_mul_le_mul_right h4 (Nat.mul_pos (by decide) hv)
/-- what is printed, and the sum that it is the square of -/
theorem print_o {f G : Nat → Option Nat} {γ : Nat → Nat} (h : ∀ i, i < 80 → LE 1 (f i)) (hG : Grown G γ) {w : Nat} (hw : w < 16) :
    ∃ S Z o, NV (mu (sm (area G) (rF f) w 15) (sm (area G) (rF f) w 15)) o ∧ nw 4 o Z ∧ S * S = Z * (16777216 * ve) ∧ nS 320 S (E4 f γ w) ∧ S ≤ 16777544 * ve := by
  have hv := ve_pos
  obtain ⟨S, s1, s2⟩ := print_s h hG hw
  have ht := E4_top h hG.le hw
  have hS : S ≤ 16777544 * ve := by
    have := s2.1
    omega
  obtain ⟨Z, z, f1, _⟩ := mul_e s1 s1
  rw [U_ve] at z
  have hZ := sq_top hv hS z
  obtain ⟨n, r⟩ := f1 (by omega)
  exact ⟨S, Z, _, n, r, z, s2, hS⟩
theorem tk1 : NV (some 1065354055) (2 ^ 1074 + 13743895 * 2 ^ 1037) ∨ True := .inr trivial
theorem pr_eq (f c : Nat → Option Nat) (w : Nat) : pr f c (rF f) w = mu (sm (area (C5.gr (f 80) c)) (rF f) w 15) (sm (area (C5.gr (f 80) c)) (rF f) w 15) := rfl
theorem print_top {f G : Nat → Option Nat} {γ : Nat → Nat} (h : ∀ i, i < 80 → LE 1 (f i)) (hG : Grown G γ) {w : Nat} (hw : w < 16) : ∃ o, NV (mu (sm (area G) (rF f) w 15) (sm (area G) (rF f) w 15)) o ∧ o ≤ 16777216 * ve + 700 * ve := by
  have hv := ve_pos
  obtain ⟨S, Z, o, h1, h2, h3, h4, h5⟩ := print_o h hG hw
  have hZ := sq_top hv h5 h3
  exact ⟨o, h1, by have := h2.1; omega⟩
theorem print_more {f G G' : Nat → Option Nat} {γ δ : Nat → Nat} (h : ∀ i, i < 80 → LE 1 (f i)) (hG : Grown G γ) (hG' : Grown G' δ) {i : Nat} (hi : i < 4) (ho : ∀ j, j ≠ i → δ j = γ j) (hm : γ i ≤ δ i) {w : Nat} (hw : w < 16) :
    ∃ o o', NV (mu (sm (area G) (rF f) w 15) (sm (area G) (rF f) w 15)) o ∧ NV (mu (sm (area G') (rF f) w 15) (sm (area G') (rF f) w 15)) o' ∧ o' ≤ o + 1353 * ve ∧ o ≤ 16777216 * ve + 700 * ve ∧ o' ≤ 16777216 * ve + 700 * ve := by
  have hv := ve_pos
  obtain ⟨S, Z, o, h1, h2, h3, h4, h5⟩ := print_o h hG hw
  obtain ⟨S', Z', o', h1', h2', h3', h4', h5'⟩ := print_o h hG' hw
  have hm := E4_more h hG.le hG'.le hi ho hm hw
  have hs : S' ≤ S + 672 * ve := by
    have a := h4'.1
    have b := h4.2
    omega
  have hz := sq_cmp hv hs h5 h3' h3
  have hZ := sq_top hv h5 h3
  have hZ' := sq_top hv h5' h3'
  refine ⟨o, o', h1, h1', ?_, ?_, ?_⟩
  · have a := h2.2; have b := h2'.1; omega
  · have a := h2.1; omega
  · have a := h2'.1; omega
-- whole inks
theorem E4_full {f : Nat → Option Nat} {γ : Nat → Nat} {a b c d : Bool} (h0 : γ 0 = bif a then 16384 else 0) (h1 : γ 1 = bif b then 16384 else 0) (h2 : γ 2 = bif c then 16384 else 0) (h3 : γ 3 = bif d then 16384 else 0) (w : Nat) : E4 f γ w = 72057594037927936 * Rv f w (num a b c d) := by
  unfold E4 L4 L
  rw [h0, h1, h2, h3]
  cases a <;> cases b <;> cases c <;> cases d <;> simp <;> omega
theorem sq_full {S R Z A v : Nat} (hv : 0 < v) (h1 : S ≤ R + 320 * v) (h2 : R ≤ S + 320 * v) (hR : R ≤ 16777224 * v) (hS : S ≤ 16777544 * v) (hZ : S * S = Z * (16777216 * v)) (hA : A ≤ 16777216 * v)
    (n1 : R * R * 1048576 ≤ A * (16777216 * v) * 1048577) (n2 : A * (16777216 * v) * 1048576 ≤ R * R * 1048577) : Z ≤ A + 700 * v ∧ A ≤ Z + 700 * v := by
  have hU : 0 < 16777216 * v := Nat.mul_pos (by decide) hv
  have s1 : S * S ≤ R * R + 641 * v * (16777216 * v) := by
    have h := Nat.mul_self_le_mul_self h1
    have e : (R + 320 * v) * (R + 320 * v) = R * R + R * (640 * v) + 320 * v * (320 * v) := by
      rw [Nat.mul_add, Nat.add_mul, Nat.add_mul, Nat.mul_comm (320 * v) R, show 640 * v = 320 * v + 320 * v by omega, Nat.mul_add]
      omega
    have g2 : R * (640 * v) ≤ 16777224 * v * (640 * v) := Nat.mul_le_mul_right _ hR
    have g3 : 16777224 * v * (640 * v) + 320 * v * (320 * v) ≤ 641 * v * (16777216 * v) := by
      rw [Nat.mul_mul_mul_comm, Nat.mul_mul_mul_comm 320 v, Nat.mul_mul_mul_comm 641 v, ← Nat.add_mul]
      exact Nat.mul_le_mul_right _ (by decide)
    rw [e] at h
    generalize S * S = x at *
    generalize R * R = y at *
    generalize R * (640 * v) = c at *
    generalize 320 * v * (320 * v) = d at *
    generalize 16777224 * v * (640 * v) = z at *
    generalize 641 * v * (16777216 * v) = u at *
    omega
  have s2 : R * R ≤ S * S + 641 * v * (16777216 * v) := by
    have h := Nat.mul_self_le_mul_self h2
    have e : (S + 320 * v) * (S + 320 * v) = S * S + S * (640 * v) + 320 * v * (320 * v) := by
      rw [Nat.mul_add, Nat.add_mul, Nat.add_mul, Nat.mul_comm (320 * v) S, show 640 * v = 320 * v + 320 * v by omega, Nat.mul_add]
      omega
    have g2 : S * (640 * v) ≤ 16777544 * v * (640 * v) := Nat.mul_le_mul_right _ hS
    have g3 : 16777544 * v * (640 * v) + 320 * v * (320 * v) ≤ 641 * v * (16777216 * v) := by
      rw [Nat.mul_mul_mul_comm, Nat.mul_mul_mul_comm 320 v, Nat.mul_mul_mul_comm 641 v, ← Nat.add_mul]
      exact Nat.mul_le_mul_right _ (by decide)
    rw [e] at h
    generalize S * S = x at *
    generalize R * R = y at *
    generalize S * (640 * v) = c at *
    generalize 320 * v * (320 * v) = d at *
    generalize 16777544 * v * (640 * v) = z at *
    generalize 641 * v * (16777216 * v) = u at *
    omega
  -- the square of the root
  have r1 : R * R ≤ (A + 16 * v) * (16777216 * v) := by
    refine Nat.le_of_mul_le_mul_right (c := 1048576) ?_ (by decide)
    refine Nat.le_trans n1 ?_
    rw [Nat.mul_right_comm, Nat.mul_right_comm _ _ 1048576]
    refine Nat.mul_le_mul_right _ ?_
    rw [Nat.mul_comm A, Nat.mul_comm _ 1048576]
    omega
  have r2 : A * (16777216 * v) ≤ R * R + 17 * v * (16777216 * v) := by
    have k : R * R ≤ (16777233 * v) * (16777216 * v) := by
      refine Nat.le_trans r1 (Nat.mul_le_mul_right _ (by omega))
    refine Nat.le_of_mul_le_mul_right (c := 1048576) ?_ (by decide)
    refine Nat.le_trans n2 ?_
    have e : R * R * 1048577 = R * R * 1048576 + R * R := by rw [← Nat.mul_succ]
    rw [e, Nat.add_mul (R * R)]
    refine Nat.add_le_add_left (Nat.le_trans k ?_) _
    rw [Nat.mul_right_comm _ (16777216 * v) 1048576]
    refine Nat.mul_le_mul_right _ ?_
    rw [Nat.mul_comm _ 1048576]
    omega
  rw [hZ] at s1 s2
  constructor
  · refine Nat.le_of_mul_le_mul_right (c := 16777216 * v) ?_ hU
    refine Nat.le_trans s1 (Nat.le_trans (Nat.add_le_add_right r1 _) ?_)
    rw [← Nat.add_mul]
    exact Nat.mul_le_mul_right _ (by omega)
  · refine Nat.le_of_mul_le_mul_right (c := 16777216 * v) ?_ hU
    refine Nat.le_trans r2 (Nat.le_trans (Nat.add_le_add_right s2 _) ?_)
    rw [← Nat.add_mul, ← Nat.add_mul]
    exact Nat.mul_le_mul_right _ (by omega)
theorem print_full {f G : Nat → Option Nat} {γ : Nat → Nat} (h : ∀ i, i < 80 → LE 1 (f i)) (hG : Grown G γ) {a b c d : Bool} (h0 : γ 0 = bif a then 16384 else 0) (h1 : γ 1 = bif b then 16384 else 0) (h2 : γ 2 = bif c then 16384 else 0) (h3 : γ 3 = bif d then 16384 else 0) {w : Nat} (hw : w < 16) :
    ∃ o, NV (mu (sm (area G) (rF f) w 15) (sm (area G) (rF f) w 15)) o ∧ nw 1600 o (oV f w a b c d) := by
  have hv := ve_pos
  obtain ⟨S, Z, o, k1, k2, k3, k4, k5⟩ := print_o h hG hw
  rw [E4_full h0 h1 h2 h3] at k4
  obtain ⟨_, r2, r3⟩ := Rv_NV h hw (num a b c d)
  obtain ⟨e0, e1, e2, e3⟩ := kb_num a b c d
  rw [e0, e1, e2, e3] at r2
  obtain ⟨_, o2⟩ := ov_NV h hw a b c d
  unfold RootN at r2
  rw [U_ve] at r2 o2
  have hx := sq_full hv (S := S) (R := Rv f w (num a b c d)) (Z := Z) (A := oV f w a b c d) (by have := k4.1; omega) (by have := k4.2; omega) (by omega) k5 k3 o2 r2.1 r2.2
  refine ⟨o, k1, ?_⟩
  unfold nw at *
  omega
end Go.Sx.Pr
