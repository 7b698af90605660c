/- How exact rounding is, and roots of shares. -/
import Derived.Test.YtpnjimpiphbcfaaSxFq
set_option linter.unusedVariables false
set_option linter.unusedSimpArgs false
set_option exponentiation.threshold 3000
set_option maxRecDepth 100000
namespace Go.Sx.Fl
open Ieee

/-- rounding of what is not too small moves by a part in 2 ^ p at most -/
theorem valR_at {p M e t : Nat} (he : M ≤ e) (ht : t < 2 ^ p) : valR p M ((e - M + 1) * 2 ^ p + t) = (2 ^ p + t) * 2 ^ e := by
  have hp : 0 < 2 ^ p := Nat.two_pow_pos p
  unfold valR
  have h1 : ¬ (e - M + 1) * 2 ^ p + t < 2 ^ p := by
    have : 1 * 2 ^ p ≤ (e - M + 1) * 2 ^ p := Nat.mul_le_mul_right _ (by omega)
    omega
  rw [if_neg h1]
  have h2 : ((e - M + 1) * 2 ^ p + t) / 2 ^ p = e - M + 1 := by
    rw [Nat.add_comm, Nat.add_mul_div_right _ _ hp, Nat.div_eq_of_lt ht]; omega
  have h3 : ((e - M + 1) * 2 ^ p + t) % 2 ^ p = t := by
    rw [Nat.add_comm, Nat.add_mul_mod_self_right, Nat.mod_eq_of_lt ht]
  rw [h2, h3, show M + (e - M + 1 - 1) = e by omega]
theorem valR_next {p M e t : Nat} (he : M ≤ e) (ht : t < 2 ^ p) : valR p M ((e - M + 1) * 2 ^ p + t + 1) = (2 ^ p + t + 1) * 2 ^ e := by
  have hp : 0 < 2 ^ p := Nat.two_pow_pos p
  by_cases h : t + 1 < 2 ^ p
  · have := valR_at (p := p) (M := M) (e := e) (t := t + 1) he h
    rw [Nat.add_assoc, this, Nat.add_assoc]
  · have h1 : t + 1 = 2 ^ p := by omega
    have := valR_at (p := p) (M := M) (e := e + 1) (t := 0) (by omega) hp
    rw [show (e + 1 - M + 1) * 2 ^ p + 0 = (e - M + 1) * 2 ^ p + t + 1 by rw [show e + 1 - M + 1 = (e - M + 1) + 1 by omega, Nat.add_mul _ 1]; omega] at this
    rw [this, Nat.add_assoc, h1, Nat.add_zero, Nat.pow_succ, Nat.mul_comm (2 ^ e) 2, ← Nat.mul_assoc]
    congr 1
    omega
theorem gR_rel {p M I X : Nat} (h0 : X ≠ 0) (hM : M + p ≤ X.log2) (hI : (X.log2 - p - M + 1) * 2 ^ p + 2 ^ p ≤ I) :
    2 ^ p * valR p M (gR p M I X) ≤ (2 ^ p + 1) * X ∧ 2 ^ p * X ≤ 2 ^ p * valR p M (gR p M I X) + X := by
  have hp : 0 < 2 ^ p := Nat.two_pow_pos p
  have hl : 2 ^ X.log2 ≤ X := (Nat.le_log2 h0).1 (Nat.le_refl _)
  have hu : X < 2 ^ (X.log2 + 1) := Nat.lt_log2_self
  generalize hL : X.log2 = L at *
  obtain ⟨e, rfl⟩ : ∃ e, L = e + p := ⟨L - p, by omega⟩
  have he : M ≤ e := by omega
  rw [show e + p - p - M + 1 = e - M + 1 by omega] at hI
  have hE : 0 < 2 ^ e := Nat.two_pow_pos e
  have hd := Nat.div_add_mod X (2 ^ e)
  have hm := Nat.mod_lt X hE
  have q1 : 2 ^ p ≤ X / 2 ^ e := by
    rw [Nat.le_div_iff_mul_le hE, ← Nat.pow_add, Nat.add_comm p e]; exact hl
  have q2 : X / 2 ^ e < 2 ^ p * 2 := by
    rw [Nat.div_lt_iff_lt_mul hE, Nat.mul_assoc, Nat.mul_comm 2, ← Nat.pow_succ, ← Nat.pow_add, show p + (e + 1) = e + p + 1 by omega]
    exact hu
  obtain ⟨t, ht⟩ : ∃ t, X / 2 ^ e = 2 ^ p + t := ⟨X / 2 ^ e - 2 ^ p, by omega⟩
  rw [ht] at hd q2
  have ht2 : t < 2 ^ p := by omega
  have v0 := valR_at (p := p) (M := M) he ht2
  have v1 := valR_next (p := p) (M := M) he ht2
  have g0 : (e - M + 1) * 2 ^ p + t ≤ gR p M I X := by
    rw [← gR_val (p := p) (M := M) (I := I) (r := (e - M + 1) * 2 ^ p + t) (by omega), v0]
    refine gR_mono ?_
    rw [Nat.mul_comm]; omega
  have g1 : gR p M I X ≤ (e - M + 1) * 2 ^ p + t + 1 := by
    rw [← gR_val (p := p) (M := M) (I := I) (r := (e - M + 1) * 2 ^ p + t + 1) (by omega), v1]
    refine gR_mono ?_
    rw [Nat.add_mul _ 1, Nat.one_mul, Nat.mul_comm (2 ^ p + t)]; omega
  have w0 := valR_mono (p := p) (M := M) g0
  have w1 := valR_mono (p := p) (M := M) g1
  rw [v0] at w0
  rw [v1] at w1
  -- the step is a part in 2 ^ p
  have hs : 2 ^ p * 2 ^ e ≤ X := by rw [← Nat.pow_add, Nat.add_comm p e]; exact hl
  have e1 : 2 ^ p * valR p M (gR p M I X) ≤ 2 ^ p * ((2 ^ p + t + 1) * 2 ^ e) := Nat.mul_le_mul_left _ w1
  have e2 : 2 ^ p * ((2 ^ p + t) * 2 ^ e) ≤ 2 ^ p * valR p M (gR p M I X) := Nat.mul_le_mul_left _ w0
  have e3 : 2 ^ p * X = 2 ^ p * ((2 ^ p + t) * 2 ^ e) + 2 ^ p * (X % 2 ^ e) := by
    rw [← Nat.mul_add]; congr 1; rw [Nat.mul_comm (2 ^ p + t)]; omega
  have e4 : 2 ^ p * ((2 ^ p + t + 1) * 2 ^ e) = 2 ^ p * ((2 ^ p + t) * 2 ^ e) + 2 ^ p * 2 ^ e := by
    rw [Nat.add_mul _ 1, Nat.mul_add, Nat.one_mul]
  have e5 : 2 ^ p * (X % 2 ^ e) ≤ 2 ^ p * 2 ^ e := Nat.mul_le_mul_left _ (Nat.le_of_lt hm)
  have e6 : (2 ^ p + 1) * X = 2 ^ p * X + X := by rw [Nat.add_mul, Nat.one_mul]
  rw [e6]
  generalize 2 ^ p * valR p M (gR p M I X) = A at *
  generalize 2 ^ p * ((2 ^ p + t) * 2 ^ e) = B at *
  generalize 2 ^ p * ((2 ^ p + t + 1) * 2 ^ e) = C at *
  generalize 2 ^ p * (X % 2 ^ e) = D at *
  generalize 2 ^ p * 2 ^ e = E at *
  generalize 2 ^ p * X = F at *
  omega
theorem log2_of {X a b : Nat} (h1 : 2 ^ a ≤ X) (h2 : X < 2 ^ b) : a ≤ X.log2 ∧ X.log2 < b := by
  have h0 : X ≠ 0 := by have := Nat.two_pow_pos a; omega
  exact ⟨(Nat.le_log2 h0).2 h1, (Nat.log2_lt h0).2 h2⟩
theorem rd_rel {X : Nat} (h1 : 2 ^ 948 ≤ X) (h2 : X < 2 ^ 1100) : 8388608 * rd X ≤ 8388609 * X ∧ 8388608 * X ≤ 8388608 * rd X + X := by
  obtain ⟨l1, l2⟩ := log2_of h1 h2
  have h0 : X ≠ 0 := by have := Nat.two_pow_pos 948; omega
  refine gR_rel (p := 23) (M := 925) (I := single.infRung) h0 (by omega) ?_
  rw [infRung32]
  have : X.log2 - 23 - 925 + 1 ≤ 152 := by omega
  have := Nat.mul_le_mul_right (2 ^ 23) this
  refine Nat.le_trans (Nat.add_le_add_right this _) (by decide)
theorem rd64_rel {X : Nat} (h1 : 2 ^ 52 ≤ X) (h2 : X < 2 ^ 1100) : 4503599627370496 * rd64 X ≤ 4503599627370497 * X ∧ 4503599627370496 * X ≤ 4503599627370496 * rd64 X + X := by
  obtain ⟨l1, l2⟩ := log2_of h1 h2
  have h0 : X ≠ 0 := by have := Nat.two_pow_pos 52; omega
  refine gR_rel (p := 52) (M := 0) (I := double.infRung) h0 (by omega) ?_
  rw [inf64v]
  have : X.log2 - 52 - 0 + 1 ≤ 1048 := by omega
  have := Nat.mul_le_mul_right (2 ^ 52) this
  refine Nat.le_trans (Nat.add_le_add_right this _) (by decide)
/-- the whole root is the greatest -/
theorem rootFrom_lt (n : Nat) : ∀ (todo root : Nat), n < (root + 2 ^ todo) * (root + 2 ^ todo) → n < (Datum.rootFrom n todo root + 1) * (Datum.rootFrom n todo root + 1)
  | 0, root, h => h
  | todo + 1, root, h => by
    unfold Datum.rootFrom
    simp only
    have e : (1 : Nat) <<< todo = 2 ^ todo := by rw [Nat.shiftLeft_eq, Nat.one_mul]
    rw [e]
    split
    · rename_i h1
      refine rootFrom_lt n todo _ ?_
      rw [Nat.add_assoc, ← Nat.two_mul, Nat.mul_comm 2, ← Nat.pow_succ]
      exact h
    · rename_i h1
      exact rootFrom_lt n todo _ (by omega)
theorem isqrt_lt {n : Nat} (h : 0 < n) : n < (Datum.rootFrom n (n.log2 / 2 + 1) 0 + 1) * (Datum.rootFrom n (n.log2 / 2 + 1) 0 + 1) := by
  refine rootFrom_lt n _ _ ?_
  rw [Nat.zero_add, ← Nat.pow_add]
  refine Nat.lt_of_lt_of_le Nat.lt_log2_self (Nat.pow_le_pow_right (by omega) (by omega))
theorem lin1 {R Z X W E : Nat} (a1 : 8388608 * R ≤ 8388609 * Z) (b1 : 4503599627370496 * Z ≤ 4503599627370497 * X) (c2 : X ≤ 2 * W + E) (c3 : 18014398509481984 * E ≤ W) : R * 4194304 ≤ 2 * W * 4194305 := by omega
theorem lin2 {R Z X W E : Nat} (a2 : 8388608 * Z ≤ 8388608 * R + Z) (b2 : 4503599627370496 * X ≤ 4503599627370496 * Z + X) (c1 : 2 * W ≤ X) (c3 : 18014398509481984 * E ≤ W) : 2 * (W + E) * 4194304 ≤ R * 4194305 := by omega
theorem sq_u {r v Q : Nat} (h1 : r * 17592186044416 ≤ v * 70368777732100) (hq : v ≤ Q) : r * 1048576 ≤ 4 * Q * 1048577 := by
  have h2 : v * 70368777732100 ≤ Q * 70368777732100 := Nat.mul_le_mul_right _ hq
  have h3 : Q * 70368777732100 ≤ Q * 70368811286528 := Nat.mul_le_mul_left _ (by decide)
  have h4 : (r * 1048576) * 16777216 ≤ (4 * Q * 1048577) * 16777216 := by
    rw [Nat.mul_comm 4 Q, Nat.mul_assoc, Nat.mul_assoc, Nat.mul_assoc]
    exact Nat.le_trans h1 (Nat.le_trans h2 h3)
  exact Nat.le_of_mul_le_mul_right h4 (by decide)
theorem sq_d {r v Q : Nat} (h1 : v * 70368744177664 ≤ r * 17592194433025) (hq : Q ≤ v) : 4 * Q * 1048576 ≤ r * 1048577 := by
  have h2 : Q * 70368744177664 ≤ v * 70368744177664 := Nat.mul_le_mul_right _ hq
  have h3 : r * 17592194433025 ≤ r * 17592202821632 := Nat.mul_le_mul_left _ (by decide)
  have h4 : (4 * Q * 1048576) * 16777216 ≤ (r * 1048577) * 16777216 := by
    rw [Nat.mul_comm 4 Q, Nat.mul_assoc, Nat.mul_assoc, Nat.mul_assoc]
    exact Nat.le_trans h2 (Nat.le_trans h1 h3)
  exact Nat.le_of_mul_le_mul_right h4 (by decide)
theorem sq_up {R W Q : Nat} (h : R * 4194304 ≤ 2 * W * 4194305) (hq : W * W ≤ Q) : R * R * 1048576 ≤ 4 * Q * 1048577 := by
  have h1 := Nat.mul_self_le_mul_self h
  have e1 : R * 4194304 * (R * 4194304) = R * R * 17592186044416 := by
    rw [Nat.mul_mul_mul_comm]
  have e2 : 2 * W * 4194305 * (2 * W * 4194305) = W * W * 70368777732100 := by
    rw [Nat.mul_mul_mul_comm, Nat.mul_mul_mul_comm 2 W 2 W, Nat.mul_comm (2 * 2) (W * W), Nat.mul_assoc]
  rw [e1, e2] at h1
  exact sq_u h1 hq
theorem sq_dn {R V Q : Nat} (h : 2 * V * 4194304 ≤ R * 4194305) (hq : Q ≤ V * V) : 4 * Q * 1048576 ≤ R * R * 1048577 := by
  have h1 := Nat.mul_self_le_mul_self h
  have e1 : R * 4194305 * (R * 4194305) = R * R * 17592194433025 := by
    rw [Nat.mul_mul_mul_comm]
  have e2 : 2 * V * 4194304 * (2 * V * 4194304) = V * V * 70368744177664 := by
    rw [Nat.mul_mul_mul_comm, Nat.mul_mul_mul_comm 2 V 2 V, Nat.mul_comm (2 * 2) (V * V), Nat.mul_assoc]
  rw [e1, e2] at h1
  exact sq_d h1 hq
/-- near roots: `R` of `A`, in units of 2 ^ -1074 -/
def RootN (A R : Nat) : Prop := R * R * 1048576 ≤ A * 2 ^ 1074 * 1048577 ∧ A * 2 ^ 1074 * 1048576 ≤ R * R * 1048577
theorem root_num {n w st d A : Nat} (hw : w * w ≤ n) (hw2 : n < (w + 1) * (w + 1)) (hst : st ≤ 1) (hn : 2 ^ 108 ≤ n) (hd : n * 2 ^ (2 * d) = A * 2 ^ 1072) (h0 : 2 ^ 925 ≤ A) (h1 : A ≤ 2 ^ 1074) :
    RootN A (rd (rd64 ((2 * w + st) * 2 ^ d))) := by
  have hb := root_bound hw hst (Nat.lt_of_lt_of_le (Nat.two_pow_pos _) hn) d (by
    rw [hd]
    refine Nat.le_trans (Nat.mul_le_mul_right _ h1) ?_
    rw [← Nat.pow_add]
    exact Nat.le_refl _)
  have hE : 0 < 2 ^ d := Nat.two_pow_pos d
  have hw54 : 18014398509481984 ≤ w := by
    rcases Nat.lt_or_ge w 18014398509481984 with h | h
    · have h2 := Nat.mul_self_le_mul_self (show w + 1 ≤ 18014398509481984 by omega)
      have h3 : (18014398509481984 : Nat) * 18014398509481984 = 2 ^ 108 := by decide
      omega
    · exact h
  -- the numbers in units
  have eW : (w * 2 ^ d) * (w * 2 ^ d) = w * w * 2 ^ (2 * d) := by rw [Nat.mul_mul_mul_comm, Nat.two_mul, Nat.pow_add]
  have eV : (w * 2 ^ d + 2 ^ d) * (w * 2 ^ d + 2 ^ d) = (w + 1) * (w + 1) * 2 ^ (2 * d) := by
    have : w * 2 ^ d + 2 ^ d = (w + 1) * 2 ^ d := by rw [Nat.add_mul, Nat.one_mul]
    rw [this, Nat.mul_mul_mul_comm, Nat.two_mul, Nat.pow_add]
  have hQ1 : (w * 2 ^ d) * (w * 2 ^ d) ≤ A * 2 ^ 1072 := by rw [eW, ← hd]; exact Nat.mul_le_mul_right _ hw
  have hQ2 : A * 2 ^ 1072 ≤ (w * 2 ^ d + 2 ^ d) * (w * 2 ^ d + 2 ^ d) := by rw [eV, ← hd]; exact Nat.mul_le_mul_right _ (Nat.le_of_lt hw2)
  have hc3 : 18014398509481984 * 2 ^ d ≤ w * 2 ^ d := Nat.mul_le_mul_right _ hw54
  have hX : (2 * w + st) * 2 ^ d = 2 * (w * 2 ^ d) + st * 2 ^ d := by rw [Nat.add_mul, Nat.mul_assoc]
  have hs : st * 2 ^ d ≤ 1 * 2 ^ d := Nat.mul_le_mul_right _ hst
  have hA : A * 2 ^ 1074 = 4 * (A * 2 ^ 1072) := by
    rw [show (1074 : Nat) = 1072 + 2 from rfl, Nat.pow_add, ← Nat.mul_assoc, Nat.mul_comm]
  have hlow : 2 ^ 1997 ≤ A * 2 ^ 1072 := by
    have := Nat.mul_le_mul_right (2 ^ 1072) h0
    rw [← Nat.pow_add] at this
    exact this
  have hX1 : 2 ^ 998 ≤ 2 * (w * 2 ^ d) := by
    rcases Nat.lt_or_ge (2 * (w * 2 ^ d)) (2 ^ 998) with h | h
    · have hv : w * 2 ^ d + 2 ^ d ≤ 2 * (w * 2 ^ d) := by omega
      have h2 : w * 2 ^ d + 2 ^ d ≤ 2 ^ 998 := Nat.le_trans hv (Nat.le_of_lt h)
      have h3 : 2 * (w * 2 ^ d + 2 ^ d) ≤ 2 ^ 998 + 2 * 2 ^ d := by omega
      have h4 : w * 2 ^ d + 2 ^ d < 2 ^ 998 := by omega
      have h5 : w * 2 ^ d + 2 ^ d < 2 ^ 998 := h4
      have h6 : 4 * (w * 2 ^ d + 2 ^ d) ≤ 3 * 2 ^ 998 := by omega
      have h7 := Nat.mul_self_le_mul_self h6
      rw [Nat.mul_mul_mul_comm, Nat.mul_mul_mul_comm 3, ← Nat.pow_add] at h7
      have h8 : 2 ^ (998 + 998) = 2 ^ 1996 := rfl
      have h9 : (2 : Nat) ^ 1997 = 2 * 2 ^ 1996 := by rw [Nat.pow_succ 2 1996, Nat.mul_comm]
      rw [h8] at h7
      generalize (w * 2 ^ d + 2 ^ d) * (w * 2 ^ d + 2 ^ d) = v at *
      generalize (2 : Nat) ^ 1996 = z at *
      omega
    · exact h
  generalize (2 * w + st) * 2 ^ d = X at *
  have hX2 : X < 2 ^ 1100 := by
    refine Nat.lt_of_le_of_lt hb ?_
    rw [Nat.mul_comm, ← Nat.pow_succ]
    exact Nat.pow_lt_pow_right (by omega) (by omega)
  have hX3 : 2 ^ 998 ≤ X := by omega
  obtain ⟨b1, b2⟩ := rd64_rel (X := X) (Nat.le_trans (Nat.pow_le_pow_right (by omega) (by omega)) hX3) hX2
  have hZ1 : 2 ^ 948 ≤ rd64 X := by
    have e : (2 : Nat) ^ 998 = 2 ^ 50 * 2 ^ 948 := by rw [← Nat.pow_add]
    have e2 : (2 : Nat) ^ 50 = 1125899906842624 := by decide
    rw [e, e2] at hX3
    generalize (2 : Nat) ^ 948 = z at *
    omega
  have hZ2 : rd64 X < 2 ^ 1100 := by
    refine Nat.lt_of_le_of_lt (rd64_two hb) ?_
    rw [Nat.mul_comm, ← Nat.pow_succ]
    exact Nat.pow_lt_pow_right (by omega) (by omega)
  obtain ⟨a1, a2⟩ := rd_rel hZ1 hZ2
  have l1 := lin1 a1 b1 (W := w * 2 ^ d) (E := 2 ^ d) (by omega) hc3
  have l2 := lin2 a2 b2 (W := w * 2 ^ d) (E := 2 ^ d) (by omega) hc3
  unfold RootN
  rw [hA]
  exact ⟨sq_up l1 hQ1, sq_dn l2 hQ2⟩
theorem nar_NV {z : Nat} {s : Bool} {Z : Nat} (h : FinS .f64 z s Z) (hs : s = true → Z = 0) (hZ : Z ≤ 2 * 2 ^ 1074) : NV (fnar (some z)) (rd Z) := by
  obtain ⟨m, i, h1, h2, rfl⟩ := h
  have hw := write32 s m i h2 (g_lt (k := 2) (by decide) hZ)
  rw [fnar_eq]
  refine ⟨_, s, rfl, by show FinS .f32 (FloatKind.f32.encode (FloatKind.f64.decode z)) s _; rw [h1]; exact hw, fun hs' => ?_⟩
  rw [hs hs']
  exact rd_zero
/-- the root of a share, as it is computed -/
theorem rt_rel {o : Option Nat} {A : Nat} (h : NV o A) (hA : A ≤ 2 ^ 1074) : ∃ R, NV (fnar (fsqrt (fwide o))) R ∧ RootN A R := by
  obtain ⟨x, s, rfl, ⟨m, i, h1, h2, rfl⟩, h3⟩ := h
  obtain ⟨y, hy, ⟨m', i', g1, g2, g3⟩, hi1, hi2, hm24⟩ := wide_fin h1
  rw [hy]
  rw [g3] at hA h3 ⊢
  have hs : double.read y = .number s m' i' := g1
  obtain ⟨_, hm53, _⟩ := read_num std64 g1
  have hm53 : m' < 2 ^ 53 := hm53
  have hq : fsqrt (some y) = double.sqrt y := by rw [fsqrt_eq]; rfl
  rw [hq]
  unfold Format.sqrt
  rw [hs]
  unfold Datum.root
  by_cases h0 : m' = 0
  · simp only [h0, if_true, Option.map_some]
    have hz := writeR64 s 0 i' g2 (by rw [Nat.zero_mul]; decide)
    rw [Nat.zero_mul] at hz
    have e : rd64 0 = 0 := by decide
    rw [e] at hz
    refine ⟨_, nar_NV hz (fun _ => rfl) (Nat.zero_le _), ?_⟩
    rw [rd_zero]
    unfold RootN
    simp only [Nat.zero_mul, Nat.mul_zero]
    exact ⟨Nat.le_refl _, Nat.zero_le _⟩
  · have hsf : s = false := by
      cases s
      · rfl
      · rcases Nat.mul_eq_zero.1 (h3 rfl) with h | h
        · exact absurd h h0
        · exact absurd h (Nat.pos_iff_ne_zero.1 (Nat.two_pow_pos _))
    subst hsf
    simp only [h0, if_false, Bool.false_eq_true, Option.map_some]
    have hA0 : 1 * 2 ^ 925 ≤ m' * 2 ^ (i' + 1074).toNat := by
      have hm0 : m ≠ 0 := by
        intro h; rw [h, Nat.zero_mul] at g3
        rcases Nat.mul_eq_zero.1 g3.symm with h | h
        · exact h0 h
        · exact absurd h (Nat.pos_iff_ne_zero.1 (Nat.two_pow_pos _))
      have e1 : 1 * 2 ^ 925 ≤ m * 2 ^ (i + 1074).toNat := Nat.mul_le_mul (by omega) (Nat.pow_le_pow_right (by decide) (by omega))
      rw [g3] at e1
      exact e1
    have hip : -202 ≤ i' := by
      have e1 := hA0
      rw [Nat.one_mul] at e1
      have e2 : m' * 2 ^ (i' + 1074).toNat < 2 ^ 53 * 2 ^ (i' + 1074).toNat := Nat.mul_lt_mul_of_pos_right hm53 (Nat.two_pow_pos _)
      rw [← Nat.pow_add] at e2
      have := (Nat.pow_lt_pow_iff_right (by decide : 1 < 2)).1 (Nat.lt_of_le_of_lt e1 e2)
      omega
    have hfb : double.fractionBits + 2 = 54 := rfl
    rw [hfb]
    have hlog : 2 ^ m'.log2 ≤ m' := (Nat.le_log2 h0).1 (Nat.le_refl _)
    generalize hmore : (2 * 54 - m'.log2 + ((i' - ((2 * 54 - m'.log2 : Nat) : Int)) % 2).toNat) = more
    have hmb : more ≤ 109 := by omega
    have hml : 108 ≤ m'.log2 + more := by omega
    have hev : (i' - (more : Int)) % 2 = 0 := by omega
    rw [Nat.shiftLeft_eq]
    have hn108 : 2 ^ 108 ≤ m' * 2 ^ more := by
      refine Nat.le_trans ?_ (Nat.mul_le_mul_right _ hlog)
      rw [← Nat.pow_add]
      exact Nat.pow_le_pow_right (by omega) hml
    generalize hn : m' * 2 ^ more = n at *
    have hn0 : 0 < n := Nat.lt_of_lt_of_le (Nat.two_pow_pos _) hn108
    have hw2 := isqrt_lt hn0
    generalize hwd : Datum.rootFrom n (n.log2 / 2 + 1) 0 = w at *
    have hw : w * w ≤ n := by rw [← hwd]; exact rootFrom_le n _ 0 (Nat.zero_le _)
    have hst : (w * w != n).toNat ≤ 1 := Bool.toNat_le _
    generalize (w * w != n).toNat = st at *
    have hpl : -1074 ≤ (i' - (more : Int)) / 2 - 1 := by omega
    have hd : n * 2 ^ (2 * ((i' - (more : Int)) / 2 - 1 + 1074).toNat) = m' * 2 ^ (i' + 1074).toNat * 2 ^ 1072 := by
      rw [← hn, Nat.mul_assoc, ← Nat.pow_add]
      have e1 : more + 2 * ((i' - (more : Int)) / 2 - 1 + 1074).toNat = (i' + 1074).toNat + 1072 := by omega
      rw [e1, Nat.pow_add, ← Nat.mul_assoc]
    rw [Nat.one_mul] at hA0
    have hr := root_num hw hw2 hst hn108 hd hA0 hA
    have hb := root_bound hw hst hn0 _ (by
      rw [hd]
      refine Nat.le_trans (Nat.mul_le_mul_right _ hA) ?_
      rw [← Nat.pow_add]
      exact Nat.le_refl _)
    generalize ((i' - (more : Int)) / 2 - 1 : Int) = pl at *
    have hz := writeR64 false (2 * w + st) pl hpl (Nat.lt_of_le_of_lt (g64_two hb) two64.2)
    exact ⟨_, nar_NV hz (fun h => by cases h) (rd64_two hb), hr⟩
end Go.Sx.Fl
