/- Ink of a grid: black put under; the bound. -/
import Derived.Test.YtpnjimpiphbcfaaSxI6
set_option linter.unusedVariables false
set_option linter.unusedSimpArgs false
set_option exponentiation.threshold 3000
set_option maxRecDepth 100000
namespace Go.Sx.Ink
open Go Go.Sx Go.Sx.Fl Ieee

theorem tk_NV : NV (some 953267991) (13743895 * 2 ^ 1037) := NV_val (by decide +kernel)
theorem lim_ar {L u v y X : Nat} (h2 : u = 65536 * v) (x3 : y + 13743895 * v ≤ X + u) : y + 9 * u ≤ X := by omega
theorem lim_lt {L u y w : Nat} (h3 : w = 524288 * u) (hm : y ≤ 16 * w) {v : Nat} (h2 : u = 65536 * v) (hv : 0 < v) : y + 13743895 * v < 16777216 * u := by omega
theorem lim_t {L : Nat} (hL : L ≤ 16) : ∃ X, NV (fop .add .f32 (lv L) (some 953267991)) X ∧ L * 2 ^ 1072 + 9 * 2 ^ 1053 ≤ X := by
  have h2 : (2 : Nat) ^ 1053 = 65536 * 2 ^ 1037 := by rw [show (1053 : Nat) = 16 + 1037 from rfl, Nat.pow_add]
  have h3 : (2 : Nat) ^ 1072 = 524288 * 2 ^ 1053 := by rw [show (1072 : Nat) = 19 + 1053 from rfl, Nat.pow_add]
  have hm : L * 2 ^ 1072 ≤ 16 * 2 ^ 1072 := Nat.mul_le_mul_right _ hL
  obtain ⟨X, x1, x2, x3⟩ := add_n (lv_NV hL) tk_NV (lim_lt (L := L) h3 hm h2 (Nat.two_pow_pos _))
  exact ⟨X, x1, lim_ar (L := L) h2 x3⟩
-- black put under
theorem h66 (k : Nat) : k * 2 ^ 1069 = (8 * k) * 2 ^ 1066 := by
  have h : (2 : Nat) ^ 1069 = 8 * 2 ^ 1066 := by rw [show (1069 : Nat) = 3 + 1066 from rfl, Nat.pow_add]
  rw [h, ← Nat.mul_assoc, Nat.mul_comm k 8]
noncomputable def gv (s k : Nat) : Option Nat := fop .mul .f32 (sv s) (cv k)
theorem g_NV {s k : Nat} (hs : s ≤ 8) (hk : k ≤ 32) : NV (gv s k) ((s * k) * 2 ^ 1066) := by
  obtain ⟨Z, hZ, hn⟩ := (sv_NV hs).mul (cv_NV hk)
  have hz : Z = (s * k) * 2 ^ 1066 := by
    have e : Z * 2 ^ 1074 = ((s * k) * 2 ^ 1066) * 2 ^ 1074 := by
      rw [← hZ, Nat.mul_assoc (s * k), ← Nat.pow_add, Nat.mul_mul_mul_comm, ← Nat.pow_add]
    exact Nat.eq_of_mul_eq_mul_right (Nat.two_pow_pos _) e
  have hsk : s * k ≤ 8 * 32 := Nat.mul_le_mul hs hk
  have r := rep_grid (k := s * k) (e := 1066) (by omega) (by omega) (by omega)
  rw [hz] at hn
  have := hn r.2
  rw [r.1] at this
  exact this
theorem sub_NV {s k i : Nat} (hs : s ≤ 8) (hk : k ≤ i) (hi : i ≤ 32) : NV (fop .sub .f32 (cv i) (gv s k)) ((8 * i - s * k) * 2 ^ 1066) := by
  have h := cv_NV hi
  rw [h66] at h
  have hsk : s * k ≤ 8 * i := Nat.mul_le_mul hs hk
  exact sub_g h (g_NV hs (by omega)) hsk (by omega) (by omega) (by omega)
theorem add_NV {s k i : Nat} (hs : s ≤ 8) (hk : k ≤ 32) (hi : i ≤ 32) : NV (fop .add .f32 (cv i) (gv s k)) ((8 * i + s * k) * 2 ^ 1066) := by
  have h := cv_NV hi
  rw [h66] at h
  have hsk : s * k ≤ 8 * 32 := Nat.mul_le_mul hs hk
  exact add_g h (g_NV hs hk) (by omega) (by omega) (by omega)
theorem one_NV : NV (some 1065353216) (256 * 2 ^ 1066) := NV_val (by decide +kernel)
/-- two numbers that are worth the same -/
theorem same_sub {o u : Option Nat} {A : Nat} (h : NV o A) (k : NV u A) : NV (fop .sub .f32 o u) 0 := by
  have := h.sub k (Nat.le_refl A)
  rw [Nat.sub_self, rd_zero] at this
  exact this
end Go.Sx.Ink
