/- Ink of a grid: what limiting leaves. -/
import Derived.Test.YtpnjimpiphbcfaaSxI5
set_option linter.unusedVariables false
set_option linter.unusedSimpArgs false
set_option exponentiation.threshold 3000
set_option maxRecDepth 100000
namespace Go.Sx.Ink
open Go Go.Sx Go.Sx.Fl Ieee

noncomputable def cv (k : Nat) : Option Nat := gr w32 (Int.ofNat k)
noncomputable def lv (k : Nat) : Option Nat := gr 1082130432 (Int.ofNat k)
noncomputable def sv (k : Nat) : Option Nat := gr 1090519040 (Int.ofNat k)
theorem cv_NV {k : Nat} (h : k ≤ 32) : NV (cv k) (k * 2 ^ 1069) := chk_of c32 (by omega)
theorem lv_NV {k : Nat} (h : k ≤ 16) : NV (lv k) (k * 2 ^ 1072) := chk_of c4 (by omega)
theorem sv_NV {k : Nat} (h : k ≤ 8) : NV (sv k) (k * 2 ^ 1071) := chk_of c8 (by omega)
theorem p69 (k : Nat) : k * 2 ^ 1072 = (8 * k) * 2 ^ 1069 := by
  have h : (2 : Nat) ^ 1072 = 8 * 2 ^ 1069 := by
    rw [show (1072 : Nat) = 3 + 1069 from rfl, Nat.pow_add]
  rw [h, ← Nat.mul_assoc, Nat.mul_comm k 8]
theorem add_g {o u : Option Nat} {j k e : Nat} (ho : NV o (j * 2 ^ e)) (hu : NV u (k * 2 ^ e)) (h : j + k ≤ 2 ^ 24) (h0 : 925 ≤ e) (h1 : e ≤ 1080) : NV (fop .add .f32 o u) ((j + k) * 2 ^ e) := by
  have r := rep_grid h h0 h1
  have e' : j * 2 ^ e + k * 2 ^ e = (j + k) * 2 ^ e := by rw [Nat.add_mul]
  have := ho.add hu (by rw [e']; exact r.2)
  rw [e', r.1] at this
  exact this
theorem sub_g {o u : Option Nat} {j k e : Nat} (ho : NV o (j * 2 ^ e)) (hu : NV u (k * 2 ^ e)) (hk : k ≤ j) (h : j ≤ 2 ^ 24) (h0 : 925 ≤ e) (h1 : e ≤ 1080) : NV (fop .sub .f32 o u) ((j - k) * 2 ^ e) := by
  have r := rep_grid (k := j - k) (e := e) (by omega) h0 h1
  have e' : j * 2 ^ e - k * 2 ^ e = (j - k) * 2 ^ e := by rw [Nat.sub_mul]
  have := ho.sub hu (Nat.mul_le_mul_right _ hk)
  rw [e', r.1] at this
  exact this
theorem g_max {X : Nat} (h : X ≤ 2 ^ 24 * 2 ^ 1053) : g32 X < single.infRung := Nat.lt_of_le_of_lt (gR_mono h) (rep_grid (Nat.le_refl _) (by omega) (by omega)).2
/-- a sum and how far it is off -/
theorem add_n {o u : Option Nat} {A B : Nat} (ho : NV o A) (hu : NV u B) (h : A + B < 2 ^ 24 * 2 ^ 1053) : ∃ C, NV (fop .add .f32 o u) C ∧ C ≤ A + B + 2 ^ 1053 ∧ A + B ≤ C + 2 ^ 1053 := ⟨_, ho.add hu (g_max (Nat.le_of_lt h)), (rd_up h).1, (rd_up h).2⟩
noncomputable def s3 (a b c : Option Nat) : Option Nat := fop .add .f32 (fop .add .f32 a b) c
noncomputable def ink (a b c d : Option Nat) : Option Nat := fop .add .f32 (s3 a b c) d
theorem s3_NV {a b c : Nat} (ha : a ≤ 32) (hb : b ≤ 32) (hc : c ≤ 32) : NV (s3 (cv a) (cv b) (cv c)) ((a + b + c) * 2 ^ 1069) := add_g (add_g (cv_NV ha) (cv_NV hb) (by omega) (by omega) (by omega)) (cv_NV hc) (by omega) (by omega) (by omega)
theorem ink_NV {a b c d : Nat} (ha : a ≤ 32) (hb : b ≤ 32) (hc : c ≤ 32) (hd : d ≤ 32) : NV (ink (cv a) (cv b) (cv c) (cv d)) ((a + b + c + d) * 2 ^ 1069) := add_g (s3_NV ha hb hc) (cv_NV hd) (by omega) (by omega) (by omega)
noncomputable def byL (a b c d l : Option Nat) : Option Nat := fop .quo .f32 (fop .sub .f32 l d) (s3 a b c)
/-- a part times what it is limited by -/
theorem mul_l {k v : Nat} {o : Option Nat} (hk : k ≤ 32) (hv : NV o v) (h1 : v ≤ 2 ^ 1074) : ∃ D Z, NV (fop .mul .f32 (cv k) o) D ∧ D ≤ k * 2 ^ 1069 ∧ D ≤ Z + 2 ^ 1053 ∧ k * v = Z * 2 ^ 5 := by
  obtain ⟨Z, hZ, hn⟩ := (cv_NV hk).mul hv
  have hz : k * v = Z * 2 ^ 5 := by
    have e : (k * v) * 2 ^ 1069 = (Z * 2 ^ 5) * 2 ^ 1069 := by
      rw [Nat.mul_assoc Z, ← Nat.pow_add, show 5 + 1069 = 1074 from rfl, ← hZ, Nat.mul_right_comm]
    exact Nat.eq_of_mul_eq_mul_right (Nat.two_pow_pos _) e
  have hZk : Z ≤ k * 2 ^ 1069 := by
    have h2 : Z * 2 ^ 5 ≤ (k * 2 ^ 1069) * 2 ^ 5 := by
      rw [← hz, Nat.mul_assoc, ← Nat.pow_add]
      exact Nat.mul_le_mul_left k h1
    exact Nat.le_of_mul_le_mul_right h2 (Nat.two_pow_pos _)
  have hmax : k * 2 ^ 1069 ≤ 2 ^ 5 * 2 ^ 1069 := Nat.mul_le_mul_right _ (by omega)
  have hlt : Z < 2 ^ 24 * 2 ^ 1053 := by
    refine Nat.lt_of_le_of_lt (Nat.le_trans hZk hmax) ?_
    rw [← Nat.pow_add, ← Nat.pow_add]
    exact Nat.pow_lt_pow_right (by omega) (by omega)
  exact ⟨rd Z, Z, hn (g_max (Nat.le_of_lt hlt)), rd_le hZk (rep_grid (by omega) (by omega) (by omega)).1, (rd_up hlt).1, hz⟩
/-- what is limited -/
theorem lim3 {a b c d L : Nat} (ha : a ≤ 32) (hb : b ≤ 32) (hc : c ≤ 32) (hd : d ≤ 32) (hL : L ≤ 16) (h1 : d < 8 * L) (h2 : 8 * L < a + b + c + d) :
    ∃ A B C T, NV (fop .mul .f32 (cv a) (byL (cv a) (cv b) (cv c) (cv d) (lv L))) A ∧ NV (fop .mul .f32 (cv b) (byL (cv a) (cv b) (cv c) (cv d) (lv L))) B ∧ NV (fop .mul .f32 (cv c) (byL (cv a) (cv b) (cv c) (cv d) (lv L))) C ∧
      A ≤ a * 2 ^ 1069 ∧ B ≤ b * 2 ^ 1069 ∧ C ≤ c * 2 ^ 1069 ∧
      NV (ink (fop .mul .f32 (cv a) (byL (cv a) (cv b) (cv c) (cv d) (lv L))) (fop .mul .f32 (cv b) (byL (cv a) (cv b) (cv c) (cv d) (lv L))) (fop .mul .f32 (cv c) (byL (cv a) (cv b) (cv c) (cv d) (lv L))) (cv d)) T ∧ T ≤ L * 2 ^ 1072 + 9 * 2 ^ 1053 := by
  have hl := lv_NV hL
  rw [p69] at hl
  have hp := sub_g hl (cv_NV hd) (by omega) (by omega) (by omega) (by omega)
  obtain ⟨v, hv, v1, v2⟩ := quo_of (fop_wdO _ _ _) (fop_wdO _ _ _) hp (s3_NV ha hb hc) (by omega) (by omega) (by omega) (chk_of c97 (by omega)) (chk_of c97 (by omega))
  have hv : NV (byL (cv a) (cv b) (cv c) (cv d) (lv L)) v := hv
  generalize byL (cv a) (cv b) (cv c) (cv d) (lv L) = o at *
  obtain ⟨A, Z1, m1, m2, m3, m4⟩ := mul_l ha hv v1
  obtain ⟨B, Z2, n1, n2, n3, n4⟩ := mul_l hb hv v1
  obtain ⟨C, Z3, o1, o2, o3, o4⟩ := mul_l hc hv v1
  -- the sum
  have hu : (2 : Nat) ^ 1069 = 65536 * 2 ^ 1053 := by rw [show (1069 : Nat) = 16 + 1053 from rfl, Nat.pow_add]
  have hs : (Z1 + Z2 + Z3) * 2 ^ 5 ≤ ((8 * L - d) * 2 ^ 21 + (a + b + c)) * 2 ^ 1053 := by
    refine Nat.le_trans (Nat.le_of_eq ?_) v2
    rw [Nat.add_mul, Nat.add_mul, ← m4, ← n4, ← o4, ← Nat.add_mul, ← Nat.add_mul, Nat.mul_comm]
  have hd69 := cv_NV hd
  rw [p69]
  rw [hu] at m2 n2 o2 hd69 ⊢
  have hmx : 2 ^ 24 * 2 ^ 1053 = 16777216 * (2 : Nat) ^ 1053 := rfl
  generalize hU : (2 : Nat) ^ 1053 = u at *
  have e0 : ((8 * L - d) * 2 ^ 21 + (a + b + c)) * u = 2097152 * ((8 * L - d) * u) + (a + b + c) * u := by
    rw [Nat.add_mul, Nat.mul_right_comm, Nat.mul_comm ((8 * L - d) * u)]
  have e1 : (a + b + c) * u ≤ 96 * u := Nat.mul_le_mul_right _ (by omega)
  have e2 : ∀ k : Nat, k * (65536 * u) = 65536 * (k * u) := fun k => Nat.mul_left_comm k 65536 u
  have e3 : (8 * L - d) * u + d * u = 8 * L * u := by rw [← Nat.add_mul, show 8 * L - d + d = 8 * L by omega]
  have e4 : a * u ≤ 32 * u := Nat.mul_le_mul_right _ ha
  have e5 : b * u ≤ 32 * u := Nat.mul_le_mul_right _ hb
  have e6 : c * u ≤ 32 * u := Nat.mul_le_mul_right _ hc
  have e7 : d * u ≤ 32 * u := Nat.mul_le_mul_right _ hd
  simp only [e2] at m2 n2 o2 hd69 ⊢
  rw [e0] at hs
  obtain ⟨S1, q1, q2, _⟩ := add_n m1 n1 (by rw [hU, hmx]; omega)
  obtain ⟨S2, r1, r2, _⟩ := add_n q1 o1 (by rw [hU, hmx]; rw [hU] at q2; omega)
  obtain ⟨T, t1, t2, _⟩ := add_n r1 hd69 (by rw [hU, hmx]; rw [hU] at q2 r2; omega)
  rw [hU] at q2 r2 t2
  clear hU hu hl hp
  refine ⟨A, B, C, T, m1, n1, o1, ?_, ?_, ?_, t1, ?_⟩
  · exact m2
  · exact n2
  · exact o2
  · omega
end Go.Sx.Ink
