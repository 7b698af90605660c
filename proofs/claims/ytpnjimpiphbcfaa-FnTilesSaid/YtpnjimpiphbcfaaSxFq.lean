/- Square roots of shares are finite. -/
import Derived.Test.YtpnjimpiphbcfaaSxFr
set_option linter.unusedVariables false
set_option linter.unusedSimpArgs false
set_option exponentiation.threshold 3000
namespace Go.Sx.Fl
open Ieee

theorem rootFrom_le (n : Nat) : ∀ (todo root : Nat), root * root ≤ n → Datum.rootFrom n todo root * Datum.rootFrom n todo root ≤ n
  | 0, root, h => h
  | todo + 1, root, h => by
    unfold Datum.rootFrom
    simp only
    split
    · rename_i h1; exact rootFrom_le n todo _ h1
    · exact rootFrom_le n todo _ h

theorem inf64v : double.infRung = (2 ^ 11 - 1) * 2 ^ 52 := rfl
theorem bin64 : double.binade = 2 ^ 52 := rfl
theorem leastK64 : (double.leastPlace + (1074 : Nat)).toNat = 0 := by decide
def g64 (X : Nat) : Nat := gR 52 0 double.infRung X
def rd64 (X : Nat) : Nat := valR 52 0 (g64 X)
theorem read_rung64 (s : Bool) {r : Nat} (h : r < double.infRung) : FinS .f64 (double.word s r) s (valR 52 0 r) := by
  have hs : r < double.signWeight := Nat.lt_trans h (inf_lt double)
  have := read_word double s r hs
  rw [lp64, bin64] at this
  unfold valR
  by_cases h1 : r < 2 ^ 52
  · rw [if_pos h1] at this ⊢
    exact ⟨r, -1074, this, by omega, rfl⟩
  · rw [if_neg h1, if_pos h] at this
    rw [if_neg h1]
    refine ⟨2 ^ 52 + r % 2 ^ 52, _, this, by omega, ?_⟩
    congr 2
    omega
theorem writeR64 (s : Bool) (m : Nat) (i : Int) (hi : -1074 ≤ i) (hf : g64 (m * 2 ^ (i + 1074).toNat) < double.infRung) : FinS .f64 (double.write (.number s m i)) s (rd64 (m * 2 ^ (i + 1074).toNat)) := by
  unfold Format.write
  simp only
  rw [nearest_gR double s m i 1074 hi (by rw [lp64]; omega), leastK64]
  exact read_rung64 s hf
/-- two is there -/
theorem two64 : valR 52 0 4611686018427387904 = 2 * 2 ^ 1074 ∧ 4611686018427387904 < double.infRung := ⟨by decide +kernel, by decide⟩
theorem g64_two {X : Nat} (h : X ≤ 2 * 2 ^ 1074) : g64 X ≤ 4611686018427387904 := by
  have h1 : g64 X ≤ g64 (2 * 2 ^ 1074) := gR_mono h
  have h2 : g64 (2 * 2 ^ 1074) = 4611686018427387904 := by
    rw [← two64.1]
    exact gR_val (Nat.le_of_lt two64.2)
  omega
theorem valR_mono {p M r q : Nat} (h : r ≤ q) : valR p M r ≤ valR p M q := by
  rcases Nat.lt_or_ge (valR p M q) (valR p M r) with h1 | h1
  · have h2 : gR p M (r + q) (valR p M q) ≤ gR p M (r + q) (valR p M r) := gR_mono (Nat.le_of_lt h1)
    rw [gR_val (by omega), gR_val (by omega)] at h2
    have : q = r := by omega
    subst this
    omega
  · exact h1
theorem rd64_two {X : Nat} (h : X ≤ 2 * 2 ^ 1074) : rd64 X ≤ 2 * 2 ^ 1074 := by
  have := valR_mono (p := 52) (M := 0) (g64_two h)
  rw [two64.1] at this
  exact this

/-- the root of a number that is at most 1, before it is rounded -/
theorem root_bound {n w st : Nat} (hw : w * w ≤ n) (hst : st ≤ 1) (hn0 : 0 < n) (d : Nat) (hd : n * 2 ^ (2 * d) ≤ 2 ^ (2 * 1073)) : (2 * w + st) * 2 ^ d ≤ 2 * 2 ^ 1074 := by
  have h1 : (w * 2 ^ d) * (w * 2 ^ d) ≤ 2 ^ 1073 * 2 ^ 1073 := by
    have e1 : (w * 2 ^ d) * (w * 2 ^ d) = (w * w) * 2 ^ (2 * d) := by
      rw [Nat.two_mul, Nat.pow_add]
      simp only [Nat.mul_assoc, Nat.mul_left_comm]
    rw [e1, ← Nat.pow_add]
    exact Nat.le_trans (Nat.mul_le_mul_right _ hw) (by rw [← Nat.two_mul]; exact hd)
  have h2 : w * 2 ^ d ≤ 2 ^ 1073 := Nat.mul_self_le_mul_self_iff.1 h1
  have h3 : 2 ^ d ≤ 2 ^ 1073 := by
    have : 1 * 2 ^ (2 * d) ≤ n * 2 ^ (2 * d) := Nat.mul_le_mul_right _ hn0
    rw [Nat.one_mul] at this
    have h4 : 2 ^ (2 * d) ≤ 2 ^ (2 * 1073) := Nat.le_trans this hd
    have := (Nat.pow_le_pow_iff_right (by decide : 1 < 2)).1 h4
    exact Nat.pow_le_pow_right (by decide) (by omega)
  have h5 : (2 * w + st) * 2 ^ d = 2 * (w * 2 ^ d) + st * 2 ^ d := by rw [Nat.add_mul, Nat.mul_assoc]
  have h6 : st * 2 ^ d ≤ 1 * 2 ^ d := Nat.mul_le_mul_right _ hst
  have h7 : 2 ^ 1074 = 2 * 2 ^ 1073 := by rw [Nat.pow_succ 2 1073, Nat.mul_comm]
  rw [h7]
  generalize w * 2 ^ d = a at *
  generalize 2 ^ d = b at *
  generalize 2 ^ 1073 = c at *
  omega

/-- a number of double width that is at most 2, made narrow -/
theorem nar_two {z : Nat} {s : Bool} {Z : Nat} (h : FinS .f64 z s Z) (hs : s = true → Z = 0) (hZ : Z ≤ 2 * 2 ^ 1074) : fnarOk (some z) = true ∧ LE 2 (fnar (some z)) := by
  obtain ⟨m, i, h1, h2, rfl⟩ := h
  have hw := write32 s m i h2 (g_lt (k := 2) (by decide) hZ)
  have he : FloatKind.f32.encode (.number s m i) = single.write (.number s m i) := rfl
  constructor
  · rw [fnarOk_eq]
    unfold fnarOkReal
    simp only [h1]
    obtain ⟨m', i', k1, _, _⟩ := hw
    rw [he, k1]
    rfl
  · rw [fnar_eq]
    refine ⟨_, ⟨_, s, rfl, by show FinS .f32 (FloatKind.f32.encode (FloatKind.f64.decode z)) s _; rw [h1]; exact hw, fun hs' => ?_⟩, rd_le hZ (rep_nat (by decide)).1⟩
    rw [hs hs']
    exact rd_zero
theorem root_LE {o : Option Nat} (h : LE 1 o) : fnarOk (fsqrt (fwide o)) = true ∧ LE 2 (fnar (fsqrt (fwide o))) := by
  obtain ⟨A, ⟨x, s, rfl, ⟨m, i, h1, h2, rfl⟩, h3⟩, hA⟩ := h
  obtain ⟨y, hy, ⟨m', i', g1, g2, g3⟩, hi1, hi2, hm24⟩ := wide_fin h1
  rw [hy]
  rw [g3] at hA h3
  have hs : double.read y = .number s m' i' := g1
  obtain ⟨_, hm53, _⟩ := read_num std64 g1
  have hm53 : m' < 2 ^ 53 := hm53
  have hq : fsqrt (some y) = double.sqrt y := by rw [fsqrt_eq]; rfl
  rw [hq]
  unfold Format.sqrt
  rw [hs]
  unfold Datum.root
  by_cases h0 : m' = 0
  · simp only [h0, if_true, Option.map_some]
    have hz := writeR64 s 0 i' g2 (by rw [Nat.zero_mul]; decide)
    rw [Nat.zero_mul] at hz
    have e : rd64 0 = 0 := by decide
    rw [e] at hz
    exact nar_two hz (fun _ => rfl) (Nat.zero_le _)
  · have hsf : s = false := by
      cases s
      · rfl
      · rcases Nat.mul_eq_zero.1 (h3 rfl) with h | h
        · exact absurd h h0
        · exact absurd h (Nat.pos_iff_ne_zero.1 (Nat.two_pow_pos _))
    subst hsf
    simp only [h0, if_false, Bool.false_eq_true, Option.map_some]
    -- where the number lies
    have hip : -202 ≤ i' := by
      have hm0 : m ≠ 0 := by
        intro h; rw [h, Nat.zero_mul] at g3
        rcases Nat.mul_eq_zero.1 g3.symm with h | h
        · exact h0 h
        · exact absurd h (Nat.pos_iff_ne_zero.1 (Nat.two_pow_pos _))
      have e1 : 1 * 2 ^ 925 ≤ m * 2 ^ (i + 1074).toNat := Nat.mul_le_mul (by omega) (Nat.pow_le_pow_right (by decide) (by omega))
      rw [g3, Nat.one_mul] at e1
      have e2 : m' * 2 ^ (i' + 1074).toNat < 2 ^ 53 * 2 ^ (i' + 1074).toNat := Nat.mul_lt_mul_of_pos_right hm53 (Nat.two_pow_pos _)
      rw [← Nat.pow_add] at e2
      have := (Nat.pow_lt_pow_iff_right (by decide : 1 < 2)).1 (Nat.lt_of_le_of_lt e1 e2)
      omega
    have hfb : double.fractionBits + 2 = 54 := rfl
    rw [hfb]
    generalize hmore : (2 * 54 - m'.log2 + ((i' - ((2 * 54 - m'.log2 : Nat) : Int)) % 2).toNat) = more
    have hmb : more ≤ 109 := by omega
    have hev : (i' - (more : Int)) % 2 = 0 := by omega
    rw [Nat.shiftLeft_eq]
    generalize hn : m' * 2 ^ more = n
    have hn0 : 0 < n := by rw [← hn]; exact Nat.mul_pos (by omega) (Nat.two_pow_pos _)
    generalize hwd : Datum.rootFrom n (n.log2 / 2 + 1) 0 = w
    have hw : w * w ≤ n := by rw [← hwd]; exact rootFrom_le n _ 0 (Nat.zero_le _)
    have hst : (w * w != n).toNat ≤ 1 := Bool.toNat_le _
    generalize (w * w != n).toNat = st at hst
    have hpl : -1074 ≤ (i' - (more : Int)) / 2 - 1 := by omega
    have hd : n * 2 ^ (2 * ((i' - (more : Int)) / 2 - 1 + 1074).toNat) ≤ 2 ^ (2 * 1073) := by
      rw [← hn, Nat.mul_assoc, ← Nat.pow_add]
      have e1 : more + 2 * ((i' - (more : Int)) / 2 - 1 + 1074).toNat = (i' + 1074).toNat + 1072 := by omega
      rw [e1, Nat.pow_add, ← Nat.mul_assoc]
      have e2 : m' * 2 ^ (i' + 1074).toNat * 2 ^ 1072 ≤ (1 * 2 ^ 1074) * 2 ^ 1072 := Nat.mul_le_mul_right _ hA
      rw [Nat.one_mul, ← Nat.pow_add] at e2
      exact e2
    have hb := root_bound hw hst hn0 _ hd
    generalize ((i' - (more : Int)) / 2 - 1 : Int) = pl at *
    have hz := writeR64 false (2 * w + st) pl hpl (Nat.lt_of_le_of_lt (g64_two hb) two64.2)
    exact nar_two hz (fun h => by cases h) (rd64_two hb)
end Go.Sx.Fl
