/- Facts about floating point numbers: exact writing, rounding to whole numbers, order. -/
import Ieee.Arith
set_option linter.unusedVariables false
set_option linter.unusedSimpArgs false
namespace Go.Sx.Fl
open Ieee

/-- `n / 2 ^ d`, to the nearest, ties to even -/
def rhe (n d : Nat) : Nat := n / 2 ^ d + (if 2 ^ d < 2 * (n % 2 ^ d) ∨ (2 ^ d = 2 * (n % 2 ^ d) ∧ n / 2 ^ d % 2 = 1) then 1 else 0)

theorem cut_rhe (s : Bool) (n d : Nat) : Toward.even.cut s n d = rhe n d := by
  unfold Toward.cut rhe
  simp only [Nat.one_shiftLeft]
  by_cases h : d ≤ n.log2 + 2
  · rw [Nat.min_eq_left h]
    congr 1
    by_cases c : 2 ^ d < 2 * (n % 2 ^ d) ∨ (2 ^ d = 2 * (n % 2 ^ d) ∧ n / 2 ^ d % 2 = 1)
    · rw [if_pos c]
      rcases c with c | ⟨c1, c2⟩
      · simp [c]
      · simp [← c1, c2]
    · rw [if_neg c]
      have h1 : ¬ 2 ^ d < 2 * (n % 2 ^ d) := fun h => c (.inl h)
      have h2 : ¬ (2 ^ d = 2 * (n % 2 ^ d) ∧ n / 2 ^ d % 2 = 1) := fun h => c (.inr h)
      simp only [Bool.toNat_eq_zero, Bool.or_eq_false_iff, decide_eq_false_iff_not, Bool.and_eq_false_iff, beq_eq_false_iff_ne, ne_eq]
      refine ⟨h1, ?_⟩
      by_cases h3 : 2 ^ d = 2 * (n % 2 ^ d)
      · right; exact fun h4 => h2 ⟨h3, h4⟩
      · left; exact h3
  · have hlt : n < 2 ^ (n.log2 + 1) := Nat.lt_log2_self
    have h2 : 2 * n < 2 ^ (n.log2 + 2) := by rw [Nat.pow_succ]; omega
    have h3 : 2 ^ (n.log2 + 2) ≤ 2 ^ d := Nat.pow_le_pow_right (by omega) (by omega)
    rw [Nat.min_eq_right (by omega)]
    have e1 : n / 2 ^ (n.log2 + 2) = 0 := Nat.div_eq_of_lt (by omega)
    have e2 : n % 2 ^ (n.log2 + 2) = n := Nat.mod_eq_of_lt (by omega)
    have e3 : n / 2 ^ d = 0 := Nat.div_eq_of_lt (by omega)
    have e4 : n % 2 ^ d = n := Nat.mod_eq_of_lt (by omega)
    rw [e1, e2, e3, e4]
    rw [if_neg (by omega)]
    have h5 : ¬ 2 ^ (n.log2 + 2) < 2 * n := by omega
    simp [h5]

theorem rhe_scale (n d j : Nat) : rhe (n * 2 ^ j) (d + j) = rhe n d := by
  unfold rhe
  have hp : 0 < 2 ^ j := Nat.two_pow_pos j
  have e1 : n * 2 ^ j / 2 ^ (d + j) = n / 2 ^ d := by rw [Nat.pow_add]; exact Nat.mul_div_mul_right _ _ hp
  have e2 : n * 2 ^ j % 2 ^ (d + j) = n % 2 ^ d * 2 ^ j := by rw [Nat.pow_add]; exact Nat.mul_mod_mul_right _ _ _
  rw [e1, e2, Nat.pow_add, ← Nat.mul_assoc]
  simp only [Nat.mul_lt_mul_right hp, Nat.mul_left_inj (Nat.pos_iff_ne_zero.1 hp)]

theorem rhe_zero (n : Nat) : rhe n 0 = n := by
  unfold rhe
  simp [Nat.mod_one]
theorem rhe_exact (k d : Nat) : rhe (k * 2 ^ d) d = k := by
  have := rhe_scale k 0 d
  rw [Nat.zero_add] at this
  rw [this, rhe_zero]
theorem rhe_mono {n m : Nat} (d : Nat) (h : n ≤ m) : rhe n d ≤ rhe m d := by
  unfold rhe
  have hp : 0 < 2 ^ d := Nat.two_pow_pos d
  have hq : n / 2 ^ d ≤ m / 2 ^ d := Nat.div_le_div_right h
  rcases Nat.lt_or_ge (n / 2 ^ d) (m / 2 ^ d) with h1 | h1
  · split <;> split <;> omega
  · have e : n / 2 ^ d = m / 2 ^ d := by omega
    have h2 : n % 2 ^ d ≤ m % 2 ^ d := by
      have a1 := Nat.div_add_mod n (2 ^ d)
      have a2 := Nat.div_add_mod m (2 ^ d)
      rw [e] at a1
      omega
    rw [e]
    split
    · rename_i c
      rw [if_pos]
      · exact Nat.le_refl _
      · rcases c with c | ⟨c1, c2⟩
        · left; omega
        · rcases Nat.lt_or_ge (2 ^ d) (2 * (m % 2 ^ d)) with h3 | h3
          · exact .inl h3
          · right; exact ⟨by omega, c2⟩
    · split <;> omega


/-- the value of a number in units of `2 ^ L` -/
def V (L : Int) (s : Bool) (m : Nat) (i : Int) : Int := signed s m (i - L).toNat
theorem signed_eq (s : Bool) (m k : Nat) : signed s m k = (if s then -1 else 1) * ((m * 2 ^ k : Nat) : Int) := by
  unfold signed
  rw [Nat.shiftLeft_eq]
  cases s <;> simp

structure Std (f : Format) : Prop where
  p : 1 ≤ f.fractionBits
  e : 2 ≤ f.exponentBits

theorem read_word (f : Format) (s : Bool) (r : Nat) (h : r < f.signWeight) : f.read (f.word s r) = (if r < f.binade then .number s r f.leastPlace else if r < f.infRung then .number s (f.binade + r % f.binade) (f.leastPlace + (r / f.binade - 1 : Nat)) else if r = f.infRung then .infinity s else .nan s (r - f.infRung)) := by
  have hw : 0 < f.signWeight := Nat.two_pow_pos _
  unfold Format.read Format.word
  cases s
  · simp only [Bool.false_eq_true, if_false]
    rw [Nat.div_eq_of_lt h, Nat.mod_eq_of_lt h]
    rfl
  · simp only [if_true]
    rw [Nat.add_div_left _ hw, Nat.div_eq_of_lt h, Nat.add_mod_left, Nat.mod_eq_of_lt h]
    rfl

theorem inf_lt (f : Format) : f.infRung < f.signWeight := by
  unfold Format.infRung Format.signWeight Format.binade
  rw [Nat.pow_add]
  have h1 : 0 < 2 ^ f.exponentBits := Nat.two_pow_pos _
  exact Nat.mul_lt_mul_of_pos_right (by omega) (Nat.two_pow_pos _)

/-- a number that the format has is written as it is -/
theorem write_exact (f : Format) (hf : Std f) (s : Bool) (m : Nat) (i : Int) (hm : m < 2 ^ (f.fractionBits + 1)) (hi : f.leastPlace ≤ i) (hb : m = 0 ∨ (i + m.log2 - f.fractionBits - f.leastPlace).toNat + 2 < 2 ^ f.exponentBits) :
    ∃ m' i', f.read (f.write (.number s m i)) = .number s m' i' ∧ f.leastPlace ≤ i' ∧ m' < 2 ^ (f.fractionBits + 1) ∧ m' * 2 ^ (i' - f.leastPlace).toNat = m * 2 ^ (i - f.leastPlace).toNat := by
  have hbp : 0 < f.binade := Nat.two_pow_pos _
  have hE : 4 ≤ 2 ^ f.exponentBits := by
    have := Nat.pow_le_pow_right (n := 2) (by omega) hf.e
    omega
  have hinf : 3 * f.binade ≤ f.infRung := Nat.mul_le_mul_right _ (by omega)
  have h2 : 2 ^ (f.fractionBits + 1) = 2 * f.binade := by unfold Format.binade; rw [Nat.pow_succ]; omega
  unfold Format.write Format.nearest
  simp only
  by_cases h0 : m = 0
  · subst h0
    rw [if_pos rfl, read_word _ _ _ (Nat.two_pow_pos _), if_pos hbp]
    exact ⟨0, _, rfl, Int.le_refl _, Nat.two_pow_pos _, by simp⟩
  · rw [if_neg h0]
    have hlog : m.log2 ≤ f.fractionBits := by
      have := (Nat.log2_lt h0).2 hm
      omega
    have hlo : 2 ^ m.log2 ≤ m := Nat.log2_self_le h0
    have hhi : m < 2 ^ (m.log2 + 1) := Nat.lt_log2_self
    have hb := hb.resolve_left h0
    generalize hL : f.leastPlace = L at *
    generalize hl : m.log2 = l at *
    generalize hp : f.fractionBits = p at *
    have hbin : f.binade = 2 ^ p := by unfold Format.binade; rw [hp]
    rw [hbin] at hbp hinf h2
    generalize hlast : max (i + (l : Int) - (p : Int)) L = last at *
    have hle : last ≤ i := by omega
    rw [show (last - i).toNat = 0 by omega, cut_rhe, rhe_zero, Nat.shiftLeft_eq, hbin]
    by_cases hA : i + (l : Int) - (p : Int) ≤ L
    · have e : last = L := by omega
      rw [e, Int.sub_self]
      simp only [Int.toNat_zero, Nat.zero_mul, Nat.zero_add]
      have hk : m * 2 ^ (i - L).toNat < 2 ^ (p + 1) := by
        have : m * 2 ^ (i - L).toNat < 2 ^ (l + 1) * 2 ^ (i - L).toNat := Nat.mul_lt_mul_of_pos_right hhi (Nat.two_pow_pos _)
        rw [← Nat.pow_add] at this
        exact Nat.lt_of_lt_of_le this (Nat.pow_le_pow_right (by omega) (by omega))
      generalize m * 2 ^ (i - L).toNat = k at hk ⊢
      rw [Nat.min_eq_left (by omega), read_word _ _ _ (by have := inf_lt f; omega), hbin, hL]
      by_cases hs : k < 2 ^ p
      · rw [if_pos hs]
        exact ⟨k, L, rfl, Int.le_refl _, hk, by simp⟩
      · rw [if_neg hs, if_pos (by omega)]
        have hp0 : 0 < 2 ^ p := Nat.two_pow_pos p
        have e1 : k / 2 ^ p = 1 := by
          have : k = 2 ^ p * 1 + (k - 2 ^ p) := by omega
          rw [this, Nat.mul_add_div hp0, Nat.div_eq_of_lt (by omega)]
        have e2 : k % 2 ^ p = k - 2 ^ p := by
          have := Nat.div_add_mod k (2 ^ p)
          rw [e1] at this
          omega
        rw [e1, e2]
        refine ⟨_, _, rfl, by simp, by omega, ?_⟩
        simp only [Nat.sub_self]
        rw [show (L + ((0 : Nat) : Int) - L).toNat = 0 by omega, Nat.pow_zero, Nat.mul_one]
        omega
    · have e : last = i + (l : Int) - (p : Int) := by omega
      have hsub : (i - last).toNat = p - l := by omega
      rw [hsub]
      have hk1 : 2 ^ p ≤ m * 2 ^ (p - l) := by
        have := Nat.mul_le_mul_right (2 ^ (p - l)) hlo
        rw [← Nat.pow_add, show l + (p - l) = p by omega] at this
        exact this
      have hk2 : m * 2 ^ (p - l) < 2 ^ (p + 1) := by
        have := Nat.mul_lt_mul_of_pos_right hhi (Nat.two_pow_pos (p - l))
        rw [← Nat.pow_add, show l + 1 + (p - l) = p + 1 by omega] at this
        exact this
      generalize hx : (last - L).toNat = x
      have hx2 : (i + ↑l - ↑p - L).toNat = x := by rw [← hx]; congr 1; omega
      rw [hx2] at hb
      have hp0 : 0 < 2 ^ p := Nat.two_pow_pos p
      have hr : x * 2 ^ p + m * 2 ^ (p - l) < f.infRung := by
        unfold Format.infRung
        rw [hbin]
        have : (x + 2) * 2 ^ p ≤ (2 ^ f.exponentBits - 1) * 2 ^ p := Nat.mul_le_mul_right _ (by omega)
        rw [Nat.add_mul] at this
        omega
      have hmk : m * 2 ^ (p - l) * 2 ^ x = m * 2 ^ (i - L).toNat := by
        rw [Nat.mul_assoc, ← Nat.pow_add]
        congr 2
        omega
      generalize m * 2 ^ (p - l) = k at *
      rw [Nat.min_eq_left (by omega), read_word _ _ _ (by have := inf_lt f; omega), hbin, hL]
      have hx1 : 1 ≤ x := by omega
      have hge : ¬ x * 2 ^ p + k < 2 ^ p := by
        have : 1 * 2 ^ p ≤ x * 2 ^ p := Nat.mul_le_mul_right _ hx1
        omega
      rw [if_neg hge, if_pos hr]
      have e1 : (x * 2 ^ p + k) / 2 ^ p = x + 1 := by
        have : x * 2 ^ p + k = 2 ^ p * (x + 1) + (k - 2 ^ p) := by rw [Nat.mul_add, Nat.mul_comm x]; omega
        rw [this, Nat.mul_add_div hp0, Nat.div_eq_of_lt (by omega)]
      have e2 : (x * 2 ^ p + k) % 2 ^ p = k - 2 ^ p := by
        have := Nat.div_add_mod (x * 2 ^ p + k) (2 ^ p)
        rw [e1, Nat.mul_add, Nat.mul_comm (2 ^ p) x] at this
        omega
      rw [e1, e2]
      refine ⟨_, _, rfl, by omega, by omega, ?_⟩
      rw [show (L + ((x + 1 - 1 : Nat) : Int) - L).toNat = x by omega, ← hmk]
      congr 1
      omega

end Go.Sx.Fl
