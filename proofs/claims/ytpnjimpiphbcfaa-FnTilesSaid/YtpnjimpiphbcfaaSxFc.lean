/- The nearest count of a narrow number: facts about floating point numbers. -/
import Derived.Test.YtpnjimpiphbcfaaSxFl
import Derived.Test.YtpnjimpiphbcfaaSxExt
import Derived.IntWalk
import Derived.Laws.FloatBits
set_option linter.unusedVariables false
set_option linter.unusedSimpArgs false
set_option exponentiation.threshold 3000
namespace Go.Sx.Fl
open Ieee

/-- all numbers of both widths are whole numbers of this unit, `2 ^ -1074` -/
def U : Int := ((2 ^ 1074 : Nat) : Int)
theorem U_pos : 0 < U := by
  unfold U
  exact Int.ofNat_lt.2 (Nat.two_pow_pos 1074)
def sg (s : Bool) : Int := if s then -1 else 1
/-- a word is a finite number of this value -/
def Fin (k : FloatKind) (x : Nat) (v : Int) : Prop := ∃ s m i, k.decode x = .number s m i ∧ -1074 ≤ i ∧ v = sg s * ((m * 2 ^ (i + 1074).toNat : Nat) : Int)

/-- the same, with the sign and the size apart -/
def FinS (k : FloatKind) (x : Nat) (s : Bool) (A : Nat) : Prop := ∃ m i, k.decode x = .number s m i ∧ -1074 ≤ i ∧ A = m * 2 ^ (i + 1074).toNat
theorem FinS.fin {k : FloatKind} {x : Nat} {s : Bool} {A : Nat} (h : FinS k x s A) : Fin k x (sg s * (A : Int)) := by
  obtain ⟨m, i, h1, h2, rfl⟩ := h
  exact ⟨s, m, i, h1, h2, rfl⟩
theorem std32 : Std single := ⟨by decide, by decide⟩
theorem std64 : Std double := ⟨by decide, by decide⟩

theorem order_num (s t : Bool) (m n : Nat) (i j : Int) (hi : -1074 ≤ i) (hj : -1074 ≤ j) :
    Datum.order (.number s m i) (.number t n j) = some (compare (sg s * ((m * 2 ^ (i + 1074).toNat : Nat) : Int)) (sg t * ((n * 2 ^ (j + 1074).toNat : Nat) : Int))) := by
  unfold Datum.order
  simp only [Option.some.injEq]
  have hc : ∀ (a b : Int) (c : Nat), compare (a * ((2 ^ c : Nat) : Int)) (b * ((2 ^ c : Nat) : Int)) = compare a b := fun a b c => by
    have hp : (0 : Int) < ((2 ^ c : Nat) : Int) := Int.ofNat_lt.2 (Nat.two_pow_pos c)
    generalize ((2 ^ c : Nat) : Int) = q at hp
    have h1 : a * q < b * q ↔ a < b := ⟨fun h => Int.lt_of_mul_lt_mul_right h (Int.le_of_lt hp), fun h => Int.mul_lt_mul_of_pos_right h hp⟩
    have h2 : a * q = b * q ↔ a = b := ⟨fun h => Int.eq_of_mul_eq_mul_right (by omega) h, fun h => by rw [h]⟩
    simp only [compare, compareOfLessAndEq, h1, h2]
  rw [← hc (signed s m (i - min i j).toNat) _ (min i j + 1074).toNat, signed_eq, signed_eq]
  have e : ∀ (x : Bool) (k : Nat) (l : Int), min i j ≤ l → (if x then -1 else 1) * ((k * 2 ^ (l - min i j).toNat : Nat) : Int) * ((2 ^ (min i j + 1074).toNat : Nat) : Int) = sg x * ((k * 2 ^ (l + 1074).toNat : Nat) : Int) := fun x k l hl => by
    unfold sg
    rw [Int.mul_assoc, ← Int.natCast_mul, Nat.mul_assoc, ← Nat.pow_add]
    congr 4
    omega
  rw [e s m i (Int.min_le_left _ _), e t n j (Int.min_le_right _ _)]

theorem cmp_lt (a b : Int) : (some (compare a b) == some Ordering.lt) = decide (a < b) := by
  simp only [compare, compareOfLessAndEq]
  by_cases h : a < b
  · simp [h]
  · by_cases h2 : a = b
    · simp [h, h2]
    · simp [h, h2]
theorem cmp_gt (a b : Int) : (some (compare a b) == some Ordering.gt) = decide (a > b) := by
  simp only [compare, compareOfLessAndEq]
  by_cases h : a < b
  · simp [h]; omega
  · by_cases h2 : a = b
    · simp [h, h2]
    · simp [h, h2]; omega
theorem cmp_eq (a b : Int) : (some (compare a b) == some Ordering.eq) = decide (a = b) := by
  simp only [compare, compareOfLessAndEq]
  by_cases h : a < b
  · simp [h]; omega
  · by_cases h2 : a = b
    · simp [h, h2]
    · simp [h, h2]

theorem fcmp_fin {k : FloatKind} {x y : Nat} {a b : Int} (hx : Fin k x a) (hy : Fin k y b) :
    fcmp .gtr k (some x) (some y) = decide (a > b) ∧ fcmp .lss k (some x) (some y) = decide (a < b) ∧ fcmp .geq k (some x) (some y) = decide (a ≥ b) ∧ fcmp .leq k (some x) (some y) = decide (a ≤ b) ∧ fcmp .eql k (some x) (some y) = decide (a = b) ∧ fcmp .neq k (some x) (some y) = !decide (a = b) := by
  obtain ⟨s, m, i, h1, h2, rfl⟩ := hx
  obtain ⟨t, n, j, h3, h4, rfl⟩ := hy
  have ho : k.format.order x y = some (compare (sg s * ((m * 2 ^ (i + 1074).toNat : Nat) : Int)) (sg t * ((n * 2 ^ (j + 1074).toNat : Nat) : Int))) := by
    unfold Format.order
    unfold FloatKind.decode at h1 h3
    rw [h1, h3]
    exact order_num s t m n i j h2 h4
  generalize sg s * ((m * 2 ^ (i + 1074).toNat : Nat) : Int) = a at *
  generalize sg t * ((n * 2 ^ (j + 1074).toNat : Nat) : Int) = b at *
  rw [fcmp_eq]
  simp only [fcmpReal, ho]
  refine ⟨cmp_gt a b, cmp_lt a b, ?_, ?_, cmp_eq a b, ?_⟩
  · rw [cmp_gt, cmp_eq, ← Bool.decide_or]
    congr 1
    simp only [eq_iff_iff]; omega
  · rw [cmp_lt, cmp_eq, ← Bool.decide_or]
    congr 1
    simp only [eq_iff_iff]; omega
  · rw [bne, cmp_eq]

/-- what a narrow word may be -/
theorem read_num {f : Format} {x : Nat} {s : Bool} {m : Nat} {i : Int} (hf : Std f) (h : f.read x = .number s m i) : f.leastPlace ≤ i ∧ m < 2 ^ (f.fractionBits + 1) ∧ (i - f.leastPlace).toNat + 3 ≤ 2 ^ f.exponentBits := by
  have hE : 4 ≤ 2 ^ f.exponentBits := by
    have := Nat.pow_le_pow_right (n := 2) (by omega) hf.e
    omega
  have hb : 0 < f.binade := Nat.two_pow_pos _
  have h2 : 2 ^ (f.fractionBits + 1) = 2 * f.binade := by unfold Format.binade; rw [Nat.pow_succ]; omega
  unfold Format.read at h
  simp only at h
  split at h
  · cases h
    exact ⟨Int.le_refl _, by omega, by simp; omega⟩
  · split at h
    · cases h
      rename_i hi
      have hm := Nat.mod_lt (x % f.signWeight) hb
      refine ⟨by omega, by omega, ?_⟩
      have : x % f.signWeight / f.binade < 2 ^ f.exponentBits - 1 := by
        unfold Format.infRung at hi
        exact Nat.div_lt_of_lt_mul (by rw [Nat.mul_comm]; exact hi)
      omega
    · split at h <;> cases h

theorem lp64 : double.leastPlace = -1074 := by decide
theorem lp32 : single.leastPlace = -149 := by decide

/-- a number with few digits, in double width -/
theorem write64 (s : Bool) (m : Nat) (i : Int) (hm : m < 2 ^ 53) (hi : -1074 ≤ i) (hb : m = 0 ∨ i + m.log2 ≤ 1000) : FinS .f64 (FloatKind.f64.encode (.number s m i)) s (m * 2 ^ (i + 1074).toNat) := by
  obtain ⟨m', i', h1, h2, h3, h4⟩ := write_exact double std64 s m i hm (by rw [lp64]; exact hi) (by
    rcases hb with hb | hb
    · exact .inl hb
    · right
      rw [lp64]
      simp only [double]
      omega)
  rw [lp64] at h2 h4
  refine ⟨m', i', h1, h2, ?_⟩
  rw [show i' - -1074 = i' + 1074 by omega, show i - -1074 = i + 1074 by omega] at h4
  rw [h4]

theorem wide_fin {x : Nat} {s : Bool} {m : Nat} {i : Int} (h : FloatKind.f32.decode x = .number s m i) : ∃ y, fwide (some x) = some y ∧ FinS .f64 y s (m * 2 ^ (i + 1074).toNat) ∧ -149 ≤ i ∧ i ≤ 104 ∧ m < 2 ^ 24 := by
  obtain ⟨h1, h2, h3⟩ := read_num std32 h
  rw [lp32] at h1 h3
  simp only [single] at h2 h3
  have h2 : m < 2 ^ 24 := h2
  rw [fwide_eq]
  refine ⟨_, rfl, ?_, h1, by omega, h2⟩
  show FinS .f64 (FloatKind.f64.encode (FloatKind.f32.decode x)) _ _
  rw [h]
  refine write64 s m i (by omega) (by omega) ?_
  by_cases h0 : m = 0
  · exact .inl h0
  · right
    have := (Nat.log2_lt h0).2 h2
    omega

theorem nearest_scale (f : Format) (s : Bool) (m j : Nat) (i : Int) : f.nearest s (m * 2 ^ j) i = f.nearest s m (i + j) := by
  unfold Format.nearest
  by_cases h0 : m = 0
  · subst h0; simp
  · have hne : m * 2 ^ j ≠ 0 := Nat.mul_ne_zero h0 (Nat.pos_iff_ne_zero.1 (Nat.two_pow_pos j))
    have hl : (m * 2 ^ j).log2 = m.log2 + j := by
      refine (Nat.log2_eq_iff hne).2 ⟨?_, ?_⟩
      · rw [Nat.pow_add]
        exact Nat.mul_le_mul_right _ (Nat.log2_self_le h0)
      · rw [show m.log2 + j + 1 = m.log2 + 1 + j by omega, Nat.pow_add]
        exact Nat.mul_lt_mul_of_pos_right Nat.lt_log2_self (Nat.two_pow_pos j)
    rw [if_neg hne, if_neg h0, hl]
    have e : max (i + ((m.log2 + j : Nat) : Int) - ↑f.fractionBits) f.leastPlace = max (i + ↑j + ↑m.log2 - ↑f.fractionBits) f.leastPlace := by congr 1; omega
    simp only [e]
    generalize max (i + ↑j + ↑m.log2 - ↑f.fractionBits) f.leastPlace = last
    have hk : Toward.even.cut s ((m * 2 ^ j) <<< (i - last).toNat) (last - i).toNat = Toward.even.cut s (m <<< (i + ↑j - last).toNat) (last - (i + ↑j)).toNat := by
      rw [cut_rhe, cut_rhe, Nat.shiftLeft_eq, Nat.shiftLeft_eq]
      by_cases h1 : last ≤ i
      · rw [show (last - i).toNat = 0 by omega, show (last - (i + ↑j)).toNat = 0 by omega, rhe_zero, rhe_zero, Nat.mul_assoc, ← Nat.pow_add]
        congr 2
        omega
      · by_cases h2 : last ≤ i + j
        · rw [show (i - last).toNat = 0 by omega, show (last - (i + ↑j)).toNat = 0 by omega, rhe_zero, Nat.pow_zero, Nat.mul_one]
          have e1 : j = (i + ↑j - last).toNat + (last - i).toNat := by omega
          have := rhe_exact (m * 2 ^ (i + ↑j - last).toNat) (last - i).toNat
          rw [Nat.mul_assoc, ← Nat.pow_add, ← e1] at this
          exact this
        · rw [show (i - last).toNat = 0 by omega, show (i + ↑j - last).toNat = 0 by omega, Nat.pow_zero, Nat.mul_one, Nat.mul_one]
          have e1 : (last - i).toNat = (last - (i + ↑j)).toNat + j := by omega
          rw [e1]
          exact rhe_scale m _ j
    rw [hk]

/-- the size of a number, made whole -/
def R (m : Nat) (i : Int) : Nat := rhe (m * 2 ^ (i + 1074).toNat) 1074

theorem integral_num (s : Bool) (m : Nat) (i : Int) (hi : -1074 ≤ i) : (Datum.number s m i).integral .even = .number s (R m i) 0 := by
  unfold Datum.integral R
  simp only [Datum.number.injEq, true_and, and_true]
  rw [cut_rhe, Nat.shiftLeft_eq]
  by_cases h : 0 ≤ i
  · rw [show (-i).toNat = 0 by omega, rhe_zero, show (i + 1074).toNat = i.toNat + 1074 by omega, Nat.pow_add, ← Nat.mul_assoc, rhe_exact]
  · rw [show i.toNat = 0 by omega, Nat.pow_zero, Nat.mul_one]
    have := rhe_scale m (-i).toNat (i + 1074).toNat
    rw [show (-i).toNat + (i + 1074).toNat = 1074 by omega] at this
    exact this.symm

theorem R_small {m : Nat} {i : Int} (hm : m < 2 ^ 53) (hi : i < 0) (h0 : -1074 ≤ i) : R m i < 2 ^ 53 := by
  unfold R
  have h1 : rhe (m * 2 ^ (i + 1074).toNat) 1074 ≤ rhe (2 ^ 52 * 2 ^ 1074) 1074 := rhe_mono _ (by
    have : m * 2 ^ (i + 1074).toNat ≤ 2 ^ 53 * 2 ^ 1073 := Nat.mul_le_mul (by omega) (Nat.pow_le_pow_right (by omega) (by omega))
    rw [← Nat.pow_add] at this ⊢
    exact this)
  rw [rhe_exact] at h1
  exact Nat.lt_of_le_of_lt h1 (by decide)

/-- rounding a number of double width to a whole one -/
theorem fint_fin {y : Nat} {s : Bool} {A : Nat} (h : FinS .f64 y s A) (hA : A < 2 ^ 1600) : ∃ z, fint .even (some y) = some z ∧ FinS .f64 z s (rhe A 1074 * 2 ^ 1074) := by
  obtain ⟨m, i, h1, h2, rfl⟩ := h
  obtain ⟨_, hm, _⟩ := read_num std64 h1
  have hm : m < 2 ^ 53 := hm
  rw [fint_eq]
  refine ⟨_, rfl, ?_⟩
  show FinS .f64 (FloatKind.f64.encode ((FloatKind.f64.decode y).integral .even)) _ _
  rw [h1, integral_num s m i h2]
  show FinS .f64 _ s (R m i * 2 ^ 1074)
  by_cases hi : i < 0
  · have hr := R_small hm hi h2
    exact write64 s (R m i) 0 hr (by omega) (by
      by_cases h0 : R m i = 0
      · exact .inl h0
      · right
        have := (Nat.log2_lt h0).2 hr
        omega)
  · have hR : R m i = m * 2 ^ i.toNat := by
      unfold R
      rw [show (i + 1074).toNat = i.toNat + 1074 by omega, Nat.pow_add, ← Nat.mul_assoc, rhe_exact]
    rw [hR]
    have e : FloatKind.f64.encode (.number s (m * 2 ^ i.toNat) 0) = FloatKind.f64.encode (.number s m i) := by
      unfold FloatKind.encode Format.write
      simp only
      rw [nearest_scale]
      congr 1
      omega
    rw [e]
    have := write64 s m i hm h2 (by
      by_cases h0 : m = 0
      · exact .inl h0
      · right
        have h5 := (Nat.log2_lt h0).2 hm
        have h6 : 2 ^ (i + 1074).toNat < 2 ^ 1600 := Nat.lt_of_le_of_lt (Nat.le_mul_of_pos_left _ (by omega)) hA
        have h7 := (Nat.pow_lt_pow_iff_right (by omega : 1 < 2)).1 h6
        omega)
    rw [show (i + 1074).toNat = i.toNat + 1074 by omega, Nat.pow_add, ← Nat.mul_assoc] at this
    exact this

theorem cut_zero (s : Bool) (n d : Nat) : Toward.zero.cut s n d = n / 2 ^ d := by
  unfold Toward.cut
  simp only [Nat.one_shiftLeft, Bool.toNat_false, Nat.add_zero]
  by_cases h : d ≤ n.log2 + 2
  · rw [Nat.min_eq_left h]
  · have hlt : n < 2 ^ (n.log2 + 1) := Nat.lt_log2_self
    have h3 : 2 ^ (n.log2 + 2) ≤ 2 ^ d := Nat.pow_le_pow_right (by omega) (by omega)
    have h4 : 2 ^ (n.log2 + 1) ≤ 2 ^ (n.log2 + 2) := Nat.pow_le_pow_right (by omega) (by omega)
    rw [Nat.min_eq_right (by omega), Nat.div_eq_of_lt (by omega), Nat.div_eq_of_lt (by omega)]

/-- a whole number, as an integer -/
theorem toInt_fin {k : FloatKind} {z : Nat} {n : Int} (h : Fin k z (n * U)) : (k.decode z).toInt .zero = some n := by
  obtain ⟨s, m, i, h1, h2, h3⟩ := h
  rw [h1]
  unfold Datum.toInt Datum.integral
  simp only [Option.some.injEq]
  rw [cut_zero, signed_eq, Nat.pow_zero, Nat.mul_one, Nat.shiftLeft_eq]
  have habs : n.natAbs * 2 ^ 1074 = m * 2 ^ (i + 1074).toNat := by
    have := congrArg Int.natAbs h3
    unfold U sg at this
    rw [Int.natAbs_mul, Int.natAbs_mul, Int.natAbs_natCast, Int.natAbs_natCast] at this
    rw [this]
    cases s <;> simp
  have hq : m * 2 ^ i.toNat / 2 ^ (-i).toNat = n.natAbs := by
    by_cases hi : 0 ≤ i
    · rw [show (-i).toNat = 0 by omega, Nat.pow_zero, Nat.div_one]
      rw [show (i + 1074).toNat = i.toNat + 1074 by omega, Nat.pow_add, ← Nat.mul_assoc] at habs
      exact (Nat.eq_of_mul_eq_mul_right (Nat.two_pow_pos 1074) habs).symm
    · rw [show i.toNat = 0 by omega, Nat.pow_zero, Nat.mul_one]
      rw [show 1074 = (-i).toNat + (i + 1074).toNat by omega, Nat.pow_add, ← Nat.mul_assoc] at habs
      have := Nat.eq_of_mul_eq_mul_right (Nat.two_pow_pos _) habs
      rw [← this, Nat.mul_div_cancel _ (Nat.two_pow_pos _)]
  rw [hq]
  have h4 : n * U = (sg s * (n.natAbs : Int)) * U := by
    rw [h3, ← habs]
    unfold U
    rw [Int.natCast_mul, Int.mul_assoc]
  exact (Int.eq_of_mul_eq_mul_right (by have := U_pos; omega) h4).symm

theorem fcmp_inf {k : FloatKind} {x y : Nat} {s : Bool} {b : Int} (hx : k.decode x = .infinity s) (hy : Fin k y b) :
    fcmp .gtr k (some x) (some y) = !s ∧ fcmp .lss k (some x) (some y) = s ∧ fcmp .geq k (some x) (some y) = !s ∧ fcmp .leq k (some x) (some y) = s := by
  obtain ⟨t, n, j, h3, h4, rfl⟩ := hy
  have ho : k.format.order x y = some (if s then .lt else .gt) := by
    unfold Format.order
    unfold FloatKind.decode at hx h3
    rw [hx, h3]
    rfl
  rw [fcmp_eq]
  simp only [fcmpReal, ho]
  cases s <;> exact ⟨rfl, rfl, rfl, rfl⟩
theorem neq_inf {k : FloatKind} {x : Nat} {s : Bool} (hx : k.decode x = .infinity s) : fcmp .neq k (some x) (some x) = false := by
  have ho : k.format.order x x = some .eq := by
    unfold Format.order
    unfold FloatKind.decode at hx
    rw [hx]
    unfold Datum.order
    cases s <;> rfl
  rw [fcmp_eq]
  simp only [fcmpReal, ho]
  rfl
theorem inf64 (s : Bool) : FloatKind.f64.decode (FloatKind.f64.encode (.infinity s)) = .infinity s := by
  cases s <;> decide +kernel

-- the words of the limits
theorem w1 : nrm .f64 4674736138332667904 = some 4674736138332667904 := by decide +kernel
theorem w2 : nrm .f64 13898108450065350656 = some 13898108450065350656 := by decide +kernel
theorem w3 : nrm .f32 1191181824 = some 1191181824 := by decide +kernel
theorem w4 : nrm .f32 3338665984 = some 3338665984 := by decide +kernel
theorem v1 : Fin .f64 4674736138332667904 (32767 * U) := ⟨false, 32767 * 2 ^ 38, -38, by decide +kernel, by decide, by unfold U sg; decide +kernel⟩
theorem v2 : Fin .f64 13898108450065350656 (-32768 * U) := ⟨true, 2 ^ 52, -37, by decide +kernel, by decide, by unfold U sg; decide +kernel⟩
theorem v3 : Fin .f32 1191181824 (32767 * U) := ⟨false, 32767 * 2 ^ 9, -9, by decide +kernel, by decide, by unfold U sg; decide +kernel⟩
theorem v4 : Fin .f32 3338665984 (-32768 * U) := ⟨true, 2 ^ 23, -8, by decide +kernel, by decide, by unfold U sg; decide +kernel⟩

noncomputable def zo (o : Option Nat) : Option Nat := fint .even (fwide o)
noncomputable def cS (o : Option Nat) : Int := cond (fcmp .neq .f32 o o) 0 (cond (fcmp .gtr .f64 (zo o) (nrm .f64 4674736138332667904)) 32767 (cond (fcmp .lss .f64 (zo o) (nrm .f64 13898108450065350656)) (-32768) (ftoI .f64 .i16 (zo o))))
noncomputable def cI (o : Option Nat) : Int := cond (fcmp .neq .f32 o o) 0 (cond (fcmp .geq .f32 o (nrm .f32 1191181824)) 32767 (cond (fcmp .leq .f32 o (nrm .f32 3338665984)) (-32768) (ftoI .f64 .i16 (zo o))))
noncomputable def obS (o : Option Nat) : Bool := cond (fcmp .neq .f32 o o) true (cond (fcmp .gtr .f64 (zo o) (nrm .f64 4674736138332667904)) true (cond (fcmp .lss .f64 (zo o) (nrm .f64 13898108450065350656)) true (ftoIOk .f64 .i16 (zo o))))
noncomputable def obI (o : Option Nat) : Bool := cond (fcmp .neq .f32 o o) true (cond (fcmp .geq .f32 o (nrm .f32 1191181824)) true (cond (fcmp .leq .f32 o (nrm .f32 3338665984)) true (ftoIOk .f64 .i16 (zo o))))

theorem count_ok (o : Option Nat) (ho : o = none ∨ ∃ x, o = some x ∧ (FloatKind.f32.decode x).isNaN = false) : cI o = cS o ∧ obS o = true ∧ obI o = true ∧ -32768 ≤ cS o ∧ cS o ≤ 32767 := by
  rcases ho with rfl | ⟨x, rfl, hx⟩
  · have : fcmp .neq .f32 none none = true := by rw [fcmp_eq]; rfl
    unfold cI cS obS obI
    rw [this]
    exact ⟨rfl, rfl, rfl, by decide, by decide⟩
  · unfold cI cS obS obI
    rw [w1, w2, w3, w4]
    cases hd : FloatKind.f32.decode x with
    | nan s t => rw [hd] at hx; cases hx
    | infinity s =>
      have hz : ∃ z, zo (some x) = some z ∧ FloatKind.f64.decode z = .infinity s := by
        unfold zo
        rw [fint_eq, fwide_eq]
        refine ⟨_, rfl, ?_⟩
        show FloatKind.f64.decode (FloatKind.f64.encode ((FloatKind.f64.decode (FloatKind.f64.encode (FloatKind.f32.decode x))).integral .even)) = _
        rw [hd, inf64]
        exact inf64 s
      obtain ⟨z, hz, hi⟩ := hz
      rw [hz, neq_inf hd, (fcmp_inf hd v3).2.2.1, (fcmp_inf hd v4).2.2.2, (fcmp_inf hi v1).1, (fcmp_inf hi v2).2.1]
      cases s <;> refine ⟨rfl, rfl, rfl, ?_, ?_⟩ <;> simp
    | number s m i =>
      obtain ⟨y, hy, hfy, hi1, hi2, hm⟩ := wide_fin hd
      have hfx : FinS .f32 x s (m * 2 ^ (i + 1074).toNat) := ⟨m, i, hd, by omega, rfl⟩
      have hA : m * 2 ^ (i + 1074).toNat < 2 ^ 1600 := by
        have : m * 2 ^ (i + 1074).toNat ≤ 2 ^ 24 * 2 ^ 1178 := Nat.mul_le_mul (by omega) (Nat.pow_le_pow_right (by omega) (by omega))
        rw [← Nat.pow_add] at this
        exact Nat.lt_of_le_of_lt this (Nat.pow_lt_pow_right (by omega) (by omega))
      obtain ⟨z, hz, hfz⟩ := fint_fin hfy hA
      generalize m * 2 ^ (i + 1074).toNat = A at *
      have hzo : zo (some x) = some z := by unfold zo; rw [hy, hz]
      have hr1 : 32767 * 2 ^ 1074 ≤ A → 32767 ≤ rhe A 1074 := fun h => by have := rhe_mono 1074 h; rwa [rhe_exact] at this
      have hr2 : A ≤ 32767 * 2 ^ 1074 → rhe A 1074 ≤ 32767 := fun h => by have := rhe_mono 1074 h; rwa [rhe_exact] at this
      have hr3 : 32768 * 2 ^ 1074 ≤ A → 32768 ≤ rhe A 1074 := fun h => by have := rhe_mono 1074 h; rwa [rhe_exact] at this
      have hr4 : A ≤ 32768 * 2 ^ 1074 → rhe A 1074 ≤ 32768 := fun h => by have := rhe_mono 1074 h; rwa [rhe_exact] at this
      generalize hr : rhe A 1074 = r at *
      have hfz' : Fin .f64 z ((sg s * (r : Int)) * U) := by
        have := hfz.fin
        rw [Int.natCast_mul, ← Int.mul_assoc] at this
        exact this
      have ht : ftoI .f64 .i16 (some z) = sg s * (r : Int) := by
        rw [ftoI_eq]
        simp only [ftoIReal, toInt_fin hfz']
        rfl
      have hok : -32768 ≤ sg s * (r : Int) → sg s * (r : Int) ≤ 32767 → ftoIOk .f64 .i16 (some z) = true := fun h1 h2 => by
        rw [ftoIOk_eq]
        simp only [ftoIOkReal, toInt_fin hfz']
        exact decide_eq_true ⟨h1, h2⟩
      have hU := U_pos
      have hAU : ∀ c : Nat, (c * 2 ^ 1074 ≤ A ↔ (c : Int) * U ≤ (A : Int)) := fun c => by
        unfold U
        rw [← Int.natCast_mul]
        exact Int.ofNat_le.symm
      have hUA : ∀ c : Nat, (A ≤ c * 2 ^ 1074 ↔ (A : Int) ≤ (c : Int) * U) := fun c => by
        unfold U
        rw [← Int.natCast_mul]
        exact Int.ofNat_le.symm
      have mulU : ∀ a b : Int, (a * U < b * U ↔ a < b) := fun a b => ⟨fun h => Int.lt_of_mul_lt_mul_right h (Int.le_of_lt hU), fun h => Int.mul_lt_mul_of_pos_right h hU⟩
      rw [hzo, (fcmp_fin hfx.fin hfx.fin).2.2.2.2.2, (fcmp_fin hfx.fin v3).2.2.1, (fcmp_fin hfx.fin v4).2.2.2.1, (fcmp_fin hfz' v1).1, (fcmp_fin hfz' v2).2.1, ht]
      have e1 : decide (sg s * (r : Int) * U > 32767 * U) = decide (sg s * (r : Int) > 32767) := by
        congr 1
        exact propext (mulU 32767 _)
      have e2 : decide (sg s * (r : Int) * U < -32768 * U) = decide (sg s * (r : Int) < -32768) := by
        congr 1
        exact propext (mulU _ (-32768))
      rw [e1, e2]
      have q1 := hAU 32767
      have q2 := hUA 32767
      have q3 := hAU 32768
      have q4 := hUA 32768
      have d1 : (32767 : Int) * U = 32767 * U := rfl
      simp only [decide_true, Bool.not_true, cond_false]
      generalize hv : (2 ^ 1074 : Nat) = W at *
      generalize U = u at *
      cases s with
      | false =>
        simp only [sg, Bool.false_eq_true, if_false, Int.one_mul] at *
        by_cases h1 : (A : Int) ≥ 32767 * u
        · rw [decide_eq_true h1]
          have := hr1 (q1.2 h1)
          simp only [cond_true]
          by_cases h2 : (r : Int) > 32767
          · rw [decide_eq_true h2]
            refine ⟨?_, ?_, ?_, ?_, ?_⟩ <;> first | trivial | rfl | omega | simp
          · rw [decide_eq_false h2, decide_eq_false (show ¬ (r : Int) < -32768 by omega)]
            simp only [cond_false]
            exact ⟨by omega, hok (by omega) (by omega), trivial, by omega, by omega⟩
        · rw [decide_eq_false h1]
          have := hr2 (q2.2 (by omega))
          have h3 : ¬ (A : Int) ≤ -32768 * u := by omega
          rw [decide_eq_false h3, decide_eq_false (show ¬ (r : Int) > 32767 by omega), decide_eq_false (show ¬ (r : Int) < -32768 by omega)]
          simp only [cond_false]
          refine ⟨?_, ?_, ?_, ?_, ?_⟩ <;> first | trivial | rfl | omega | exact hok (by omega) (by omega)
      | true =>
        simp only [sg, if_true] at *
        have h1 : ¬ -1 * (A : Int) ≥ 32767 * u := by omega
        rw [decide_eq_false h1, decide_eq_false (show ¬ -1 * (r : Int) > 32767 by omega)]
        simp only [cond_false]
        by_cases h2 : -1 * (A : Int) ≤ -32768 * u
        · rw [decide_eq_true h2]
          have := hr3 (q3.2 (by omega))
          simp only [cond_true]
          by_cases h3 : -1 * (r : Int) < -32768
          · rw [decide_eq_true h3]
            refine ⟨?_, ?_, ?_, ?_, ?_⟩ <;> first | trivial | rfl | omega | simp
          · rw [decide_eq_false h3]
            simp only [cond_false]
            exact ⟨by omega, hok (by omega) (by omega), trivial, by omega, by omega⟩
        · rw [decide_eq_false h2]
          have := hr4 (q4.2 (by omega))
          rw [decide_eq_false (show ¬ -1 * (r : Int) < -32768 by omega)]
          simp only [cond_false]
          refine ⟨?_, ?_, ?_, ?_, ?_⟩ <;> first | trivial | rfl | omega | exact hok (by omega) (by omega)


-- finite numbers
theorem wmax : nrm .f64 9218868437227405311 = some 9218868437227405311 := by decide +kernel
theorem wmin : nrm .f64 18442240474082181119 = some 18442240474082181119 := by decide +kernel
theorem w0 : nrm .f32 0 = some 0 := by decide +kernel
theorem vmax : FinS .f64 9218868437227405311 false ((2 ^ 53 - 1) * 2 ^ 2045) := ⟨2 ^ 53 - 1, 971, by decide +kernel, by decide, by decide +kernel⟩
theorem vmin : FinS .f64 18442240474082181119 true ((2 ^ 53 - 1) * 2 ^ 2045) := ⟨2 ^ 53 - 1, 971, by decide +kernel, by decide, by decide +kernel⟩
theorem v0 : Fin .f32 0 0 := ⟨false, 0, -149, by decide +kernel, by decide, by decide +kernel⟩
/-- by the difference with itself -/
noncomputable def finS (o : Option Nat) : Bool := fcmp .eql .f32 (fop .sub .f32 o o) (some 0)
/-- by the limits of double width -/
noncomputable def finI (o : Option Nat) : Bool := !(cond (fcmp .neq .f64 (fwide o) (fwide o)) true (cond (fcmp .gtr .f64 (fwide o) (some 9218868437227405311)) true (fcmp .lss .f64 (fwide o) (some 18442240474082181119))))
theorem fin_eq (o : Option Nat) (ho : o = none ∨ ∃ x, o = some x ∧ (FloatKind.f32.decode x).isNaN = false) : finI o = finS o := by
  unfold finI finS
  rcases ho with rfl | ⟨x, rfl, hx⟩
  · rw [fcmp_eq, fwide_eq, fop_eq]; rfl
  · cases hd : FloatKind.f32.decode x with
    | nan s t => rw [hd] at hx; cases hx
    | infinity s =>
      have h1 : fop .sub .f32 (some x) (some x) = none := by
        rw [fop_eq]
        show Format.sub _ x x = none
        unfold Format.sub
        unfold FloatKind.decode at hd
        rw [hd]
        cases s <;> rfl
      have hz : ∃ z, fwide (some x) = some z ∧ FloatKind.f64.decode z = .infinity s := by
        rw [fwide_eq]
        refine ⟨_, rfl, ?_⟩
        show FloatKind.f64.decode (FloatKind.f64.encode (FloatKind.f32.decode x)) = _
        rw [hd, inf64]
      obtain ⟨z, hz, hi⟩ := hz
      rw [h1, hz, (fcmp_inf hi vmax.fin).1, (fcmp_inf hi vmin.fin).2.1]
      have h2 : fcmp .eql .f32 none (some 0) = false := by rw [fcmp_eq]; rfl
      rw [h2]
      cases s <;> simp
    | number s m i =>
      obtain ⟨y, hy, hfy, hi1, hi2, hm⟩ := wide_fin hd
      have hA : m * 2 ^ (i + 1074).toNat < 2 ^ 1600 := by
        have : m * 2 ^ (i + 1074).toNat ≤ 2 ^ 24 * 2 ^ 1178 := Nat.mul_le_mul (by omega) (Nat.pow_le_pow_right (by omega) (by omega))
        rw [← Nat.pow_add] at this
        exact Nat.lt_of_le_of_lt this (Nat.pow_lt_pow_right (by omega) (by omega))
      have h1 : fop .sub .f32 (some x) (some x) = some 0 := by
        rw [fop_eq]
        show Format.sub _ x x = some 0
        unfold Format.sub
        unfold FloatKind.decode at hd
        rw [hd]
        simp only [Datum.opposite, Datum.sum, Option.map_some, Option.some.injEq]
        have e : signed s m (i - min i i).toNat + signed (!s) m (i - min i i).toNat = 0 := by
          cases s <;> simp [signed] <;> omega
        rw [e]
        cases s <;> rfl
      rw [h1, hy, (fcmp_fin v0 v0).2.2.2.2.1, (fcmp_fin hfy.fin hfy.fin).2.2.2.2.2, (fcmp_fin hfy.fin vmax.fin).1, (fcmp_fin hfy.fin vmin.fin).2.1]
      have hM : 2 ^ 1600 ≤ (2 ^ 53 - 1) * 2 ^ 2045 := by decide +kernel
      generalize (2 ^ 53 - 1) * 2 ^ 2045 = M at *
      generalize m * 2 ^ (i + 1074).toNat = A at *
      generalize (2 ^ 1600 : Nat) = B at *
      have a1 : ¬ sg s * (A : Int) > sg false * (M : Int) := by cases s <;> simp only [sg, Bool.false_eq_true, if_false, if_true] <;> omega
      have a2 : ¬ sg s * (A : Int) < sg true * (M : Int) := by cases s <;> simp only [sg, Bool.false_eq_true, if_false, if_true] <;> omega
      rw [decide_eq_false a1, decide_eq_false a2]
      simp


-- the size of a number, by its bits
theorem andNot63 {n : Nat} (hn : n < 2 ^ 64) : bitsOp .andNot .u64 (n : Int) 9223372036854775808 = ((n % 2 ^ 63 : Nat) : Int) := by
  rw [bitsOp_eq]
  unfold bitsReal
  have hb : IntKind.u64.bits = 64 := rfl
  simp only
  show IntKind.u64.wrap ((BitVec.ofInt 64 (n : Int) &&& ~~~BitVec.ofInt 64 9223372036854775808).toNat : Nat) = _
  have e : ~~~BitVec.ofInt 64 9223372036854775808 = BitVec.ofNat 64 (2 ^ 63 - 1) := by decide
  rw [e, BitVec.toNat_and, BitVec.ofInt_natCast, BitVec.toNat_ofNat, BitVec.toNat_ofNat, Nat.mod_eq_of_lt hn, Nat.mod_eq_of_lt (by decide : 2 ^ 63 - 1 < 2 ^ 64), Nat.and_two_pow_sub_one_eq_mod]
  have hlt : n % 2 ^ 63 < 2 ^ 63 := Nat.mod_lt _ (by decide)
  generalize n % 2 ^ 63 = r at hlt
  have h2 : r < 9223372036854775808 := hlt
  exact IntWalk.u64_in (r : Int) ⟨by omega, by omega⟩

theorem read_abs {y : Nat} : (∀ s m i, FloatKind.f64.decode y = .number s m i → FloatKind.f64.decode (y % 2 ^ 63) = .number false m i) ∧ (∀ s, FloatKind.f64.decode y = .infinity s → FloatKind.f64.decode (y % 2 ^ 63) = .infinity false) := by
  have hw : double.signWeight = 2 ^ 63 := by decide
  have e : ∀ d, FloatKind.f64.decode y = d → FloatKind.f64.decode (y % 2 ^ 63) = match d with | .number _ m i => .number false m i | .infinity _ => .infinity false | .nan _ t => .nan false t := fun d hd => by
    subst hd
    unfold FloatKind.decode
    show double.read (y % 2 ^ 63) = match double.read y with | .number _ m i => .number false m i | .infinity _ => .infinity false | .nan _ t => .nan false t
    unfold Format.read
    simp only [hw]
    have h0 : y % 2 ^ 63 / 2 ^ 63 = 0 := Nat.div_eq_of_lt (Nat.mod_lt _ (by decide))
    rw [h0, Nat.mod_mod]
    generalize y % 2 ^ 63 = r
    by_cases h1 : r < double.binade
    · simp only [if_pos h1]; rfl
    · by_cases h2 : r < double.infRung
      · simp only [if_neg h1, if_pos h2]; rfl
      · by_cases h3 : r = double.infRung
        · simp only [if_neg h1, if_neg h2, if_pos h3]; rfl
        · simp only [if_neg h1, if_neg h2, if_neg h3]; rfl
  exact ⟨fun s m i h => e _ h, fun s h => e _ h⟩

/-- by the limit of double width, of the size -/
noncomputable def finA (o : Option Nat) : Bool := !(cond (fcmp .neq .f64 (fwide o) (fwide o)) true (fcmp .gtr .f64 (ffrom .f64 (bitsOp .andNot .u64 (fbits (fwide o)) 9223372036854775808)) (some 9218868437227405311)))
theorem finA_eq (o : Option Nat) (ho : o = none ∨ ∃ x, o = some x ∧ (FloatKind.f32.decode x).isNaN = false) : finA o = finS o := by
  rw [← fin_eq o ho]
  unfold finA finI
  rcases ho with rfl | ⟨x, rfl, hx⟩
  · have h1 : fwide none = none := by rw [fwide_eq]; rfl
    have h2 : fcmp .neq .f64 none none = true := by rw [fcmp_eq]; rfl
    rw [h1, h2]
    rfl
  · cases hd : FloatKind.f32.decode x with
    | nan s t => rw [hd] at hx; cases hx
    | infinity s =>
      have hz : ∃ z, fwide (some x) = some z ∧ FloatKind.f64.decode z = .infinity s ∧ z < 2 ^ 64 := by
        rw [fwide_eq]
        refine ⟨_, rfl, ?_, Format.write_lt double _⟩
        show FloatKind.f64.decode (FloatKind.f64.encode (FloatKind.f32.decode x)) = _
        rw [hd, inf64]
      obtain ⟨z, hz, hi, hlt⟩ := hz
      have hab := read_abs.2 s hi
      have hf : ffrom .f64 (bitsOp .andNot .u64 (fbits (some z)) 9223372036854775808) = some (z % 2 ^ 63) := by
        rw [show fbits (some z) = (z : Int) from rfl, andNot63 hlt, ffrom_eq]
        show nrm .f64 (z % 2 ^ 63) = _
        unfold nrm
        rw [hab]
        rfl
      rw [hz, hf, (fcmp_inf hab vmax.fin).1, (fcmp_inf hi vmax.fin).1, (fcmp_inf hi vmin.fin).2.1]
      cases s <;> simp
    | number s m i =>
      obtain ⟨y, hy, hfy, hi1, hi2, hm⟩ := wide_fin hd
      have hlt : y < 2 ^ 64 := by
        rw [fwide_eq] at hy
        have : FloatKind.f64.encode (FloatKind.f32.decode x) = y := Option.some.inj hy
        rw [← this]
        exact Format.write_lt double _
      obtain ⟨m', i', g1, g2, g3⟩ := hfy
      have hab := read_abs.1 s m' i' g1
      have hf : ffrom .f64 (bitsOp .andNot .u64 (fbits (some y)) 9223372036854775808) = some (y % 2 ^ 63) := by
        rw [show fbits (some y) = (y : Int) from rfl, andNot63 hlt, ffrom_eq]
        show nrm .f64 (y % 2 ^ 63) = _
        unfold nrm
        rw [hab]
        rfl
      have hfy : FinS .f64 y s (m * 2 ^ (i + 1074).toNat) := ⟨m', i', g1, g2, g3⟩
      have hfa : FinS .f64 (y % 2 ^ 63) false (m * 2 ^ (i + 1074).toNat) := ⟨m', i', hab, g2, g3⟩
      rw [hy, hf, (fcmp_fin hfa.fin vmax.fin).1, (fcmp_fin hfy.fin vmax.fin).1, (fcmp_fin hfy.fin vmin.fin).2.1, (fcmp_fin hfy.fin hfy.fin).2.2.2.2.2]
      generalize (2 ^ 53 - 1) * 2 ^ 2045 = M at *
      generalize m * 2 ^ (i + 1074).toNat = A at *
      simp only [decide_true, Bool.not_true, cond_false]
      congr 1
      cases s
      · by_cases h : sg false * (A : Int) > sg false * (M : Int)
        · rw [decide_eq_true h]; rfl
        · rw [decide_eq_false h, decide_eq_false]
          · rfl
          · simp only [sg, Bool.false_eq_true, if_false, if_true] at *; omega
      · by_cases h : sg false * (A : Int) > sg false * (M : Int)
        · rw [decide_eq_true h, decide_eq_false, decide_eq_true]
          · rfl
          · simp only [sg, Bool.false_eq_true, if_false, if_true] at *; omega
          · simp only [sg, Bool.false_eq_true, if_false, if_true] at *; omega
        · rw [decide_eq_false h, decide_eq_false, decide_eq_false]
          · rfl
          · simp only [sg, Bool.false_eq_true, if_false, if_true] at *; omega
          · simp only [sg, Bool.false_eq_true, if_false, if_true] at *; omega

end Go.Sx.Fl
