/- The order of narrow numbers by whole numbers; least and greatest ones, and what lies between them. -/
import Derived.Test.YtpnjimpiphbcfaaSxFr
set_option linter.unusedVariables false
set_option linter.unusedSimpArgs false
set_option exponentiation.threshold 3000
namespace Go.Sx.Fl
open Ieee

/-- a word that is a number or infinite -/
def Wd (x : Nat) : Prop := x < 2 ^ 32 ∧ (FloatKind.f32.decode x).isNaN = false
def sgn (x : Nat) : Bool := decide (2147483648 ≤ x)
def rung (x : Nat) : Nat := x % 2147483648
/-- where a word stands -/
def key (x : Nat) : Int := sg (sgn x) * (rung x : Int)

theorem word_of {x : Nat} (h : x < 2 ^ 32) : x = single.word (sgn x) (rung x) := by
  unfold Format.word sgn rung
  rw [sw32]
  by_cases h1 : 2147483648 ≤ x
  · rw [if_pos (decide_eq_true h1)]; omega
  · rw [if_neg (by simp [h1])]; omega
theorem wd_read {x : Nat} (h : Wd x) : (rung x < single.infRung ∧ FinS .f32 x (sgn x) (valR 23 925 (rung x))) ∨ (rung x = single.infRung ∧ FloatKind.f32.decode x = .infinity (sgn x)) := by
  have hw := word_of h.1
  have hr : rung x < single.signWeight := by rw [sw32]; exact Nat.mod_lt _ (by decide)
  rcases Nat.lt_trichotomy (rung x) single.infRung with h1 | h1 | h1
  · left
    have := read_rung (sgn x) h1
    rw [← hw] at this
    exact ⟨h1, this⟩
  · right
    refine ⟨h1, ?_⟩
    have := read_word single (sgn x) (rung x) hr
    rw [← hw, if_neg (by rw [h1, infRung32, bin32]; omega), if_neg (by omega), if_pos h1] at this
    exact this
  · have := read_word single (sgn x) (rung x) hr
    rw [← hw, if_neg (by rw [infRung32] at h1; rw [bin32]; omega), if_neg (by omega), if_neg (by omega)] at this
    have hn := h.2
    unfold FloatKind.decode at hn
    rw [show FloatKind.f32.format = single from rfl, this] at hn
    cases hn
theorem valR_lt {r q : Nat} (h : r < q) : valR 23 925 r < valR 23 925 q := by
  rcases Nat.lt_or_ge (valR 23 925 r) (valR 23 925 q) with h1 | h1
  · exact h1
  · have h2 : gR 23 925 (r + q) (valR 23 925 q) ≤ gR 23 925 (r + q) (valR 23 925 r) := gR_mono h1
    rw [gR_val (by omega), gR_val (by omega)] at h2
    omega
theorem valR_zero : valR 23 925 0 = 0 := by decide
theorem cmp_iff {a b c d : Int} (h1 : a < b ↔ c < d) (h2 : a = b ↔ c = d) : compare a b = compare c d := by
  simp only [compare, compareOfLessAndEq, h1, h2]
theorem val_key (s t : Bool) (r q : Nat) : compare (sg s * (valR 23 925 r : Int)) (sg t * (valR 23 925 q : Int)) = compare (sg s * (r : Int)) (sg t * (q : Int)) := by
  have hr : 0 < r → 0 < valR 23 925 r := fun h => by have := valR_lt h; rw [valR_zero] at this; exact this
  have hq : 0 < q → 0 < valR 23 925 q := fun h => by have := valR_lt h; rw [valR_zero] at this; exact this
  have h0r : r = 0 → valR 23 925 r = 0 := fun h => by rw [h]; exact valR_zero
  have h0q : q = 0 → valR 23 925 q = 0 := fun h => by rw [h]; exact valR_zero
  have hlt : r < q → valR 23 925 r < valR 23 925 q := valR_lt
  have hgt : q < r → valR 23 925 q < valR 23 925 r := valR_lt
  have heq : r = q → valR 23 925 r = valR 23 925 q := fun h => by rw [h]
  generalize valR 23 925 r = A at *
  generalize valR 23 925 q = B at *
  apply cmp_iff
  · cases s <;> cases t <;> simp only [sg, if_true, Bool.false_eq_true, if_false] <;> omega
  · cases s <;> cases t <;> simp only [sg, if_true, Bool.false_eq_true, if_false] <;> omega
/-- the order is that of the whole numbers -/
theorem order_key {x y : Nat} (hx : Wd x) (hy : Wd y) : FloatKind.f32.format.order x y = some (compare (key x) (key y)) := by
  have hi := infRung32
  unfold Format.order key
  rcases wd_read hx with ⟨h1, m, i, a1, a2, a3⟩ | ⟨h1, a1⟩
  · rcases wd_read hy with ⟨h2, n, j, b1, b2, b3⟩ | ⟨h2, b1⟩
    · unfold FloatKind.decode at a1 b1
      rw [a1, b1, order_num _ _ _ _ _ _ a2 b2, ← a3, ← b3, val_key]
    · unfold FloatKind.decode at a1 b1
      rw [a1, b1, h2]
      show some (if sgn y then Ordering.gt else Ordering.lt) = _
      congr 1
      cases hs : sgn y <;> cases ht : sgn x <;> simp only [sg, if_true, Bool.false_eq_true, if_false] <;> simp only [compare, compareOfLessAndEq] <;> (split <;> first | rfl | omega | (split <;> first | rfl | omega))
  · rcases wd_read hy with ⟨h2, n, j, b1, b2, b3⟩ | ⟨h2, b1⟩
    · unfold FloatKind.decode at a1 b1
      rw [a1, b1, h1]
      show some (if sgn x then Ordering.lt else Ordering.gt) = _
      congr 1
      cases hs : sgn y <;> cases ht : sgn x <;> simp only [sg, if_true, Bool.false_eq_true, if_false] <;> simp only [compare, compareOfLessAndEq] <;> (split <;> first | rfl | omega | (split <;> first | rfl | omega))
    · unfold FloatKind.decode at a1 b1
      rw [a1, b1, h1, h2]
      show some (compare (sgn y).toNat (sgn x).toNat) = _
      cases hs : sgn y <;> cases ht : sgn x <;> rw [hi] <;> decide
theorem key_inj {x y : Nat} (hx : x < 2 ^ 32) (hy : y < 2 ^ 32) (h : key x = key y) (h0 : key x ≠ 0) : x = y := by
  unfold key sgn rung at *
  by_cases h1 : 2147483648 ≤ x <;> by_cases h2 : 2147483648 ≤ y <;> simp only [h1, h2, decide_true, decide_false, sg, if_true, Bool.false_eq_true, if_false] at h h0 <;> omega
theorem key_zero {x : Nat} (hx : x < 2 ^ 32) (h : key x = 0) : x = 0 ∨ x = 2147483648 := by
  unfold key sgn rung at *
  by_cases h1 : 2147483648 ≤ x <;> simp only [h1, decide_true, decide_false, sg, if_true, Bool.false_eq_true, if_false] at h <;> omega

theorem fcmp_key {x y : Nat} (hx : Wd x) (hy : Wd y) : fcmp .lss .f32 (some x) (some y) = decide (key x < key y) ∧ fcmp .gtr .f32 (some x) (some y) = decide (key x > key y) := by
  rw [fcmp_eq]
  simp only [fcmpReal, order_key hx hy]
  exact ⟨cmp_lt _ _, cmp_gt _ _⟩
theorem neg_sgn {x : Nat} (hx : Wd x) : (FloatKind.f32.decode x).neg = sgn x := by
  rcases wd_read hx with ⟨_, m, i, a1, _, _⟩ | ⟨_, a1⟩ <;> rw [a1] <;> rfl
theorem fmin_key {x y : Nat} (hx : Wd x) (hy : Wd y) : fmin2 .f32 (some x) (some y) = some (if key x < key y then x else if key x > key y then y else if sgn x then x else y) := by
  rw [fmin2_eq]
  simp only [fmin2Real, order_key hx hy, neg_sgn hx]
  simp only [compare, compareOfLessAndEq]
  by_cases h1 : key x < key y
  · simp only [h1, if_true]
  · by_cases h2 : key x = key y
    · simp only [h1, h2, if_false, if_true, Int.lt_irrefl, gt_iff_lt]
    · have h3 : key x > key y := by omega
      simp only [h1, h2, h3, if_false, if_true]
theorem fmax_key {x y : Nat} (hx : Wd x) (hy : Wd y) : fmax2 .f32 (some x) (some y) = some (if key x < key y then y else if key x > key y then x else if sgn x then y else x) := by
  rw [fmax2_eq]
  simp only [fmax2Real, order_key hx hy, neg_sgn hx]
  simp only [compare, compareOfLessAndEq]
  by_cases h1 : key x < key y
  · simp only [h1, if_true]
  · by_cases h2 : key x = key y
    · simp only [h1, h2, if_false, if_true, Int.lt_irrefl, gt_iff_lt]
    · have h3 : key x > key y := by omega
      simp only [h1, h2, h3, if_false, if_true]

/-- nought of either sign, and what is not nought -/
theorem sub_zero_l {y : Nat} (hy : Wd y) (h0 : key y ≠ 0) : fop .sub .f32 (some 0) (some y) = fop .sub .f32 (some 2147483648) (some y) := by
  rw [fop_eq]
  show single.sub 0 y = single.sub 2147483648 y
  unfold Format.sub
  have r0 : single.read 0 = .number false 0 (-149) := by decide +kernel
  have r1 : single.read 2147483648 = .number true 0 (-149) := by decide +kernel
  rw [r0, r1]
  rcases wd_read hy with ⟨_, n, j, b1, b2, b3⟩ | ⟨_, b1⟩
  · have hb : single.read y = .number (sgn y) n j := b1
    rw [hb]
    unfold Datum.opposite Datum.sum
    simp only [Option.map_some]
    have hn : n ≠ 0 := fun h => by
      subst h
      rw [Nat.zero_mul] at b3
      have : rung y = 0 := by
        rcases Nat.eq_zero_or_pos (rung y) with h | h
        · exact h
        · have := valR_lt h; rw [valR_zero, b3] at this; omega
      exact h0 (by unfold key; rw [this]; simp)
    have ht : ∀ (s : Bool) (k : Nat), signed s 0 k + signed (!sgn y) n (j - min (-149) j).toNat ≠ 0 := fun s k => by
      rw [signed_eq, signed_eq]
      have hp : 0 < n * 2 ^ (j - min (-149) j).toNat := Nat.mul_pos (by omega) (Nat.two_pow_pos _)
      cases s <;> cases sgn y <;> simp only [Bool.not_true, Bool.not_false, if_true, Bool.false_eq_true, if_false, Nat.zero_mul] <;> omega
    have e : ∀ k, signed false 0 k = signed true 0 k := fun k => by rw [signed_eq, signed_eq]; simp
    rw [if_neg (ht _ _), if_neg (ht _ _), e]
  · have hb : single.read y = .infinity (sgn y) := b1
    rw [hb]
    rfl
theorem sub_zero_r {x : Nat} (hx : Wd x) (h0 : key x ≠ 0) : fop .sub .f32 (some x) (some 0) = fop .sub .f32 (some x) (some 2147483648) := by
  rw [fop_eq]
  show single.sub x 0 = single.sub x 2147483648
  unfold Format.sub
  have r0 : single.read 0 = .number false 0 (-149) := by decide +kernel
  have r1 : single.read 2147483648 = .number true 0 (-149) := by decide +kernel
  rw [r0, r1]
  rcases wd_read hx with ⟨_, n, j, b1, b2, b3⟩ | ⟨_, b1⟩
  · have hb : single.read x = .number (sgn x) n j := b1
    rw [hb]
    unfold Datum.opposite Datum.sum
    simp only [Option.map_some, Bool.not_false, Bool.not_true]
    have hn : n ≠ 0 := fun h => by
      subst h
      rw [Nat.zero_mul] at b3
      have : rung x = 0 := by
        rcases Nat.eq_zero_or_pos (rung x) with h | h
        · exact h
        · have := valR_lt h; rw [valR_zero, b3] at this; omega
      exact h0 (by unfold key; rw [this]; simp)
    have ht : ∀ (s : Bool) (k : Nat), signed (sgn x) n (j - min j (-149)).toNat + signed s 0 k ≠ 0 := fun s k => by
      rw [signed_eq, signed_eq]
      have hp : 0 < n * 2 ^ (j - min j (-149)).toNat := Nat.mul_pos (by omega) (Nat.two_pow_pos _)
      cases s <;> cases sgn x <;> simp only [if_true, Bool.false_eq_true, if_false, Nat.zero_mul] <;> omega
    have e : ∀ k, signed true 0 k = signed false 0 k := fun k => by rw [signed_eq, signed_eq]; simp
    rw [if_neg (ht _ _), if_neg (ht _ _), e]
  · have hb : single.read x = .infinity (sgn x) := b1
    rw [hb]
    rfl

/-- the least and the greatest, kept in two ways; what is told of them -/
structure Ends (mS lS mI lI : Nat) : Prop where
  wm : Wd mS
  wl : Wd lS
  wmI : Wd mI
  wlI : Wd lI
  km : key mI = key mS
  kl : key lI = key lS
  le : key lS ≤ key mS
  z : key mS = 0 → key lS = 0 → mS = lS
  n : ¬(mI = 2147483648 ∧ lI = 0)
theorem Ends.start {a : Nat} (h : Wd a) : Ends a a a a := ⟨h, h, h, h, rfl, rfl, Int.le_refl _, fun _ _ => rfl, fun ⟨h1, h2⟩ => by omega⟩
theorem sgn_zero : sgn 0 = false := rfl
theorem sgn_negz : sgn 2147483648 = true := rfl
theorem Ends.step {mS lS mI lI a : Nat} (h : Ends mS lS mI lI) (ha : Wd a) :
    Ends (if key a > key mS then a else mS) (if key a < key lS then a else lS)
      (if key mI < key a then a else if key mI > key a then mI else if sgn mI then a else mI) (if key lI < key a then lI else if key lI > key a then a else if sgn lI then lI else a) := by
  obtain ⟨wm, wl, wmI, wlI, km, kl, le, z, n⟩ := h
  have z0 : key 0 = 0 := by decide
  have z1 : key 2147483648 = 0 := by decide
  refine ⟨?_, ?_, ?_, ?_, ?_, ?_, ?_, ?_, ?_⟩
  · split <;> assumption
  · split <;> assumption
  · (repeat' split) <;> assumption
  · (repeat' split) <;> assumption
  · (repeat' split) <;> omega
  · (repeat' split) <;> omega
  · split <;> split <;> omega
  · intro h1 h2
    split at h1 <;> split at h2 <;> first | omega | skip
    rw [if_neg (by assumption), if_neg (by assumption)]
    exact z h1 h2
  · rintro ⟨h1, h2⟩
    split at h1
    · subst h1
      split at h2
      · subst h2; omega
      · split at h2
        · cases h2
        · split at h2
          · subst h2; omega
          · cases h2
    · split at h1
      · subst h1
        split at h2
        · subst h2; exact n ⟨rfl, rfl⟩
        · split at h2
          · subst h2; omega
          · split at h2
            · subst h2; exact n ⟨rfl, rfl⟩
            · subst h2; omega
      · split at h1
        · subst h1
          split at h2
          · subst h2; omega
          · split at h2
            · cases h2
            · split at h2
              · rename_i hs
                subst h2; cases hs
              · cases h2
        · rename_i hs
          subst h1
          exact hs sgn_negz
/-- what lies between them is the same -/
theorem Ends.spread {mS lS mI lI : Nat} (h : Ends mS lS mI lI) : fop .sub .f32 (some mI) (some lI) = fop .sub .f32 (some mS) (some lS) := by
  obtain ⟨wm, wl, wmI, wlI, km, kl, le, z, n⟩ := h
  by_cases h1 : key mS = 0
  · by_cases h2 : key lS = 0
    · have e := z h1 h2
      subst e
      have c1 := key_zero wm.1 h1
      have c2 := key_zero wmI.1 (by omega)
      have c3 := key_zero wlI.1 (by omega)
      rw [fop_eq]
      rcases c1 with rfl | rfl <;> rcases c2 with rfl | rfl <;> rcases c3 with rfl | rfl <;> first | (exact absurd ⟨rfl, rfl⟩ n) | decide +kernel
    · have e : lI = lS := key_inj wlI.1 wl.1 kl (by omega)
      subst e
      have c1 := key_zero wm.1 h1
      have c2 := key_zero wmI.1 (by omega)
      have hz := sub_zero_l wlI (by omega)
      rcases c1 with rfl | rfl <;> rcases c2 with rfl | rfl <;> first | rfl | exact hz | exact hz.symm
  · have e : mI = mS := key_inj wmI.1 wm.1 km (by omega)
    subst e
    by_cases h2 : key lS = 0
    · have c1 := key_zero wl.1 h2
      have c2 := key_zero wlI.1 (by omega)
      have hz := sub_zero_r wmI (by omega)
      rcases c1 with rfl | rfl <;> rcases c2 with rfl | rfl <;> first | rfl | exact hz | exact hz.symm
    · have e : lI = lS := key_inj wlI.1 wl.1 kl (by omega)
      subst e
      rfl

-- what the operations give is a number or infinite
theorem gR_inf (X : Nat) : g32 X ≤ single.infRung := gR_le _ _ _ _
theorem word_wd (s : Bool) {r : Nat} (h : r ≤ single.infRung) : Wd (single.word s r) := by
  have hr : r < single.signWeight := Nat.lt_of_le_of_lt h (inf_lt single)
  constructor
  · unfold Format.word
    rw [sw32] at hr ⊢
    split <;> omega
  · have := read_word single s r hr
    unfold FloatKind.decode
    rw [show FloatKind.f32.format = single from rfl, this]
    split
    · rfl
    · split
      · rfl
      · rw [if_pos (by omega)]; rfl
theorem write_wd {d : Datum} (h : d.isNaN = false) : Wd (single.write d) := by
  cases d with
  | nan s t => cases h
  | infinity s => exact word_wd s (Nat.le_refl _)
  | number s m i =>
    show Wd (single.nearest s m i)
    unfold Format.nearest
    split
    · exact word_wd s (Nat.zero_le _)
    · exact word_wd s (Nat.min_le_right _ _)
theorem sum_nn {a b d : Datum} (h : a.sum b = some d) : d.isNaN = false := by
  unfold Datum.sum at h
  split at h <;> first | cases h | skip
  · split at h
    · cases h; rfl
    · cases h
  all_goals rfl
theorem product_nn {a b d : Datum} (h : a.product b = some d) : d.isNaN = false := by
  unfold Datum.product at h
  split at h <;> (try split at h) <;> first | (cases h; done) | (cases h; rfl)
theorem quotient_nn {k : Nat} {a b d : Datum} (h : a.quotient k b = some d) : d.isNaN = false := by
  unfold Datum.quotient at h
  split at h <;> (try split at h) <;> (try split at h) <;> first | (cases h; done) | (cases h; rfl)
theorem fop_wd {op : BinOp} {a b : Option Nat} {z : Nat} (h : fop op .f32 a b = some z) : Wd z := by
  rw [fop_eq] at h
  unfold fopReal at h
  split at h
  · split at h
    · obtain ⟨d, h1, h2⟩ := Option.map_eq_some_iff.1 h
      rw [← h2]; exact write_wd (sum_nn h1)
    · obtain ⟨d, h1, h2⟩ := Option.map_eq_some_iff.1 h
      rw [← h2]; exact write_wd (sum_nn h1)
    · obtain ⟨d, h1, h2⟩ := Option.map_eq_some_iff.1 h
      rw [← h2]; exact write_wd (product_nn h1)
    · obtain ⟨d, h1, h2⟩ := Option.map_eq_some_iff.1 h
      rw [← h2]; exact write_wd (quotient_nn h1)
    · cases h
  · cases h

/-- a product of two numbers is there; so is the quotient of a number by what is not nought -/
theorem fofI_num (n : Int) : ∃ x, fofI .f32 n = some x ∧ Wd x ∧ (n.natAbs ≤ 2 ^ 24 → FinS .f32 x (decide (n < 0)) (n.natAbs * 2 ^ 1074)) := by
  rw [fofI_eq]
  have hw : Wd (single.write (.number (decide (n < 0)) n.natAbs 0)) := write_wd rfl
  refine ⟨single.write (.number (decide (n < 0)) n.natAbs 0), rfl, hw, fun h => ?_⟩
  have e : n.natAbs * 2 ^ ((0 : Int) + 1074).toNat = n.natAbs * 2 ^ 1074 := rfl
  have := write32 (decide (n < 0)) n.natAbs 0 (by decide) (by rw [e]; exact (rep_nat h).2)
  rw [e, (rep_nat h).1] at this
  exact this
theorem mul_num {x y : Nat} {s t : Bool} {A B : Nat} (hx : FinS .f32 x s A) (hy : FinS .f32 y t B) : ∃ Z, A * B = Z * 2 ^ 1074 ∧ ∃ z, fop .mul .f32 (some x) (some y) = some z ∧ Wd z ∧ z = single.word (s ^^ t) (g32 Z) := by
  obtain ⟨m, i, h1, h2, rfl⟩ := hx
  obtain ⟨n, j, k1, k2, rfl⟩ := hy
  have hx : single.read x = .number s m i := h1
  have hy : single.read y = .number t n j := k1
  obtain ⟨p1, p2, p3⟩ := fin_place hx
  obtain ⟨q1, q2, q3⟩ := fin_place hy
  have hv : m * 2 ^ (i + 1074).toNat * (n * 2 ^ (j + 1074).toNat) = (m * n) * 2 ^ (i + j + 1074).toNat * 2 ^ 1074 := by
    rw [Nat.mul_assoc (m * n), ← Nat.pow_add, show (i + j + 1074).toNat + 1074 = (i + 1074).toNat + (j + 1074).toNat by omega, Nat.pow_add]
    simp only [Nat.mul_assoc, Nat.mul_left_comm]
  refine ⟨_, hv, ?_⟩
  have hm : fop .mul .f32 (some x) (some y) = some (single.write (.number (s ^^ t) (m * n) (i + j))) := by
    rw [fop_eq]
    show single.mul x y = _
    unfold Format.mul
    rw [hx, hy]
    rfl
  refine ⟨_, hm, fop_wd hm, ?_⟩
  show single.nearest _ _ _ = _
  rw [nearest_gR single _ _ _ 1074 (by omega) (by rw [lp32]; omega), leastK]
  rfl
theorem quo_num {x y : Nat} {s : Bool} {A : Nat} (hx : FinS .f32 x s A) (hy : Wd y) (h0 : key y ≠ 0) : ∃ z, fop .quo .f32 (some x) (some y) = some z ∧ Wd z := by
  obtain ⟨m, i, h1, h2, rfl⟩ := hx
  have hx : single.read x = .number s m i := h1
  have key : ∃ z, fop .quo .f32 (some x) (some y) = some z := by
    rw [fop_eq]
    show ∃ z, single.div x y = some z
    unfold Format.div
    rw [hx]
    rcases wd_read hy with ⟨_, n, j, b1, b2, b3⟩ | ⟨_, b1⟩
    · have hb : single.read y = .number (sgn y) n j := b1
      have hn : n ≠ 0 := fun h => by
        subst h
        rw [Nat.zero_mul] at b3
        have : rung y = 0 := by
          rcases Nat.eq_zero_or_pos (rung y) with h | h
          · exact h
          · have := valR_lt h; rw [valR_zero, b3] at this; omega
        exact h0 (by unfold Fl.key; rw [this]; simp)
      rw [hb]
      unfold Datum.quotient
      simp only
      rw [if_neg hn]
      exact ⟨_, rfl⟩
    · have hb : single.read y = .infinity (sgn y) := b1
      rw [hb]
      exact ⟨_, rfl⟩
  obtain ⟨z, hz⟩ := key
  exact ⟨z, hz, fop_wd hz⟩
/-- a whole number from 1 on times what is above nought is not nought -/
theorem mul_pos {x y : Nat} {A : Nat} (hx : FinS .f32 x false A) (hA : 2 ^ 1074 ≤ A) (hy : Wd y) (h0 : 0 < key y) : ∃ z, fop .mul .f32 (some x) (some y) = some z ∧ Wd z ∧ key z ≠ 0 := by
  have hs : sgn y = false := by
    cases h : sgn y with
    | false => rfl
    | true => unfold key at h0; rw [h] at h0; simp only [sg, if_true] at h0; omega
  rcases wd_read hy with ⟨hr, hfy⟩ | ⟨hr, b1⟩
  · obtain ⟨Z, hZ, z, h1, h2, h3⟩ := mul_num hx hfy
    refine ⟨z, h1, h2, ?_⟩
    have hpos : 0 < rung y := by
      rcases Nat.eq_zero_or_pos (rung y) with h | h
      · unfold key at h0; rw [h] at h0; simp at h0
      · exact h
    have hle : valR 23 925 (rung y) ≤ Z := by
      have : 2 ^ 1074 * valR 23 925 (rung y) ≤ A * valR 23 925 (rung y) := Nat.mul_le_mul_right _ hA
      rw [hZ, Nat.mul_comm (2 ^ 1074)] at this
      exact Nat.le_of_mul_le_mul_right this (Nat.two_pow_pos _)
    have hg : rung y ≤ g32 Z := by
      have h4 : gR 23 925 single.infRung (valR 23 925 (rung y)) ≤ g32 Z := gR_mono hle
      rw [gR_val (Nat.le_of_lt hr)] at h4
      exact h4
    have hi := gR_inf Z
    rw [infRung32] at hi
    rw [h3, hs]
    show key (single.word false (g32 Z)) ≠ 0
    unfold Format.word key sgn rung
    simp only [Bool.false_eq_true, if_false]
    rw [decide_eq_false (by omega)]
    simp only [sg, Bool.false_eq_true, if_false]
    omega
  · obtain ⟨m, i, h1, h2, rfl⟩ := hx
    have hxr : single.read x = .number false m i := h1
    have hb : single.read y = .infinity (sgn y) := b1
    have hm : m ≠ 0 := fun h => by subst h; rw [Nat.zero_mul] at hA; exact absurd hA (by have := Nat.two_pow_pos 1074; omega)
    have hz : fop .mul .f32 (some x) (some y) = some (single.write (.infinity (false ^^ sgn y))) := by
      rw [fop_eq]
      show single.mul x y = _
      unfold Format.mul
      rw [hxr, hb]
      unfold Datum.product
      simp only [hm, if_false]
      rw [Bool.xor_comm]
      rfl
    refine ⟨_, hz, fop_wd hz, ?_⟩
    rw [hs]
    decide
end Go.Sx.Fl
