/- Rounding keeps the order: numbers that are not negative, by what they are worth in units of `2 ^ -1074`. -/
import Derived.Test.YtpnjimpiphbcfaaSxFc
set_option linter.unusedVariables false
set_option linter.unusedSimpArgs false
set_option exponentiation.threshold 3000
namespace Go.Sx.Fl
open Ieee

theorem log2_mul_pow {m : Nat} (h0 : m ≠ 0) (j : Nat) : (m * 2 ^ j).log2 = m.log2 + j := by
  have hne : m * 2 ^ j ≠ 0 := Nat.mul_ne_zero h0 (Nat.pos_iff_ne_zero.1 (Nat.two_pow_pos j))
  refine (Nat.log2_eq_iff hne).2 ⟨?_, ?_⟩
  · rw [Nat.pow_add]
    exact Nat.mul_le_mul_right _ (Nat.log2_self_le h0)
  · rw [show m.log2 + j + 1 = m.log2 + 1 + j by omega, Nat.pow_add]
    exact Nat.mul_lt_mul_of_pos_right Nat.lt_log2_self (Nat.two_pow_pos j)

/-- where the last digit of `X` units is kept; `M`: the least place -/
def lastP (p M X : Nat) : Nat := if X.log2 - p ≤ M then M else X.log2 - p
/-- the rung nearest to `X` units -/
def gR (p M I X : Nat) : Nat := if X = 0 then 0 else min ((lastP p M X - M) * 2 ^ p + rhe X (lastP p M X)) I
/-- what a rung is worth -/
def valR (p M r : Nat) : Nat := if r < 2 ^ p then r * 2 ^ M else (2 ^ p + r % 2 ^ p) * 2 ^ (M + (r / 2 ^ p - 1))

theorem nearest_gR (f : Format) (s : Bool) (m : Nat) (i : Int) (K : Nat) (hi : -(K : Int) ≤ i) (hK : -(K : Int) ≤ f.leastPlace) :
    f.nearest s m i = f.word s (gR f.fractionBits (f.leastPlace + K).toNat f.infRung (m * 2 ^ (i + K).toNat)) := by
  unfold Format.nearest gR
  by_cases h0 : m = 0
  · subst h0; simp
  · have hne : m * 2 ^ (i + K).toNat ≠ 0 := Nat.mul_ne_zero h0 (Nat.pos_iff_ne_zero.1 (Nat.two_pow_pos _))
    rw [if_neg h0, if_neg hne]
    have hl := log2_mul_pow h0 (i + K).toNat
    have hd : ((lastP f.fractionBits (f.leastPlace + K).toNat (m * 2 ^ (i + K).toNat) : Nat) : Int) = max (i + ↑m.log2 - ↑f.fractionBits) f.leastPlace + K := by
      unfold lastP
      rw [hl]
      split <;> omega
    simp only
    generalize lastP f.fractionBits (f.leastPlace + K).toNat (m * 2 ^ (i + K).toNat) = d at *
    generalize max (i + ↑m.log2 - ↑f.fractionBits) f.leastPlace = last at *
    have e1 : (last - f.leastPlace).toNat = d - (f.leastPlace + K).toNat := by omega
    have e2 : Toward.even.cut s (m <<< (i - last).toNat) (last - i).toNat = rhe (m * 2 ^ (i + K).toNat) d := by
      rw [cut_rhe, Nat.shiftLeft_eq]
      by_cases h1 : last ≤ i
      · rw [show (last - i).toNat = 0 by omega, rhe_zero]
        have := rhe_exact (m * 2 ^ (i - last).toNat) d
        rw [Nat.mul_assoc, ← Nat.pow_add, show (i - last).toNat + d = (i + K).toNat by omega] at this
        exact this.symm
      · rw [show (i - last).toNat = 0 by omega, Nat.pow_zero, Nat.mul_one]
        have := rhe_scale m (last - i).toNat (i + K).toNat
        rw [show (last - i).toNat + (i + K).toNat = d by omega] at this
        exact this.symm
    rw [e1, e2]
    rfl

theorem log2_mono {X Y : Nat} (h0 : X ≠ 0) (h : X ≤ Y) : X.log2 ≤ Y.log2 := by
  have h1 := Nat.log2_self_le h0
  have h2 : Y < 2 ^ (Y.log2 + 1) := Nat.lt_log2_self
  have h3 : 2 ^ X.log2 < 2 ^ (Y.log2 + 1) := by omega
  have := (Nat.pow_lt_pow_iff_right (by omega : 1 < 2)).1 h3
  omega

theorem gR_mono {p M I X Y : Nat} (h : X ≤ Y) : gR p M I X ≤ gR p M I Y := by
  by_cases hx : X = 0
  · simp [gR, hx]
  have hy : Y ≠ 0 := by omega
  unfold gR
  rw [if_neg hx, if_neg hy]
  have hl := log2_mono hx h
  have key : (lastP p M X - M) * 2 ^ p + rhe X (lastP p M X) ≤ (lastP p M Y - M) * 2 ^ p + rhe Y (lastP p M Y) := by
    have hX : lastP p M X ≤ lastP p M Y := by unfold lastP; split <;> split <;> omega
    have hM : M ≤ lastP p M X := by unfold lastP; split <;> omega
    rcases Nat.lt_or_ge (lastP p M X) (lastP p M Y) with hlt | hge
    · have hYe : lastP p M Y = Y.log2 - p := by unfold lastP at *; split at hlt <;> split <;> split at hlt <;> omega
      have hXl : X.log2 - p ≤ lastP p M X := by unfold lastP; split <;> omega
      have h1 : rhe X (lastP p M X) ≤ 2 ^ (p + 1) := by
        have hb : X ≤ 2 ^ (p + 1) * 2 ^ lastP p M X := by
          rw [← Nat.pow_add]
          have : X < 2 ^ (X.log2 + 1) := Nat.lt_log2_self
          exact Nat.le_of_lt (Nat.lt_of_lt_of_le this (Nat.pow_le_pow_right (by omega) (by omega)))
        have := rhe_mono (lastP p M X) hb
        rw [rhe_exact] at this
        exact this
      have h2 : 2 ^ p ≤ rhe Y (lastP p M Y) := by
        have hb : 2 ^ p * 2 ^ lastP p M Y ≤ Y := by
          rw [← Nat.pow_add]
          exact Nat.le_trans (Nat.pow_le_pow_right (by omega) (by omega)) (Nat.log2_self_le hy)
        have := rhe_mono (lastP p M Y) hb
        rw [rhe_exact] at this
        exact this
      have h3 : (lastP p M X - M + 1) * 2 ^ p ≤ (lastP p M Y - M) * 2 ^ p := Nat.mul_le_mul_right _ (by omega)
      rw [Nat.add_mul] at h3
      rw [Nat.pow_succ] at h1
      omega
    · have e : lastP p M X = lastP p M Y := by omega
      rw [e]
      have := rhe_mono (lastP p M Y) h
      omega
  omega

theorem gR_val {p M I r : Nat} (h : r ≤ I) : gR p M I (valR p M r) = r := by
  have hp0 : 0 < 2 ^ p := Nat.two_pow_pos p
  unfold valR
  by_cases h1 : r < 2 ^ p
  · rw [if_pos h1]
    by_cases h0 : r = 0
    · subst h0; simp [gR]
    · unfold gR
      have hne : r * 2 ^ M ≠ 0 := Nat.mul_ne_zero h0 (Nat.pos_iff_ne_zero.1 (Nat.two_pow_pos M))
      rw [if_neg hne]
      have hl : lastP p M (r * 2 ^ M) = M := by
        unfold lastP
        rw [log2_mul_pow h0]
        have := (Nat.log2_lt h0).2 h1
        rw [if_pos (by omega)]
      rw [hl, rhe_exact, Nat.sub_self]
      omega
  · rw [if_neg h1]
    unfold gR
    have hr : 2 ^ p ≠ 0 := by omega
    have hm0 : 2 ^ p + r % 2 ^ p ≠ 0 := by omega
    have hne : (2 ^ p + r % 2 ^ p) * 2 ^ (M + (r / 2 ^ p - 1)) ≠ 0 := Nat.mul_ne_zero hm0 (Nat.pos_iff_ne_zero.1 (Nat.two_pow_pos _))
    rw [if_neg hne]
    have hlog : (2 ^ p + r % 2 ^ p).log2 = p := by
      have := Nat.mod_lt r hp0
      refine (Nat.log2_eq_iff hm0).2 ⟨by omega, ?_⟩
      rw [Nat.pow_succ]; omega
    have hl : lastP p M ((2 ^ p + r % 2 ^ p) * 2 ^ (M + (r / 2 ^ p - 1))) = M + (r / 2 ^ p - 1) := by
      unfold lastP
      rw [log2_mul_pow hm0, hlog]
      split <;> omega
    rw [hl, rhe_exact]
    have hdm := Nat.div_add_mod r (2 ^ p)
    have hq : 1 ≤ r / 2 ^ p := (Nat.one_le_div_iff hp0).2 (by omega)
    have e : M + (r / 2 ^ p - 1) - M = r / 2 ^ p - 1 := by omega
    rw [e]
    have e2 : (r / 2 ^ p - 1) * 2 ^ p + 2 ^ p = 2 ^ p * (r / 2 ^ p) := by
      rw [Nat.mul_comm (2 ^ p)]
      have : (r / 2 ^ p) = (r / 2 ^ p - 1) + 1 := by omega
      rw [this, Nat.add_mul]; simp
    omega

/-- of narrow numbers: the rung, what is kept -/
def g32 (X : Nat) : Nat := gR 23 925 single.infRung X
def rd (X : Nat) : Nat := valR 23 925 (g32 X)
theorem gR_le (p M I X : Nat) : gR p M I X ≤ I := by
  unfold gR
  split
  · exact Nat.zero_le _
  · exact Nat.min_le_right _ _
theorem rd_rd (X : Nat) : g32 (rd X) = g32 X := gR_val (gR_le _ _ _ _)
theorem rd_le {X Y : Nat} (h : X ≤ Y) (hY : rd Y = Y) : rd X ≤ Y := by
  rcases Nat.lt_or_ge Y (rd X) with h1 | h1
  · have h2 : g32 Y ≤ g32 (rd X) := gR_mono (Nat.le_of_lt h1)
    rw [rd_rd] at h2
    have h3 : g32 X ≤ g32 Y := gR_mono h
    have h4 : rd X = rd Y := by unfold rd; rw [show g32 X = g32 Y by omega]
    omega
  · exact h1
theorem rd_ge {X Y : Nat} (h : Y ≤ X) (hY : rd Y = Y) : Y ≤ rd X := by
  rcases Nat.lt_or_ge (rd X) Y with h1 | h1
  · have h2 : g32 (rd X) ≤ g32 Y := gR_mono (Nat.le_of_lt h1)
    rw [rd_rd] at h2
    have h3 : g32 Y ≤ g32 X := gR_mono h
    have h4 : rd X = rd Y := by unfold rd; rw [show g32 X = g32 Y by omega]
    omega
  · exact h1
theorem rd_mono {X Y : Nat} (h : X ≤ Y) : rd X ≤ rd Y := by
  rcases Nat.lt_or_ge (rd Y) (rd X) with h1 | h1
  · have h2 : g32 (rd Y) ≤ g32 (rd X) := gR_mono (Nat.le_of_lt h1)
    rw [rd_rd, rd_rd] at h2
    have h3 : g32 X ≤ g32 Y := gR_mono h
    have h4 : rd X = rd Y := by unfold rd; rw [show g32 X = g32 Y by omega]
    omega
  · exact h1

theorem infRung32 : single.infRung = 2139095040 := by decide
theorem sw32 : single.signWeight = 2147483648 := by decide
theorem bin32 : single.binade = 2 ^ 23 := rfl
/-- a word of a rung, read -/
theorem read_rung (s : Bool) {r : Nat} (h : r < single.infRung) : FinS .f32 (single.word s r) s (valR 23 925 r) := by
  have hs : r < single.signWeight := Nat.lt_trans h (inf_lt single)
  have := read_word single s r hs
  rw [lp32, bin32] at this
  unfold valR
  by_cases h1 : r < 2 ^ 23
  · rw [if_pos h1] at this ⊢
    exact ⟨r, -149, this, by omega, rfl⟩
  · rw [if_neg h1, if_pos h] at this
    rw [if_neg h1]
    refine ⟨2 ^ 23 + r % 2 ^ 23, _, this, by omega, ?_⟩
    congr 2
    omega
/-- what a word is worth is worth a rung -/
theorem fin_rung {x : Nat} {s : Bool} {A : Nat} (h : FinS .f32 x s A) : ∃ r, r < single.infRung ∧ A = valR 23 925 r := by
  obtain ⟨m, i, h1, h2, rfl⟩ := h
  have hr : single.read x = .number s m i := h1
  have hlt : x % single.signWeight < single.signWeight := Nat.mod_lt _ (by rw [sw32]; omega)
  unfold Format.read at hr
  simp only at hr
  rw [lp32, bin32] at hr
  split at hr
  · rename_i hc
    cases hr
    exact ⟨x % single.signWeight, by rw [infRung32]; omega, by unfold valR; rw [if_pos hc]; rfl⟩
  · rename_i hc
    split at hr
    · rename_i hi
      cases hr
      refine ⟨x % single.signWeight, hi, ?_⟩
      unfold valR
      rw [if_neg hc]
      congr 2
      omega
    · split at hr <;> cases hr
theorem rep_fin {x : Nat} {s : Bool} {A : Nat} (h : FinS .f32 x s A) : rd A = A ∧ g32 A < single.infRung := by
  obtain ⟨r, hr, rfl⟩ := fin_rung h
  have e : g32 (valR 23 925 r) = r := gR_val (Nat.le_of_lt hr)
  exact ⟨by unfold rd; rw [e], by rw [e]; exact hr⟩

theorem leastK : (single.leastPlace + (1074 : Nat)).toNat = 925 := by decide
/-- a number written, of the narrow width -/
theorem write32 (s : Bool) (m : Nat) (i : Int) (hi : -1074 ≤ i) (hf : g32 (m * 2 ^ (i + 1074).toNat) < single.infRung) : FinS .f32 (single.write (.number s m i)) s (rd (m * 2 ^ (i + 1074).toNat)) := by
  unfold Format.write
  simp only
  rw [nearest_gR single s m i 1074 hi (by rw [lp32]; omega), leastK]
  exact read_rung s hf

theorem rd_zero : rd 0 = 0 := by decide
/-- not negative, of this worth -/
def NV (o : Option Nat) (A : Nat) : Prop := ∃ x s, o = some x ∧ FinS .f32 x s A ∧ (s = true → A = 0)
theorem NV.rep {o : Option Nat} {A : Nat} (h : NV o A) : rd A = A ∧ g32 A < single.infRung := by
  obtain ⟨x, s, rfl, h1, h2⟩ := h
  exact rep_fin h1
/-- whole numbers are there -/
theorem fin_nat (s : Bool) (k : Nat) (hk : k ≤ 2 ^ 24) : ∃ x, FinS .f32 x s (k * 2 ^ 1074) := by
  by_cases h : k = 2 ^ 24
  · subst h
    cases s
    · exact ⟨1266679808, 2 ^ 23, 1, by decide +kernel, by decide, by decide +kernel⟩
    · exact ⟨3414163456, 2 ^ 23, 1, by decide +kernel, by decide, by decide +kernel⟩
  · have hk' : k < 2 ^ 24 := by omega
    obtain ⟨m', i', h1, h2, h3, h4⟩ := write_exact single std32 s k 0 hk' (by rw [lp32]; omega) (by
      by_cases h0 : k = 0
      · exact .inl h0
      · right
        have := (Nat.log2_lt h0).2 hk'
        rw [lp32]
        simp only [single]
        omega)
    rw [lp32] at h2 h4
    refine ⟨_, m', i', h1, by omega, ?_⟩
    have e : m' * 2 ^ (i' - -149).toNat * 2 ^ 925 = k * 2 ^ (0 - -149 : Int).toNat * 2 ^ 925 := by rw [h4]
    rw [Nat.mul_assoc, Nat.mul_assoc, ← Nat.pow_add, ← Nat.pow_add] at e
    rw [show (i' - -149).toNat + 925 = (i' + 1074).toNat by omega] at e
    rw [e]
    rfl
theorem rep_nat {k : Nat} (hk : k ≤ 2 ^ 24) : rd (k * 2 ^ 1074) = k * 2 ^ 1074 ∧ g32 (k * 2 ^ 1074) < single.infRung := by
  obtain ⟨x, hx⟩ := fin_nat false k hk
  exact rep_fin hx
theorem g_lt {X : Nat} {k : Nat} (hk : k ≤ 2 ^ 24) (h : X ≤ k * 2 ^ 1074) : g32 X < single.infRung := Nat.lt_of_le_of_lt (gR_mono h) (rep_nat hk).2

theorem sg_neg {s : Bool} {A : Nat} (h : s = true → A = 0) : sg s * (A : Int) = (A : Int) := by
  cases s
  · simp [sg]
  · simp [h rfl]
theorem signed_NV {s : Bool} {m j : Nat} {A c : Nat} (hA : A = m * 2 ^ (j + c)) (h : s = true → A = 0) : signed s m j = ((m * 2 ^ j : Nat) : Int) := by
  rw [signed_eq]
  cases s
  · simp
  · have := h rfl
    rw [hA] at this
    have : m = 0 := by
      rcases Nat.mul_eq_zero.1 this with h | h
      · exact h
      · exact absurd h (Nat.pos_iff_ne_zero.1 (Nat.two_pow_pos _))
    simp [this]

theorem fcmp_NV {a b : Option Nat} {A B : Nat} (ha : NV a A) (hb : NV b B) :
    fcmp .gtr .f32 a b = decide (A > B) ∧ fcmp .lss .f32 a b = decide (A < B) ∧ fcmp .geq .f32 a b = decide (A ≥ B) ∧ fcmp .leq .f32 a b = decide (A ≤ B) ∧ fcmp .eql .f32 a b = decide (A = B) ∧ fcmp .neq .f32 a b = !decide (A = B) := by
  obtain ⟨x, s, rfl, h1, h2⟩ := ha
  obtain ⟨y, t, rfl, h3, h4⟩ := hb
  have h := fcmp_fin h1.fin h3.fin
  rw [sg_neg h2, sg_neg h4] at h
  refine ⟨h.1.trans ?_, h.2.1.trans ?_, h.2.2.1.trans ?_, h.2.2.2.1.trans ?_, h.2.2.2.2.1.trans ?_, h.2.2.2.2.2.trans ?_⟩ <;> (congr 1; simp only [eq_iff_iff, decide_eq_decide]; omega)

theorem NV.add {a b : Option Nat} {A B : Nat} (ha : NV a A) (hb : NV b B) (hf : g32 (A + B) < single.infRung) : NV (fop .add .f32 a b) (rd (A + B)) := by
  obtain ⟨x, s, rfl, ⟨m, i, h1, h2, rfl⟩, h3⟩ := ha
  obtain ⟨y, t, rfl, ⟨n, j, k1, k2, rfl⟩, k3⟩ := hb
  have hx : single.read x = .number s m i := h1
  have hy : single.read y = .number t n j := k1
  rw [fop_eq]
  show NV (single.add x y) _
  unfold Format.add
  rw [hx, hy]
  unfold Datum.sum
  simp only [Option.map_some]
  have hb : -1074 ≤ min i j := by omega
  generalize hbase : min i j = base at *
  have ei : (i + 1074).toNat = (i - base).toNat + (base + 1074).toNat := by omega
  have ej : (j + 1074).toNat = (j - base).toNat + (base + 1074).toNat := by omega
  rw [signed_NV (by rw [ei]) h3, signed_NV (by rw [ej]) k3, ← Int.natCast_add]
  have hneg : ¬ (((m * 2 ^ (i - base).toNat + n * 2 ^ (j - base).toNat : Nat) : Int) < 0) := by omega
  have hv : (m * 2 ^ (i - base).toNat + n * 2 ^ (j - base).toNat) * 2 ^ (base + 1074).toNat = m * 2 ^ (i + 1074).toNat + n * 2 ^ (j + 1074).toNat := by
    rw [Nat.add_mul, Nat.mul_assoc, Nat.mul_assoc, ← Nat.pow_add, ← Nat.pow_add, ← ei, ← ej]
  have hf' := hf
  rw [← hv] at hf'
  rw [Int.natAbs_natCast]
  refine ⟨_, _, rfl, by have := write32 (if ((m * 2 ^ (i - base).toNat + n * 2 ^ (j - base).toNat : Nat) : Int) = 0 then s && t else decide (((m * 2 ^ (i - base).toNat + n * 2 ^ (j - base).toNat : Nat) : Int) < 0)) _ base hb hf'; rw [hv] at this; exact this, ?_⟩
  intro hs
  rw [decide_eq_false hneg] at hs
  split at hs
  · rename_i h0
    have h0' : m * 2 ^ (i - base).toNat + n * 2 ^ (j - base).toNat = 0 := by omega
    rw [← hv, h0', Nat.zero_mul]
    decide
  · cases hs

/-- less, where the other one isn't greater -/
theorem NV.sub {a b : Option Nat} {A B : Nat} (ha : NV a A) (hb : NV b B) (hle : B ≤ A) : NV (fop .sub .f32 a b) (rd (A - B)) := by
  have hf : g32 (A - B) < single.infRung := Nat.lt_of_le_of_lt (gR_mono (Nat.sub_le A B)) ha.rep.2
  obtain ⟨x, s, rfl, ⟨m, i, h1, h2, rfl⟩, h3⟩ := ha
  obtain ⟨y, t, rfl, ⟨n, j, k1, k2, rfl⟩, k3⟩ := hb
  have hx : single.read x = .number s m i := h1
  have hy : single.read y = .number t n j := k1
  rw [fop_eq]
  show NV (single.sub x y) _
  unfold Format.sub
  rw [hx, hy]
  unfold Datum.sum Datum.opposite
  simp only [Option.map_some]
  have hb : -1074 ≤ min i j := by omega
  generalize hbase : min i j = base at *
  have ei : (i + 1074).toNat = (i - base).toNat + (base + 1074).toNat := by omega
  have ej : (j + 1074).toNat = (j - base).toNat + (base + 1074).toNat := by omega
  have hvi : m * 2 ^ (i + 1074).toNat = m * 2 ^ (i - base).toNat * 2 ^ (base + 1074).toNat := by rw [Nat.mul_assoc, ← Nat.pow_add, ← ei]
  have hvj : n * 2 ^ (j + 1074).toNat = n * 2 ^ (j - base).toNat * 2 ^ (base + 1074).toNat := by rw [Nat.mul_assoc, ← Nat.pow_add, ← ej]
  have hsm : signed s m (i - base).toNat = ((m * 2 ^ (i - base).toNat : Nat) : Int) := signed_NV (by rw [ei]) h3
  have hsn : signed (!t) n (j - base).toNat = -((n * 2 ^ (j - base).toNat : Nat) : Int) := by
    have := signed_NV (s := t) (by rw [ej]) k3
    rw [signed_eq]
    cases t
    · simp
    · have hn : n = 0 := by
        rcases Nat.mul_eq_zero.1 (k3 rfl) with h | h
        · exact h
        · exact absurd h (Nat.pos_iff_ne_zero.1 (Nat.two_pow_pos _))
      simp [hn]
  rw [hsm, hsn]
  have hle' : n * 2 ^ (j - base).toNat ≤ m * 2 ^ (i - base).toNat := by
    rw [hvi, hvj] at hle
    exact Nat.le_of_mul_le_mul_right hle (Nat.two_pow_pos _)
  have hv : (m * 2 ^ (i - base).toNat - n * 2 ^ (j - base).toNat) * 2 ^ (base + 1074).toNat = m * 2 ^ (i + 1074).toNat - n * 2 ^ (j + 1074).toNat := by
    rw [hvi, hvj, Nat.sub_mul]
  generalize m * 2 ^ (i - base).toNat = a at *
  generalize n * 2 ^ (j - base).toNat = b at *
  have ht : (a : Int) + -(b : Int) = ((a - b : Nat) : Int) := by omega
  rw [ht, Int.natAbs_natCast]
  have hneg : ¬ (((a - b : Nat) : Int) < 0) := by omega
  have hf' := hf
  rw [← hv] at hf'
  refine ⟨_, _, rfl, by have := write32 (if ((a - b : Nat) : Int) = 0 then s && !t else decide (((a - b : Nat) : Int) < 0)) _ base hb hf'; rw [hv] at this; exact this, ?_⟩
  intro hs
  rw [decide_eq_false hneg] at hs
  split at hs
  · rename_i h0
    have h0' : a - b = 0 := by omega
    rw [← hv, h0', Nat.zero_mul]
    decide
  · cases hs

theorem fin_place {x : Nat} {s : Bool} {m : Nat} {i : Int} (h : single.read x = .number s m i) : -149 ≤ i ∧ i ≤ 104 ∧ m < 2 ^ 24 := by
  obtain ⟨h1, h2, h3⟩ := read_num std32 h
  rw [lp32] at h1 h3
  simp only [single] at h2 h3
  exact ⟨h1, by omega, h2⟩

theorem NV.mul {a b : Option Nat} {A B : Nat} (ha : NV a A) (hb : NV b B) : ∃ Z, A * B = Z * 2 ^ 1074 ∧ (g32 Z < single.infRung → NV (fop .mul .f32 a b) (rd Z)) := by
  obtain ⟨x, s, rfl, ⟨m, i, h1, h2, rfl⟩, h3⟩ := ha
  obtain ⟨y, t, rfl, ⟨n, j, k1, k2, rfl⟩, k3⟩ := hb
  have hx : single.read x = .number s m i := h1
  have hy : single.read y = .number t n j := k1
  obtain ⟨p1, p2, p3⟩ := fin_place hx
  obtain ⟨q1, q2, q3⟩ := fin_place hy
  have hv : m * 2 ^ (i + 1074).toNat * (n * 2 ^ (j + 1074).toNat) = (m * n) * 2 ^ (i + j + 1074).toNat * 2 ^ 1074 := by
    rw [Nat.mul_assoc (m * n), ← Nat.pow_add, show (i + j + 1074).toNat + 1074 = (i + 1074).toNat + (j + 1074).toNat by omega, Nat.pow_add]
    simp only [Nat.mul_assoc, Nat.mul_left_comm]
  refine ⟨_, hv, fun hf => ?_⟩
  rw [fop_eq]
  show NV (single.mul x y) _
  unfold Format.mul
  rw [hx, hy]
  unfold Datum.product
  simp only [Option.map_some]
  refine ⟨_, _, rfl, write32 (s ^^ t) (m * n) (i + j) (by omega) hf, fun hs => ?_⟩
  have h0 : m * n = 0 := by
    have hz : ∀ (c : Nat) (e : Nat), c * 2 ^ e = 0 → c = 0 := fun c e h => by
      rcases Nat.mul_eq_zero.1 h with h | h
      · exact h
      · exact absurd h (Nat.pos_iff_ne_zero.1 (Nat.two_pow_pos _))
    cases s
    · cases t
      · cases hs
      · rw [hz n _ (k3 rfl), Nat.mul_zero]
    · rw [hz m _ (h3 rfl), Nat.zero_mul]
  rw [h0, Nat.zero_mul]
  decide

theorem quo_nat {m n a b more e T : Nat} (hn : n ≠ 0) (hge : n ≤ m * 2 ^ more) (hcmp : m * 2 ^ a ≤ n * 2 ^ b) (he : more + b + 1 + e = a + T) : (2 * (m * 2 ^ more / n) + (m * 2 ^ more % n != 0).toNat) * 2 ^ e ≤ 2 ^ T := by
  have hc2 : m * 2 ^ more * 2 ^ a ≤ n * 2 ^ (more + b) := by
    have h1 := Nat.mul_le_mul_right (2 ^ more) hcmp
    have e1 : m * 2 ^ more * 2 ^ a = m * 2 ^ a * 2 ^ more := Nat.mul_right_comm _ _ _
    have e2 : n * 2 ^ (more + b) = n * 2 ^ b * 2 ^ more := by rw [Nat.mul_assoc, ← Nat.pow_add, Nat.add_comm]
    omega
  have ht : a ≤ more + b := by
    rcases Nat.lt_or_ge (more + b) a with hlt | h
    · have e5 : n * 2 ^ a ≤ m * 2 ^ more * 2 ^ a := Nat.mul_le_mul_right _ hge
      have e6 : n * 2 ^ (more + b) < n * 2 ^ a := Nat.mul_lt_mul_of_pos_left (Nat.pow_lt_pow_right (by decide) hlt) (Nat.pos_of_ne_zero hn)
      omega
    · exact h
  obtain ⟨d, hd⟩ : ∃ d, more + b = d + a := ⟨more + b - a, by omega⟩
  rw [hd, Nat.pow_add, ← Nat.mul_assoc] at hc2
  have hc3 : m * 2 ^ more ≤ n * 2 ^ d := Nat.le_of_mul_le_mul_right hc2 (Nat.two_pow_pos _)
  have hq2 : 2 * (m * 2 ^ more / n) + (m * 2 ^ more % n != 0).toNat ≤ 2 * 2 ^ d := by
    have hdm := Nat.div_add_mod (m * 2 ^ more) n
    have hdle : m * 2 ^ more / n ≤ 2 ^ d := Nat.div_le_of_le_mul hc3
    rcases Nat.lt_or_ge (m * 2 ^ more / n) (2 ^ d) with hl | hl
    · have : ((m * 2 ^ more % n != 0).toNat) ≤ 1 := Bool.toNat_le _
      omega
    · have e : m * 2 ^ more / n = 2 ^ d := by omega
      rw [e] at hdm
      have : m * 2 ^ more % n = 0 := by omega
      rw [e, this]
      simp
  have hT : T = d + 1 + e := by omega
  have hpw : 2 * 2 ^ d * 2 ^ e = 2 ^ T := by
    rw [hT, Nat.pow_add, Nat.pow_succ, Nat.mul_comm 2]
  rw [← hpw]
  exact Nat.mul_le_mul_right _ hq2
theorem quo_nat0 {n a more e T : Nat} : (2 * (0 * 2 ^ more / n) + (0 * 2 ^ more % n != 0).toNat) * 2 ^ e ≤ 2 ^ T := by simp

/-- the quotient of one that isn't greater is at most 1 -/
theorem NV.quo1 {a b : Option Nat} {A B : Nat} (ha : NV a A) (hb : NV b B) (hle : A ≤ B) (h0 : 0 < B) : ∃ Z, Z ≤ 1 * 2 ^ 1074 ∧ NV (fop .quo .f32 a b) Z := by
  obtain ⟨x, s, rfl, ⟨m, i, h1, h2, rfl⟩, h3⟩ := ha
  obtain ⟨y, t, rfl, ⟨n, j, k1, k2, rfl⟩, k3⟩ := hb
  have hx : single.read x = .number s m i := h1
  have hy : single.read y = .number t n j := k1
  obtain ⟨p1, p2, p3⟩ := fin_place hx
  obtain ⟨q1, q2, q3⟩ := fin_place hy
  have hz : ∀ (c : Nat) (e : Nat), c * 2 ^ e = 0 → c = 0 := fun c e h => by
    rcases Nat.mul_eq_zero.1 h with h | h
    · exact h
    · exact absurd h (Nat.pos_iff_ne_zero.1 (Nat.two_pow_pos _))
  have hn : n ≠ 0 := fun h => by rw [h, Nat.zero_mul] at h0; exact absurd h0 (Nat.lt_irrefl 0)
  have ht : t = false := by
    cases t
    · rfl
    · exact absurd (hz n _ (k3 rfl)) hn
  subst ht
  rw [fop_eq]
  show ∃ Z, _ ∧ NV (single.div x y) _
  unfold Format.div
  rw [hx, hy]
  unfold Datum.quotient
  simp only
  rw [if_neg hn]
  simp only [Option.map_some]
  generalize hmore : single.fractionBits + 2 + n.log2 - m.log2 = more
  have hfb : single.fractionBits = 23 := rfl
  rw [hfb] at hmore
  have hnl : n.log2 ≤ 23 := by have := (Nat.log2_lt hn).2 q3; omega
  have hmb : more ≤ 48 := by omega
  rw [Nat.shiftLeft_eq]
  have hpl : -1074 ≤ i - j - ↑more - 1 := by omega
  have hqle : (2 * (m * 2 ^ more / n) + (m * 2 ^ more % n != 0).toNat) * 2 ^ (i - j - ↑more - 1 + 1074).toNat ≤ 2 ^ 1074 := by
    by_cases hm0 : m = 0
    · subst hm0
      exact quo_nat0 (a := 0)
    · have hge : n ≤ m * 2 ^ more := by
        have e1 : 2 ^ m.log2 ≤ m := Nat.log2_self_le hm0
        have e2 : n < 2 ^ (n.log2 + 1) := Nat.lt_log2_self
        have e3 : 2 ^ (n.log2 + 1) ≤ 2 ^ (m.log2 + more) := Nat.pow_le_pow_right (by decide) (by omega)
        have e4 : 2 ^ m.log2 * 2 ^ more ≤ m * 2 ^ more := Nat.mul_le_mul_right _ e1
        rw [← Nat.pow_add] at e4
        exact Nat.le_of_lt (Nat.lt_of_lt_of_le e2 (Nat.le_trans e3 e4))
      exact quo_nat (a := (i + 1074).toNat) (b := (j + 1074).toNat) hn hge hle (by omega)
  have h1r := rep_nat (k := 1) (by decide)
  have hqle' : (2 * (m * 2 ^ more / n) + (m * 2 ^ more % n != 0).toNat) * 2 ^ (i - j - ↑more - 1 + 1074).toNat ≤ 1 * 2 ^ 1074 := Nat.le_trans hqle (Nat.le_of_eq (Nat.one_mul _).symm)
  have hf := g_lt (k := 1) (by decide) hqle'
  generalize hq : (2 * (m * 2 ^ more / n) + (m * 2 ^ more % n != 0).toNat) = q at hqle' hf ⊢
  generalize (i - j - ↑more - 1 : Int) = pl at *
  have hw := write32 (s ^^ false) q pl hpl hf
  have hs0 : (s ^^ false) = true → rd (q * 2 ^ (pl + 1074).toNat) = 0 := fun hs => by
    have hs' : s = true := by
      cases s
      · cases hs
      · rfl
    have hm0 := hz m _ (h3 hs')
    have hq0 : q = 0 := by rw [← hq, hm0, Nat.zero_mul, Nat.zero_div, Nat.zero_mod]; rfl
    rw [hq0, Nat.zero_mul]
    exact rd_zero
  exact ⟨_, rd_le hqle' h1r.1, _, _, rfl, hw, hs0⟩

/-- not negative, at most a whole number -/
def LE (k : Nat) (o : Option Nat) : Prop := ∃ A, NV o A ∧ A ≤ k * 2 ^ 1074
theorem LE.mono {j k : Nat} {o : Option Nat} (h : LE j o) (hk : j ≤ k) : LE k o := by
  obtain ⟨A, h1, h2⟩ := h
  exact ⟨A, h1, Nat.le_trans h2 (Nat.mul_le_mul_right _ hk)⟩
theorem LE.add {j k : Nat} {a b : Option Nat} (ha : LE j a) (hb : LE k b) (hjk : j + k ≤ 2 ^ 24) : LE (j + k) (fop .add .f32 a b) := by
  obtain ⟨A, h1, h2⟩ := ha
  obtain ⟨B, h3, h4⟩ := hb
  have hs : A + B ≤ (j + k) * 2 ^ 1074 := by rw [Nat.add_mul]; omega
  exact ⟨_, h1.add h3 (g_lt hjk hs), rd_le hs (rep_nat hjk).1⟩
theorem LE.mul {j k : Nat} {a b : Option Nat} (ha : LE j a) (hb : LE k b) (hjk : j * k ≤ 2 ^ 24) : LE (j * k) (fop .mul .f32 a b) := by
  obtain ⟨A, h1, h2⟩ := ha
  obtain ⟨B, h3, h4⟩ := hb
  obtain ⟨Z, hz, hZ⟩ := h1.mul h3
  have hs : Z ≤ (j * k) * 2 ^ 1074 := by
    have : A * B ≤ (j * 2 ^ 1074) * (k * 2 ^ 1074) := Nat.mul_le_mul h2 h4
    rw [hz, show (j * 2 ^ 1074) * (k * 2 ^ 1074) = (j * k * 2 ^ 1074) * 2 ^ 1074 by simp only [Nat.mul_assoc, Nat.mul_left_comm]] at this
    exact Nat.le_of_mul_le_mul_right this (Nat.two_pow_pos _)
  exact ⟨_, hZ (g_lt hjk hs), rd_le hs (rep_nat hjk).1⟩
theorem NV.of {x : Nat} {A : Nat} (h : FinS .f32 x false A) : NV (some x) A := ⟨x, false, rfl, h, fun h => by cases h⟩
theorem NV_one : NV (some 1065353216) (1 * 2 ^ 1074) := NV.of ⟨2 ^ 23, -23, by decide +kernel, by decide, by decide +kernel⟩
theorem NV_zero : NV (some 0) (0 * 2 ^ 1074) := NV.of ⟨0, -149, by decide +kernel, by decide, by decide +kernel⟩
/-- 1 less a share -/
theorem LE.compl {a : Option Nat} (ha : LE 1 a) : LE 1 (fop .sub .f32 (some 1065353216) a) := by
  obtain ⟨A, h1, h2⟩ := ha
  exact ⟨_, NV_one.sub h1 h2, rd_le (Nat.sub_le _ _) (rep_nat (by decide)).1⟩

/-- at least nought and at most a number -/
theorem LE_of_cmp {o : Option Nat} {x : Nat} {k : Nat} (ho : o = none ∨ ∃ x, o = some x ∧ (FloatKind.f32.decode x).isNaN = false) (hx : NV (some x) (k * 2 ^ 1074)) (h1 : fcmp .geq .f32 o (some 0) = true) (h2 : fcmp .leq .f32 o (some x) = true) : LE k o := by
  rcases ho with rfl | ⟨y, rfl, hy⟩
  · rw [fcmp_eq] at h1; exact absurd h1 (by decide)
  · obtain ⟨x', s', hx', hfx, hs'⟩ := hx
    cases hx'
    have hz : Fin .f32 0 0 := ⟨false, 0, -149, by decide +kernel, by decide, by decide +kernel⟩
    cases hd : FloatKind.f32.decode y with
    | nan s t => rw [hd] at hy; cases hy
    | infinity s =>
      have e1 := (fcmp_inf hd hz).2.2.1
      have e2 := (fcmp_inf hd hfx.fin).2.2.2
      rw [e1] at h1
      rw [e2] at h2
      cases s <;> simp_all
    | number s m i =>
      obtain ⟨p1, p2, p3⟩ := fin_place (x := y) hd
      have hfy : FinS .f32 y s (m * 2 ^ (i + 1074).toNat) := ⟨m, i, hd, by omega, rfl⟩
      have e1 := (fcmp_fin hfy.fin hz).2.2.1
      have e2 := (fcmp_fin hfy.fin hfx.fin).2.2.2.1
      rw [e1] at h1
      rw [e2] at h2
      have h1 := of_decide_eq_true h1
      have h2 := of_decide_eq_true h2
      rw [sg_neg hs'] at h2
      refine ⟨m * 2 ^ (i + 1074).toNat, ⟨y, s, rfl, hfy, fun hs => ?_⟩, ?_⟩
      · subst hs
        simp only [sg, if_true] at h1
        omega
      · cases s
        · simp only [sg, Bool.false_eq_true, if_false] at h1 h2
          omega
        · simp only [sg, if_true] at h1
          omega
theorem finS_NV {o : Option Nat} {A : Nat} (h : NV o A) : finS o = true := by
  have h1 := h.sub h (Nat.le_refl A)
  rw [Nat.sub_self, rd_zero] at h1
  unfold finS
  rw [(fcmp_NV h1 NV_zero).2.2.2.2.1]
  simp
theorem finS_LE {o : Option Nat} {k : Nat} (h : LE k o) : finS o = true := by
  obtain ⟨A, h1, _⟩ := h
  exact finS_NV h1
theorem pow_lt_1600 {k A : Nat} (hk : k ≤ 2 ^ 24) (h : A ≤ k * 2 ^ 1074) : A < 2 ^ 1600 := by
  have h1 : k * 2 ^ 1074 ≤ 2 ^ 24 * 2 ^ 1074 := Nat.mul_le_mul_right _ hk
  rw [← Nat.pow_add] at h1
  exact Nat.lt_of_le_of_lt (Nat.le_trans h h1) (Nat.pow_lt_pow_right (by decide) (by decide))
/-- a number that is not negative and not great, rounded, is a whole number -/
theorem ftoI_ok {o : Option Nat} {k : Nat} (h : LE k o) (hk : k ≤ 2 ^ 24) : ftoIOk .f64 .i64 (fint .even (fwide o)) = true := by
  obtain ⟨A, ⟨x, s, rfl, ⟨m, i, h1, h2, rfl⟩, h3⟩, hA⟩ := h
  obtain ⟨y, hy, hfy, _, _, _⟩ := wide_fin h1
  obtain ⟨z, hz, hfz⟩ := fint_fin hfy (pow_lt_1600 hk hA)
  rw [hy, hz]
  have hfin := hfz.fin
  have hle : rhe (m * 2 ^ (i + 1074).toNat) 1074 ≤ k := by
    have := rhe_mono 1074 hA
    rw [rhe_exact] at this
    exact this
  generalize rhe (m * 2 ^ (i + 1074).toNat) 1074 = r at hle hfin
  have e : sg s * ((r * 2 ^ 1074 : Nat) : Int) = (sg s * (r : Int)) * U := by
    unfold U
    rw [Int.natCast_mul, Int.mul_assoc]
  rw [e] at hfin
  have ht := toInt_fin hfin
  rw [ftoIOk_eq]
  unfold ftoIOkReal
  simp only [ht]
  have hb : IntKind.i64.min = -9223372036854775808 ∧ IntKind.i64.max = 9223372036854775807 := by decide
  rw [hb.1, hb.2]
  have h24 : (2 : Nat) ^ 24 = 16777216 := by decide
  exact decide_eq_true (by cases s <;> simp only [sg, if_true, Bool.false_eq_true, if_false] <;> omega)
theorem cond_t {a b : Bool} (h : cond a b false = true) : a = true ∧ b = true := by cases a <;> simp_all
end Go.Sx.Fl
