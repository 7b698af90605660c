/- Numbers of a grid: their arithmetic in narrow numbers. -/
import Derived.Test.YtpnjimpiphbcfaaSxFr
import Derived.Test.YtpnjimpiphbcfaaSxFm
set_option linter.unusedVariables false
set_option linter.unusedSimpArgs false
set_option exponentiation.threshold 3000
set_option maxRecDepth 100000
namespace Go.Sx.Ink
open Go Go.Sx Go.Sx.Fl Ieee

-- words told by what they hold
def val (o : Option Nat) : Option Nat := match o with
  | some x => match FloatKind.f32.decode x with
    | .number false m i => bif decide (-1074 ≤ i) then some (m * 2 ^ (i + 1074).toNat) else none
    | _ => none
  | none => none
theorem NV_val {o : Option Nat} {A : Nat} (h : val o = some A) : NV o A := by
  unfold val at h
  split at h
  · rename_i x
    split at h
    · rename_i m i hd
      cases hi : decide (-1074 ≤ i) with
      | false => rw [hi] at h; cases h
      | true =>
        rw [hi] at h
        simp only [cond_true, Option.some.injEq] at h
        exact ⟨x, false, rfl, ⟨m, i, hd, of_decide_eq_true hi, h.symm⟩, fun h => by cases h⟩
    · cases h
  · cases h
noncomputable def gr (w : Nat) (k : Int) : Option Nat := fop .quo .f32 (fofI .f32 k) (some w)
def grR (w : Nat) (k : Int) : Option Nat := fopReal .quo .f32 (fofIReal .f32 k) (some w)
theorem gr_eq (w : Nat) (k : Int) : gr w k = grR w k := by unfold gr grR; rw [fop_eq, fofI_eq]
def chk (w e : Nat) (n : Nat) : Bool := (List.range n).all fun k => match val (grR w (Int.ofNat k)) with | some A => Nat.beq A (k * 2 ^ e) | none => false
theorem chk_of {w e n : Nat} (h : chk w e n = true) {k : Nat} (hk : k < n) : NV (gr w (Int.ofNat k)) (k * 2 ^ e) := by
  unfold chk at h
  rw [List.all_eq_true] at h
  have := h k (List.mem_range.2 hk)
  rw [gr_eq]
  split at this
  · rename_i A hA
    rw [← Nat.eq_of_beq_eq_true this]
    exact NV_val hA
  · cases this
theorem c32 : chk 1107296256 1069 33 = true := by decide +kernel
theorem c4 : chk 1082130432 1072 17 = true := by decide +kernel
theorem c8 : chk 1090519040 1071 9 = true := by decide +kernel
-- what stands on a grid stands
theorem fin_grid (s : Bool) {k e : Nat} (hk : k ≤ 2 ^ 24) (h0 : 925 ≤ e) (h1 : e ≤ 1080) : ∃ x, FinS .f32 x s (k * 2 ^ e) := by
  by_cases h : k = 2 ^ 24
  · obtain ⟨m', i', q1, q2, q3, q4⟩ := write_exact single std32 s (2 ^ 23) ((e : Int) - 1073) (by decide) (by rw [lp32]; omega) (.inr (by
      rw [show (2 ^ 23 : Nat).log2 = 23 from by decide, lp32]
      simp only [single]
      omega))
    rw [lp32] at q2 q4
    refine ⟨_, m', i', q1, by omega, ?_⟩
    have e' : m' * 2 ^ (i' - -149).toNat * 2 ^ 925 = 2 ^ 23 * 2 ^ ((e : Int) - 1073 - -149).toNat * 2 ^ 925 := by rw [q4]
    rw [Nat.mul_assoc, Nat.mul_assoc, ← Nat.pow_add, ← Nat.pow_add] at e'
    rw [show (i' - -149).toNat + 925 = (i' + 1074).toNat by omega] at e'
    rw [e', h, show ((e : Int) - 1073 - -149).toNat + 925 = e + 1 by omega, Nat.pow_succ]
    omega
  · have hk' : k < 2 ^ 24 := by omega
    obtain ⟨m', i', q1, q2, q3, q4⟩ := write_exact single std32 s k ((e : Int) - 1074) hk' (by rw [lp32]; omega) (by
      by_cases h0 : k = 0
      · exact .inl h0
      · right
        have := (Nat.log2_lt h0).2 hk'
        rw [lp32]
        simp only [single]
        omega)
    rw [lp32] at q2 q4
    refine ⟨_, m', i', q1, by omega, ?_⟩
    have e' : m' * 2 ^ (i' - -149).toNat * 2 ^ 925 = k * 2 ^ ((e : Int) - 1074 - -149).toNat * 2 ^ 925 := by rw [q4]
    rw [Nat.mul_assoc, Nat.mul_assoc, ← Nat.pow_add, ← Nat.pow_add] at e'
    rw [show (i' - -149).toNat + 925 = (i' + 1074).toNat by omega] at e'
    rw [e', show ((e : Int) - 1074 - -149).toNat + 925 = e by omega]
theorem rep_grid {k e : Nat} (hk : k ≤ 2 ^ 24) (h0 : 925 ≤ e) (h1 : e ≤ 1080) : rd (k * 2 ^ e) = k * 2 ^ e ∧ g32 (k * 2 ^ e) < single.infRung := by
  obtain ⟨x, hx⟩ := fin_grid false hk h0 h1
  exact rep_fin hx
/-- rounding moves a number below 8 by less than 2^-21 -/
theorem rd_up {X : Nat} (h : X < 2 ^ 24 * 2 ^ 1053) : rd X ≤ X + 2 ^ 1053 ∧ X ≤ rd X + 2 ^ 1053 := by
  have hp : 0 < (2 : Nat) ^ 1053 := Nat.two_pow_pos _
  generalize hu : (2 : Nat) ^ 1053 = u at *
  have hq : X / u < 2 ^ 24 := (Nat.div_lt_iff_lt_mul hp).2 h
  have hd := Nat.div_add_mod X u
  have hm := Nat.mod_lt X hp
  have r1 := (rep_grid (k := X / u + 1) (e := 1053) (by omega) (by omega) (by omega)).1
  have r0 := (rep_grid (k := X / u) (e := 1053) (by omega) (by omega) (by omega)).1
  rw [hu] at r0 r1
  have hx : X = u * (X / u) + X % u := hd.symm
  generalize X / u = q at *
  generalize X % u = t at *
  have e1 : (q + 1) * u = u * q + u := by rw [Nat.add_mul, Nat.one_mul, Nat.mul_comm]
  have e0 : q * u = u * q := Nat.mul_comm q u
  have a1 := rd_le (X := X) (Y := (q + 1) * u) (by omega) r1
  have a0 := rd_ge (X := X) (Y := q * u) (by omega) r0
  omega
-- a positive number has one word
theorem FinS_same {x : Nat} {s t : Bool} {A B : Nat} (h : FinS .f32 x s A) (k : FinS .f32 x t B) : s = t ∧ A = B := by
  obtain ⟨m, i, h1, _, h3⟩ := h
  obtain ⟨n, j, k1, _, k3⟩ := k
  rw [h1] at k1
  simp only [Datum.number.injEq] at k1
  obtain ⟨rfl, rfl, rfl⟩ := k1
  exact ⟨rfl, h3.trans k3.symm⟩
theorem word_of_NV {x A : Nat} (hw : Wd x) (h : NV (some x) A) (h0 : 0 < A) : key x = (rung x : Int) ∧ A = valR 23 925 (rung x) := by
  obtain ⟨y, s, hy, hf, hs⟩ := h
  cases hy
  have hs : s = false := by cases s with | false => rfl | true => have := hs rfl; omega
  subst hs
  rcases wd_read hw with ⟨_, h2⟩ | ⟨_, h2⟩
  · obtain ⟨e1, e2⟩ := FinS_same hf h2
    refine ⟨?_, e2⟩
    unfold key
    rw [← e1]
    simp [sg]
  · obtain ⟨m, i, h3, _⟩ := hf
    rw [h2] at h3; cases h3
theorem uniq {x y A : Nat} (hx : Wd x) (hy : Wd y) (h : NV (some x) A) (k : NV (some y) A) (h0 : 0 < A) : x = y := by
  obtain ⟨e1, e2⟩ := word_of_NV hx h h0
  obtain ⟨e3, e4⟩ := word_of_NV hy k h0
  have hr : rung x = rung y := by
    rcases Nat.lt_trichotomy (rung x) (rung y) with h | h | h
    · have := valR_lt h; omega
    · exact h
    · have := valR_lt h; omega
  refine key_inj hx.1 hy.1 (by rw [e1, e3, hr]) ?_
  intro hz
  rw [e1] at hz
  have : rung x = 0 := by omega
  rw [this, valR_zero] at e2
  omega
theorem uniqO {o u : Option Nat} {A : Nat} (ho : ∀ z, o = some z → Wd z) (hu : ∀ z, u = some z → Wd z) (h : NV o A) (k : NV u A) (h0 : 0 < A) : o = u := by
  obtain ⟨x, s, rfl, h1⟩ := h
  obtain ⟨y, t, rfl, k1⟩ := k
  rw [uniq (ho x rfl) (hu y rfl) ⟨x, s, rfl, h1⟩ ⟨y, t, rfl, k1⟩ h0]
theorem fop_wdO (op : BinOp) (a b : Option Nat) : ∀ z, fop op .f32 a b = some z → Wd z := fun z h => fop_wd h
-- the share of two numbers below 96
abbrev w32 : Nat := 1107296256
def qok (p q : Nat) : Bool := match val (fopReal .quo .f32 (grR w32 (Int.ofNat p)) (grR w32 (Int.ofNat q))) with
  | some v => Nat.ble v (2 ^ 1074) && Nat.ble (v * q) ((p * 2 ^ 21 + q) * 2 ^ 1053)
  | none => false
def qall (a n : Nat) : Bool := (List.range n).all fun j => (List.range (a + j)).all fun p => qok p (a + j)
theorem qa0 : qall 0 40 = true := by decide +kernel
theorem qa1 : qall 40 20 = true := by decide +kernel
theorem qa2 : qall 60 15 = true := by decide +kernel
theorem qa3 : qall 75 12 = true := by decide +kernel
theorem qa4 : qall 87 10 = true := by decide +kernel
theorem qall_of {a n p q : Nat} (h : qall a n = true) (h1 : a ≤ q) (h2 : q < a + n) (hp : p < q) : qok p q = true := by
  unfold qall at h
  rw [List.all_eq_true] at h
  have := h (q - a) (List.mem_range.2 (by omega))
  rw [show a + (q - a) = q by omega, List.all_eq_true] at this
  exact this p (List.mem_range.2 hp)
theorem qok_of {p q : Nat} (hp : p < q) (hq : q < 97) : qok p q = true := by
  by_cases h0 : q < 40
  · exact qall_of qa0 (by omega) (by omega) hp
  · by_cases h1 : q < 60
    · exact qall_of qa1 (by omega) (by omega) hp
    · by_cases h2 : q < 75
      · exact qall_of qa2 (by omega) (by omega) hp
      · by_cases h3 : q < 87
        · exact qall_of qa3 (by omega) (by omega) hp
        · exact qall_of qa4 (by omega) (by omega) hp
theorem quo_of {o u : Option Nat} {p q : Nat} (ho : ∀ z, o = some z → Wd z) (hu : ∀ z, u = some z → Wd z) (h : NV o (p * 2 ^ 1069)) (k : NV u (q * 2 ^ 1069)) (h0 : 0 < p) (hp : p < q) (hq : q < 97)
    (gp : NV (gr w32 (Int.ofNat p)) (p * 2 ^ 1069)) (gq : NV (gr w32 (Int.ofNat q)) (q * 2 ^ 1069)) : ∃ v, NV (fop .quo .f32 o u) v ∧ v ≤ 2 ^ 1074 ∧ v * q ≤ (p * 2 ^ 21 + q) * 2 ^ 1053 := by
  have hpow : 0 < (2 : Nat) ^ 1069 := Nat.two_pow_pos _
  have e1 : o = gr w32 (Int.ofNat p) := uniqO ho (fop_wdO _ _ _) h gp (Nat.mul_pos h0 hpow)
  have e2 : u = gr w32 (Int.ofNat q) := uniqO hu (fop_wdO _ _ _) k gq (Nat.mul_pos (by omega) hpow)
  have h := qok_of hp hq
  unfold qok at h
  rw [e1, e2, gr_eq, gr_eq, fop_eq]
  split at h
  · rename_i v hv
    simp only [Bool.and_eq_true] at h
    exact ⟨v, NV_val hv, Nat.le_of_ble_eq_true h.1, Nat.le_of_ble_eq_true h.2⟩
  · cases h
theorem c97 : chk w32 1069 97 = true := by decide +kernel
end Go.Sx.Ink
