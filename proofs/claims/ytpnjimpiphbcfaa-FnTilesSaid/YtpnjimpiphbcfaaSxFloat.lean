/- The model's float operations against the executor's: NaN is one value. -/
import Derived.Test.YtpnjimpiphbcfaaSxRel
import Derived.Laws.FloatBits
set_option linter.unusedSimpArgs false
set_option linter.unusedVariables false
namespace Go.Sx
open Go.RowKit Ieee

theorem read_word {f : Format} {neg : Bool} {r : Nat} (h : r ≤ f.infRung) : (f.read (f.word neg r)).isNaN = false := by
  have hlt := f.infRung_lt
  have hw : f.word neg r % f.signWeight = r := by
    unfold Format.word; split
    · rw [Nat.add_mod_left, Nat.mod_eq_of_lt (by omega)]
    · rw [Nat.mod_eq_of_lt (by omega)]
  unfold Format.read
  simp only [hw]
  split
  · rfl
  · split
    · rfl
    · rw [if_pos (by omega)]; rfl

theorem read_nearest (f : Format) (neg : Bool) (m : Nat) (e : Int) : (f.read (f.nearest neg m e)).isNaN = false := by
  unfold Format.nearest
  split
  · exact read_word (Nat.zero_le _)
  · exact read_word (Nat.min_le_right _ _)

theorem read_write {f : Format} {d : Datum} (h : d.isNaN = false) : (f.read (f.write d)).isNaN = false := by
  cases d with
  | number s m e => exact read_nearest f s m e
  | infinity s => exact read_word (Nat.le_refl _)
  | nan s t => simp [Datum.isNaN] at h

theorem nrm_write {k : FloatKind} {d : Datum} (h : d.isNaN = false) : nrm k (k.format.write d) = some (k.format.write d) := by
  simp only [nrm, FloatKind.decode, read_write h, cond_false]

theorem nrm_some {k : FloatKind} {b o : Nat} (h : nrm k b = some o) : o = b ∧ (k.decode b).isNaN = false := by
  unfold nrm at h
  cases hd : (k.decode b).isNaN <;> rw [hd] at h <;> simp at h
  exact ⟨h.symm, rfl⟩
theorem nrm_none {k : FloatKind} {b : Nat} (h : nrm k b = none) : (k.decode b).isNaN = true := by
  unfold nrm at h
  cases hd : (k.decode b).isNaN
  · rw [hd] at h; simp at h
  · rfl
theorem nrm_of_nan {k : FloatKind} {b : Nat} (h : (k.decode b).isNaN = true) : nrm k b = none := by simp [nrm, h]
theorem isNaN_nan {d : Datum} (h : d.isNaN = true) : ∃ s t, d = .nan s t := by
  cases d <;> simp [Datum.isNaN] at h
  exact ⟨_, _, rfl⟩

theorem nan32 (t : Nat) : (FloatKind.f32.decode ((t % 2) * 2 ^ 31 + 0x7f800000 + 1 + (t / 2) % (2 ^ 23 - 1))).isNaN = true ∧ (t % 2) * 2 ^ 31 + 0x7f800000 + 1 + (t / 2) % (2 ^ 23 - 1) < 2 ^ FloatKind.f32.format.width := by
  have h1 : t % 2 = 0 ∨ t % 2 = 1 := by omega
  have h2 : (t / 2) % (2 ^ 23 - 1) < 2 ^ 23 - 1 := Nat.mod_lt _ (by decide)
  have e1 : Ieee.single.signWeight = 2147483648 := by decide
  have e2 : Ieee.single.binade = 8388608 := by decide
  have e3 : Ieee.single.infRung = 2139095040 := by decide
  have e4 : FloatKind.f32.format.width = 32 := by decide
  generalize (t / 2) % (2 ^ 23 - 1) = x at *
  refine ⟨?_, by rw [e4]; rcases h1 with h | h <;> rw [h] <;> omega⟩
  simp only [FloatKind.decode, FloatKind.format, Format.read, e1, e2, e3]
  have hm : (t % 2 * 2 ^ 31 + 2139095040 + 1 + x) % 2147483648 = 2139095041 + x := by
    rcases h1 with h | h <;> rw [h] <;> omega
  rw [hm, if_neg (by omega), if_neg (by omega), if_neg (by omega)]
  rfl
theorem nan64 (t : Nat) : (FloatKind.f64.decode ((t % 2) * 2 ^ 63 + 0x7ff0000000000000 + 1 + (t / 2) % (2 ^ 52 - 1))).isNaN = true ∧ (t % 2) * 2 ^ 63 + 0x7ff0000000000000 + 1 + (t / 2) % (2 ^ 52 - 1) < 2 ^ FloatKind.f64.format.width := by
  have h1 : t % 2 = 0 ∨ t % 2 = 1 := by omega
  have h2 : (t / 2) % (2 ^ 52 - 1) < 2 ^ 52 - 1 := Nat.mod_lt _ (by decide)
  have e1 : Ieee.double.signWeight = 9223372036854775808 := by decide
  have e2 : Ieee.double.binade = 4503599627370496 := by decide
  have e3 : Ieee.double.infRung = 9218868437227405312 := by decide
  have e4 : FloatKind.f64.format.width = 64 := by decide
  generalize (t / 2) % (2 ^ 52 - 1) = x at *
  refine ⟨?_, by rw [e4]; rcases h1 with h | h <;> rw [h] <;> omega⟩
  simp only [FloatKind.decode, FloatKind.format, Format.read, e1, e2, e3]
  have hm : (t % 2 * 2 ^ 63 + 9218868437227405312 + 1 + x) % 9223372036854775808 = 9218868437227405313 + x := by
    rcases h1 with h | h <;> rw [h] <;> omega
  rw [hm, if_neg (by omega), if_neg (by omega), if_neg (by omega)]
  rfl

/-- a question whose answer is a NaN -/
def nanQ (k : FloatKind) (q : Question) : Prop := q.forced = false ∧ ∀ t, (k.decode (q.cut t)).isNaN = true ∧ q.cut t < 2 ^ k.format.width
theorem nanQ_bits (k : FloatKind) (x y : Nat) : nanQ k (.nanBits k x y) := by
  refine ⟨rfl, fun t => ?_⟩
  cases k
  · exact nan32 t
  · exact nan64 t
theorem nanQ_conv (k : FloatKind) (x : Nat) : nanQ k (.nanConv k x) := by
  refine ⟨rfl, fun t => ?_⟩
  cases k
  · exact nan32 t
  · exact nan64 t
theorem nanQ_minmax (k : FloatKind) (b : Bool) (x y : Nat) : nanQ k (.nanMinMax k b x y) := by
  refine ⟨rfl, fun t => ?_⟩
  cases k
  · exact nan32 t
  · exact nan64 t

/-- what a pure operation leaves: some value, and a world where at most something has been drawn -/
def Gv (P : Program) (V : Value → Prop) (s : Sem Value) : Prop := ∀ W, ∃ u n, s.run P W = .ok u { W with drawn := n } ∧ V u

theorem Gv.pure {P : Program} {V : Value → Prop} {u : Value} (h : V u) : Gv P V (Pure.pure u : Sem Value) := fun W => ⟨u, W.drawn, rfl, h⟩

theorem gv_nan {P : Program} {ρ : List Place} {k : FloatKind} {q : Question} (h : nanQ k q) : Gv P (VRel ρ (.flt k none)) (do Pure.pure (.float k (← choose q))) := fun W => by
  refine ⟨.float k (q.cut (W.tape W.drawn q)), W.drawn + 1, ?_, ?_⟩
  · simp [h.1, Result.andThen]
  · simp only [VRel]
    exact ⟨_, rfl, nrm_of_nan (h.2 _).1, (h.2 _).2⟩

theorem gv_flt {P : Program} {ρ : List Place} {k : FloatKind} {d : Datum} (h : d.isNaN = false) : Gv P (VRel ρ (.flt k (some (k.format.write d)))) (Pure.pure (.float k (k.format.write d)) : Sem Value) :=
  .pure (by simp only [VRel]; exact ⟨_, rfl, nrm_write h, k.format.write_lt d⟩)

/-- an operation on data that gives no NaN where it gives something, and nothing at a NaN -/
theorem sum_nn {a b d : Datum} (h : a.sum b = some d) : d.isNaN = false := by
  cases a <;> cases b <;> simp only [Datum.sum, reduceCtorEq, Option.some.injEq] at h
  all_goals (try (split at h <;> simp only [reduceCtorEq, Option.some.injEq] at h))
  all_goals (subst h; rfl)
theorem product_nn {a b d : Datum} (h : a.product b = some d) : d.isNaN = false := by
  cases a <;> cases b <;> simp only [Datum.product, reduceCtorEq, Option.some.injEq] at h
  all_goals (try (split at h <;> simp only [reduceCtorEq, Option.some.injEq] at h))
  all_goals (subst h; rfl)
theorem quotient_nn {n : Nat} {a b d : Datum} (h : a.quotient n b = some d) : d.isNaN = false := by
  cases a <;> cases b <;> simp only [Datum.quotient, reduceCtorEq, Option.some.injEq] at h
  all_goals (try (split at h <;> (try split at h) <;> simp only [reduceCtorEq, Option.some.injEq] at h))
  all_goals (subst h; rfl)
theorem root_nn {n : Nat} {a d : Datum} (h : a.root n = some d) : d.isNaN = false := by
  cases a <;> simp only [Datum.root, reduceCtorEq] at h
  all_goals (split at h <;> (try split at h) <;> simp only [reduceCtorEq, Option.some.injEq] at h)
  all_goals (subst h; rfl)

def lift2 (g : Nat → Nat → Option Nat) (a b : Option Nat) : Option Nat :=
  match a, b with | some x, some y => g x y | _, _ => none

theorem lift2_eq {k : FloatKind} {x y : Nat} {a b : Option Nat} (hx : nrm k x = a) (hy : nrm k y = b) (g : Nat → Nat → Option Nat)
    (hn : (k.format.read x).isNaN = true ∨ (k.format.read y).isNaN = true → g x y = none) : lift2 g a b = g x y := by
  cases a with
  | none => rw [hn (.inl (nrm_none hx))]; rfl
  | some a =>
    cases b with
    | none => rw [hn (.inr (nrm_none hy))]; rfl
    | some b =>
      obtain ⟨rfl, _⟩ := nrm_some hx
      obtain ⟨rfl, _⟩ := nrm_some hy
      rfl

theorem arith_key {P : Program} {ρ : List Place} {k : FloatKind} {x y : Nat} (o : Option Datum) (h : ∀ d, o = some d → d.isNaN = false) :
    Gv P (VRel ρ (.flt k (o.map k.format.write))) (match o.map k.format.write with | some r => Pure.pure (.float k r) | none => (do Pure.pure (.float k (← choose (.nanBits k x y))) : Sem Value)) := by
  cases o with
  | none => exact gv_nan (nanQ_bits k x y)
  | some d => exact gv_flt (h d rfl)

theorem opp_nan {d : Datum} (h : d.isNaN = true) : d.opposite.isNaN = true := by obtain ⟨s, t, rfl⟩ := isNaN_nan h; rfl
theorem nan_l {d e : Datum} {n : Nat} (h : d.isNaN = true) : d.sum e = none ∧ d.product e = none ∧ d.quotient n e = none := by
  obtain ⟨s, t, rfl⟩ := isNaN_nan h
  cases e <;> exact ⟨rfl, rfl, rfl⟩
theorem nan_r {d e : Datum} {n : Nat} (h : e.isNaN = true) : d.sum e = none ∧ d.product e = none ∧ d.quotient n e = none := by
  obtain ⟨s, t, rfl⟩ := isNaN_nan h
  cases d <;> exact ⟨rfl, rfl, rfl⟩

theorem arith_gv {P : Program} {ρ : List Place} {k : FloatKind} {x y : Nat} {a b : Option Nat} (op : BinOp) (hop : op = .add ∨ op = .sub ∨ op = .mul ∨ op = .quo)
    (hx : nrm k x = a) (hy : nrm k y = b) : Gv P (VRel ρ (.flt k (fop op k a b))) (Op.floatArith op k x y) := by
  rw [fop_eq]
  rcases hop with rfl | rfl | rfl | rfl
  · have e : fopReal .add k a b = k.format.add x y := lift2_eq hx hy k.format.add fun h => by
      unfold Format.add
      rcases h with h | h
      · rw [(nan_l (n := 0) h).1]; rfl
      · rw [(nan_r (n := 0) h).1]; rfl
    rw [e]
    exact arith_key _ fun d h => sum_nn h
  · have e : fopReal .sub k a b = k.format.sub x y := lift2_eq hx hy k.format.sub fun h => by
      unfold Format.sub
      rcases h with h | h
      · rw [(nan_l (n := 0) h).1]; rfl
      · rw [(nan_r (n := 0) (opp_nan h)).1]; rfl
    rw [e]
    exact arith_key _ fun d h => sum_nn h
  · have e : fopReal .mul k a b = k.format.mul x y := lift2_eq hx hy k.format.mul fun h => by
      unfold Format.mul
      rcases h with h | h
      · rw [(nan_l (n := 0) h).2.1]; rfl
      · rw [(nan_r (n := 0) h).2.1]; rfl
    rw [e]
    exact arith_key _ fun d h => product_nn h
  · have e : fopReal .quo k a b = k.format.div x y := lift2_eq hx hy k.format.div fun h => by
      unfold Format.div
      rcases h with h | h
      · rw [(nan_l h).2.2]; rfl
      · rw [(nan_r h).2.2]; rfl
    rw [e]
    exact arith_key _ fun d h => quotient_nn h

def lift2o (g : Nat → Nat → Option Ordering) (a b : Option Nat) : Option Ordering :=
  match a, b with | some x, some y => g x y | _, _ => none

theorem order_nrm {k : FloatKind} {x y : Nat} {a b : Option Nat} (hx : nrm k x = a) (hy : nrm k y = b) :
    lift2o k.format.order a b = k.format.order x y := by
  cases a with
  | none =>
    obtain ⟨s, t, h⟩ := isNaN_nan (nrm_none hx)
    have : k.format.order x y = none := by
      unfold Format.order
      rw [show k.format.read x = .nan s t from h]
      cases k.format.read y <;> rfl
    rw [this]; rfl
  | some a =>
    cases b with
    | none =>
      obtain ⟨s, t, h⟩ := isNaN_nan (nrm_none hy)
      have : k.format.order x y = none := by
        unfold Format.order
        rw [show k.format.read y = .nan s t from h]
        cases k.format.read x <;> rfl
      rw [this]; rfl
    | some b =>
      obtain ⟨rfl, _⟩ := nrm_some hx
      obtain ⟨rfl, _⟩ := nrm_some hy
      rfl

theorem cmp_gv {P : Program} {ρ : List Place} {k : FloatKind} {x y : Nat} {a b : Option Nat} (op : BinOp) (hop : op = .eql ∨ op = .neq ∨ op = .lss ∨ op = .leq ∨ op = .gtr ∨ op = .geq)
    (hx : nrm k x = a) (hy : nrm k y = b) : Gv P (VRel ρ (.bool (fcmp op k a b))) (Op.floatCmp op k x y) := by
  rw [fcmp_eq]
  have e := order_nrm hx hy
  rcases hop with rfl | rfl | rfl | rfl | rfl | rfl <;> refine .pure ?_ <;> simp only [VRel, ← e] <;> cases a <;> cases b <;> rfl

theorem fofI_gv {P : Program} {ρ : List Place} (k : FloatKind) (n : Int) : Gv P (VRel ρ (.flt k (fofI k n))) (Conv.intToFloat k n) := by
  rw [fofI_eq]
  exact gv_flt (d := .number (n < 0) n.natAbs 0) rfl

theorem cut_le (way : Toward) (neg : Bool) (n d : Nat) : way.cut neg n d ≤ n / (1 <<< min d (n.log2 + 2)) + 1 := by
  unfold Toward.cut
  exact Nat.add_le_add_left (Bool.toNat_le _) _

theorem cut_zero (neg : Bool) (n : Nat) : Toward.even.cut neg n 0 = n := by
  unfold Toward.cut
  simp [Nat.mod_one]

theorem rung_small {a c : Nat} (h : a ≤ 1149) (hc : c < 2 ^ 53) : a * 4503599627370496 + c < 9218868437227405312 := by
  have h2 : a * 4503599627370496 ≤ 5174635971848699904 := Nat.le_trans (Nat.mul_le_mul_right _ h) (Nat.le_of_ble_eq_true rfl)
  have h4 : a * 4503599627370496 + c < 5174635971848699904 + 2 ^ 53 := Nat.add_lt_add_of_le_of_lt h2 hc
  exact Nat.lt_of_lt_of_le h4 (Nat.le_of_ble_eq_true rfl)

/-- a number of single width does not outgrow double width -/
theorem wide_fits (b : Nat) (s : Bool) (m : Nat) (e : Int) (h : FloatKind.f32.decode b = .number s m e) :
    (FloatKind.f64.decode (FloatKind.f64.encode (.number s m e))).isInfinity = false := by
  have e1 : Ieee.single.signWeight = 2147483648 := by decide
  have e2 : Ieee.single.binade = 8388608 := by decide
  have e3 : Ieee.single.infRung = 2139095040 := by decide
  have e4 : Ieee.single.leastPlace = -149 := by decide
  have hb : m < 16777216 ∧ e ≤ 104 ∧ -149 ≤ e := by
    simp only [FloatKind.decode, FloatKind.format, Format.read, e1, e2, e3, e4] at h
    generalize hr : b % 2147483648 = r at h
    split at h
    · cases h; omega
    · split at h
      · cases h
        have := Nat.mod_lt r (show 0 < 8388608 by decide)
        refine ⟨by omega, ?_, by omega⟩
        have : r / 8388608 - 1 ≤ 253 := by omega
        omega
      · split at h <;> cases h
  obtain ⟨hm, he, he2⟩ := hb
  have d1 : Ieee.double.signWeight = 9223372036854775808 := by decide
  have d2 : Ieee.double.binade = 4503599627370496 := by decide
  have d3 : Ieee.double.infRung = 9218868437227405312 := by decide
  have d4 : Ieee.double.leastPlace = -1074 := by decide
  have d5 : Ieee.double.fractionBits = 52 := rfl
  -- the rung is below infinity's
  have key : ∀ r : Nat, r < Ieee.double.infRung → (Ieee.double.read (Ieee.double.word s r)).isInfinity = false := by
    intro r hr
    have hw : Ieee.double.word s r % Ieee.double.signWeight = r := by
      unfold Format.word; split
      · rw [Nat.add_mod_left, Nat.mod_eq_of_lt (by rw [d1]; rw [d3] at hr; omega)]
      · rw [Nat.mod_eq_of_lt (by rw [d1]; rw [d3] at hr; omega)]
    unfold Format.read
    simp only [hw]
    split
    · rfl
    · first | rfl | (simp only [hr, if_true]; rfl)
  simp only [FloatKind.decode, FloatKind.encode, FloatKind.format, Format.write, Format.nearest]
  split
  · exact key 0 (by rw [d3]; decide)
  · rename_i hm0
    rw [d4, d5]
    have hlog : m.log2 ≤ 23 := by
      have := Nat.log2_lt hm0 (k := 24)
      omega
    generalize hl : max (e + ↑m.log2 - 52) (-1074) = last
    have hlast : last ≤ 75 ∧ -1074 ≤ last ∧ e + m.log2 - 52 ≤ last := by omega
    have hk : Toward.even.cut s (m <<< (e - last).toNat) (last - e).toNat < 2 ^ 53 := by
      by_cases hle : last ≤ e
      · rw [show (last - e).toNat = 0 by omega, cut_zero, Nat.shiftLeft_eq]
        have h1 : m < 2 ^ (m.log2 + 1) := Nat.lt_log2_self
        have h2 : (e - last).toNat ≤ 52 - m.log2 := by omega
        calc m * 2 ^ (e - last).toNat < 2 ^ (m.log2 + 1) * 2 ^ (e - last).toNat := Nat.mul_lt_mul_of_pos_right h1 (Nat.two_pow_pos _)
          _ ≤ 2 ^ (m.log2 + 1) * 2 ^ (52 - m.log2) := Nat.mul_le_mul_left _ (Nat.pow_le_pow_right (by decide) h2)
          _ = 2 ^ 53 := by rw [← Nat.pow_add]; congr 1; omega
      · rw [show (e - last).toNat = 0 by omega]
        have := cut_le .even s (m <<< 0) (last - e).toNat
        have h2 : (m <<< 0) / (1 <<< min (last - e).toNat ((m <<< 0).log2 + 2)) ≤ m := by
          rw [Nat.shiftLeft_zero]; exact Nat.div_le_self _ _
        have h3 : (2 : Nat) ^ 53 = 9007199254740992 := rfl
        rw [h3]
        omega
    generalize Toward.even.cut s (m <<< (e - last).toNat) (last - e).toNat = c at hk ⊢
    have h1 : (last - -1074).toNat ≤ 1149 := by omega
    have h2 : (last - -1074).toNat * 4503599627370496 + c < 9218868437227405312 := rung_small h1 hk
    rw [d2, Nat.min_eq_left (by rw [d3]; exact Nat.le_of_lt h2)]
    exact key _ (by rw [d3]; exact h2)

theorem wide_gv {P : Program} {ρ : List Place} {x : Nat} {a : Option Nat} (hx : nrm .f32 x = a) : Gv P (VRel ρ (.flt .f64 (fwide a))) (Conv.floatToFloat .f32 x .f64) := by
  rw [fwide_eq]
  unfold Conv.floatToFloat
  rw [if_neg (by decide)]
  cases a with
  | none =>
    obtain ⟨s, t, h⟩ := isNaN_nan (nrm_none hx)
    rw [h]
    exact gv_nan (nanQ_conv .f64 x)
  | some a =>
    obtain ⟨rfl, hn⟩ := nrm_some hx
    simp only [fwideReal, Option.map_some]
    cases hd : FloatKind.f32.decode a with
    | nan s t => rw [hd] at hn; cases hn
    | infinity s => exact gv_flt (k := .f64) (d := .infinity s) rfl
    | number s m e =>
      dsimp only
      rw [wide_fits a s m e hd]
      exact gv_flt (k := .f64) (d := .number s m e) rfl

theorem nar_gv {P : Program} {ρ : List Place} {x : Nat} {a : Option Nat} (hx : nrm .f64 x = a) (hok : fnarOk a = true) : Gv P (VRel ρ (.flt .f32 (fnar a))) (Conv.floatToFloat .f64 x .f32) := by
  rw [fnar_eq]
  rw [fnarOk_eq] at hok
  unfold Conv.floatToFloat
  rw [if_neg (by decide)]
  cases a with
  | none =>
    obtain ⟨s, t, h⟩ := isNaN_nan (nrm_none hx)
    rw [h]
    exact gv_nan (nanQ_conv .f32 x)
  | some a =>
    obtain ⟨rfl, hn⟩ := nrm_some hx
    simp only [fnarReal, Option.map_some]
    cases hd : FloatKind.f64.decode a with
    | nan s t => rw [hd] at hn; cases hn
    | infinity s => exact gv_flt (k := .f32) (d := .infinity s) rfl
    | number s m e =>
      simp only [fnarOkReal, hd, Bool.not_eq_true'] at hok
      dsimp only
      rw [hok]
      exact gv_flt (k := .f32) (d := .number s m e) rfl

theorem same_gv {P : Program} {ρ : List Place} {k : FloatKind} {x : Nat} {a : Option Nat} (hx : nrm k x = a) (hl : x < 2 ^ k.format.width) : Gv P (VRel ρ (.flt k a)) (Conv.floatToFloat k x k) := by
  unfold Conv.floatToFloat
  rw [if_pos rfl]
  exact .pure (by simp only [VRel]; exact ⟨x, rfl, hx, hl⟩)

theorem ftoI_gv {P : Program} {ρ : List Place} {k : FloatKind} {d : IntKind} {x : Nat} {a : Option Nat} (hx : nrm k x = a) (hok : ftoIOk k d a = true) : Gv P (VRel ρ (.int d (ftoI k d a))) (Conv.floatToInt k x d) := by
  rw [ftoI_eq]
  rw [ftoIOk_eq] at hok
  cases a with
  | none => simp [ftoIOkReal] at hok
  | some a =>
    obtain ⟨rfl, _⟩ := nrm_some hx
    simp only [ftoIOkReal] at hok
    unfold Conv.floatToInt
    dsimp only
    cases hn : (k.decode a).toInt .zero with
    | none => rw [hn] at hok; cases hok
    | some n =>
      rw [hn] at hok
      simp only [decide_eq_true_eq] at hok
      simp only [if_pos hok, ftoIReal, hn, Option.getD_some]
      exact .pure (by simp [VRel])

theorem xor_top (n b : Nat) (h : b < 2 ^ (n + 1)) : (b ^^^ 2 ^ n) % 2 ^ n = b % 2 ^ n ∧ b ^^^ 2 ^ n < 2 ^ (n + 1) := by
  refine ⟨?_, Nat.xor_lt_two_pow h (Nat.pow_lt_pow_right (by decide) (by omega))⟩
  apply Nat.eq_of_testBit_eq
  intro i
  simp only [Nat.testBit_mod_two_pow, Nat.testBit_xor, Nat.testBit_two_pow]
  by_cases hi : i < n
  · simp [hi, Nat.ne_of_gt hi]
  · simp [hi]

theorem read_mod (f : Format) (a b : Nat) (h : a % f.signWeight = b % f.signWeight) : (f.read a).isNaN = (f.read b).isNaN := by
  unfold Format.read
  simp only [h]
  split
  · rfl
  · split
    · rfl
    · split <;> rfl

theorem neg_gv {P : Program} {ρ : List Place} {k : FloatKind} {x : Nat} {a : Option Nat} (hx : nrm k x = a) (hl : x < 2 ^ k.format.width) : Gv P (VRel ρ (.flt k (fneg k a))) (Op.unary .neg (.float k x)) := by
  rw [fneg_eq]
  simp only [Op.unary, Op.negFloat]
  have hw : k.format.width = (k.format.exponentBits + k.format.fractionBits) + 1 := by unfold Format.width; omega
  have hs : k.format.signWeight = 2 ^ (k.format.exponentBits + k.format.fractionBits) := rfl
  obtain ⟨h1, h2⟩ := xor_top (k.format.exponentBits + k.format.fractionBits) x (by rw [← hw]; exact hl)
  have hn : (k.decode (x ^^^ 2 ^ (k.format.exponentBits + k.format.fractionBits))).isNaN = (k.decode x).isNaN := read_mod _ _ _ (by rw [hs]; exact h1)
  refine .pure ?_
  simp only [VRel]
  refine ⟨_, rfl, ?_, by rw [hw]; exact h2⟩
  cases a with
  | none => exact nrm_of_nan (by rw [hn]; exact nrm_none hx)
  | some a =>
    obtain ⟨rfl, h⟩ := nrm_some hx
    simp [fnegReal, nrm, hn, h]

end Go.Sx
