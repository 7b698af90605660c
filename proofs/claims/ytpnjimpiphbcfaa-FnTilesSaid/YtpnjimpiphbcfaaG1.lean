/- Texts of one claim, put together. -/
import Derived.Test.YtpnjimpiphbcfaaSxFr
import Derived.Test.YtpnjimpiphbcfaaSxFm
import Derived.Test.YtpnjimpiphbcfaaSxR0
import Derived.Test.YtpnjimpiphbcfaaSxSelR
import Derived.Test.YtpnjimpiphbcfaaSxC5
import Derived.Test.YtpnjimpiphbcfaaSxCp
set_option linter.unusedVariables false
set_option linter.unusedSimpArgs false
set_option exponentiation.threshold 3000
set_option maxRecDepth 100000
namespace Go.Sx.Ink
open Go Go.Sx Go.Sx.Fl Ieee

-- words told by what they hold
def val (o : Option Nat) : Option Nat := match o with
  | some x => match FloatKind.f32.decode x with
    | .number false m i => bif decide (-1074 ≤ i) then some (m * 2 ^ (i + 1074).toNat) else none
    | _ => none
  | none => none
theorem NV_val {o : Option Nat} {A : Nat} (h : val o = some A) : NV o A := by
  unfold val at h
  split at h
  · rename_i x
    split at h
    · rename_i m i hd
      cases hi : decide (-1074 ≤ i) with
      | false => rw [hi] at h; cases h
      | true =>
        rw [hi] at h
        simp only [cond_true, Option.some.injEq] at h
        exact ⟨x, false, rfl, ⟨m, i, hd, of_decide_eq_true hi, h.symm⟩, fun h => by cases h⟩
    · cases h
  · cases h
noncomputable def gr (w : Nat) (k : Int) : Option Nat := fop .quo .f32 (fofI .f32 k) (some w)
def grR (w : Nat) (k : Int) : Option Nat := fopReal .quo .f32 (fofIReal .f32 k) (some w)
theorem gr_eq (w : Nat) (k : Int) : gr w k = grR w k := by unfold gr grR; rw [fop_eq, fofI_eq]
def chk (w e : Nat) (n : Nat) : Bool := (List.range n).all fun k => match val (grR w (Int.ofNat k)) with | some A => Nat.beq A (k * 2 ^ e) | none => false
theorem chk_of {w e n : Nat} (h : chk w e n = true) {k : Nat} (hk : k < n) : NV (gr w (Int.ofNat k)) (k * 2 ^ e) := by
  unfold chk at h
  rw [List.all_eq_true] at h
  have := h k (List.mem_range.2 hk)
  rw [gr_eq]
  split at this
  · rename_i A hA
    rw [← Nat.eq_of_beq_eq_true this]
    exact NV_val hA
  · cases this
theorem c32 : chk 1107296256 1069 33 = true := by decide +kernel
theorem c4 : chk 1082130432 1072 17 = true := by decide +kernel
theorem c8 : chk 1090519040 1071 9 = true := by decide +kernel
-- what stands on a grid stands
theorem fin_grid (s : Bool) {k e : Nat} (hk : k ≤ 2 ^ 24) (h0 : 925 ≤ e) (h1 : e ≤ 1080) : ∃ x, FinS .f32 x s (k * 2 ^ e) := by
  by_cases h : k = 2 ^ 24
  · obtain ⟨m', i', q1, q2, q3, q4⟩ := write_exact single std32 s (2 ^ 23) ((e : Int) - 1073) (by decide) (by rw [lp32]; omega) (.inr (by
      rw [show (2 ^ 23 : Nat).log2 = 23 from by decide, lp32]
      simp only [single]
      omega))
    rw [lp32] at q2 q4
    refine ⟨_, m', i', q1, by omega, ?_⟩
    have e' : m' * 2 ^ (i' - -149).toNat * 2 ^ 925 = 2 ^ 23 * 2 ^ ((e : Int) - 1073 - -149).toNat * 2 ^ 925 := by rw [q4]
    rw [Nat.mul_assoc, Nat.mul_assoc, ← Nat.pow_add, ← Nat.pow_add] at e'
    rw [show (i' - -149).toNat + 925 = (i' + 1074).toNat by omega] at e'
    rw [e', h, show ((e : Int) - 1073 - -149).toNat + 925 = e + 1 by omega, Nat.pow_succ]
    omega
  · have hk' : k < 2 ^ 24 := by omega
    obtain ⟨m', i', q1, q2, q3, q4⟩ := write_exact single std32 s k ((e : Int) - 1074) hk' (by rw [lp32]; omega) (by
      by_cases h0 : k = 0
      · exact .inl h0
      · right
        have := (Nat.log2_lt h0).2 hk'
        rw [lp32]
        simp only [single]
        omega)
    rw [lp32] at q2 q4
    refine ⟨_, m', i', q1, by omega, ?_⟩
    have e' : m' * 2 ^ (i' - -149).toNat * 2 ^ 925 = k * 2 ^ ((e : Int) - 1074 - -149).toNat * 2 ^ 925 := by rw [q4]
    rw [Nat.mul_assoc, Nat.mul_assoc, ← Nat.pow_add, ← Nat.pow_add] at e'
    rw [show (i' - -149).toNat + 925 = (i' + 1074).toNat by omega] at e'
    rw [e', show ((e : Int) - 1074 - -149).toNat + 925 = e by omega]
theorem rep_grid {k e : Nat} (hk : k ≤ 2 ^ 24) (h0 : 925 ≤ e) (h1 : e ≤ 1080) : rd (k * 2 ^ e) = k * 2 ^ e ∧ g32 (k * 2 ^ e) < single.infRung := by
  obtain ⟨x, hx⟩ := fin_grid false hk h0 h1
  exact rep_fin hx
/-- rounding moves a number below 8 by less than 2^-21 -/
theorem rd_up {X : Nat} (h : X < 2 ^ 24 * 2 ^ 1053) : rd X ≤ X + 2 ^ 1053 ∧ X ≤ rd X + 2 ^ 1053 := by
  have hp : 0 < (2 : Nat) ^ 1053 := Nat.two_pow_pos _
  generalize hu : (2 : Nat) ^ 1053 = u at *
  have hq : X / u < 2 ^ 24 := (Nat.div_lt_iff_lt_mul hp).2 h
  have hd := Nat.div_add_mod X u
  have hm := Nat.mod_lt X hp
  have r1 := (rep_grid (k := X / u + 1) (e := 1053) (by omega) (by omega) (by omega)).1
  have r0 := (rep_grid (k := X / u) (e := 1053) (by omega) (by omega) (by omega)).1
  rw [hu] at r0 r1
  have hx : X = u * (X / u) + X % u := hd.symm
  generalize X / u = q at *
  generalize X % u = t at *
  have e1 : (q + 1) * u = u * q + u := by rw [Nat.add_mul, Nat.one_mul, Nat.mul_comm]
  have e0 : q * u = u * q := Nat.mul_comm q u
  have a1 := rd_le (X := X) (Y := (q + 1) * u) (by omega) r1
  have a0 := rd_ge (X := X) (Y := q * u) (by omega) r0
  omega
-- a positive number has one word
theorem FinS_same {x : Nat} {s t : Bool} {A B : Nat} (h : FinS .f32 x s A) (k : FinS .f32 x t B) : s = t ∧ A = B := by
  obtain ⟨m, i, h1, _, h3⟩ := h
  obtain ⟨n, j, k1, _, k3⟩ := k
  rw [h1] at k1
  simp only [Datum.number.injEq] at k1
  obtain ⟨rfl, rfl, rfl⟩ := k1
  exact ⟨rfl, h3.trans k3.symm⟩
theorem word_of_NV {x A : Nat} (hw : Wd x) (h : NV (some x) A) (h0 : 0 < A) : key x = (rung x : Int) ∧ A = valR 23 925 (rung x) := by
  obtain ⟨y, s, hy, hf, hs⟩ := h
  cases hy
  have hs : s = false := by cases s with | false => rfl | true => have := hs rfl; omega
  subst hs
  rcases wd_read hw with ⟨_, h2⟩ | ⟨_, h2⟩
  · obtain ⟨e1, e2⟩ := FinS_same hf h2
    refine ⟨?_, e2⟩
    unfold key
    rw [← e1]
    simp [sg]
  · obtain ⟨m, i, h3, _⟩ := hf
    rw [h2] at h3; cases h3
theorem uniq {x y A : Nat} (hx : Wd x) (hy : Wd y) (h : NV (some x) A) (k : NV (some y) A) (h0 : 0 < A) : x = y := by
  obtain ⟨e1, e2⟩ := word_of_NV hx h h0
  obtain ⟨e3, e4⟩ := word_of_NV hy k h0
  have hr : rung x = rung y := by
    rcases Nat.lt_trichotomy (rung x) (rung y) with h | h | h
    · have := valR_lt h; omega
    · exact h
    · have := valR_lt h; omega
  refine key_inj hx.1 hy.1 (by rw [e1, e3, hr]) ?_
  intro hz
  rw [e1] at hz
  have : rung x = 0 := by omega
  rw [this, valR_zero] at e2
  omega
theorem uniqO {o u : Option Nat} {A : Nat} (ho : ∀ z, o = some z → Wd z) (hu : ∀ z, u = some z → Wd z) (h : NV o A) (k : NV u A) (h0 : 0 < A) : o = u := by
  obtain ⟨x, s, rfl, h1⟩ := h
  obtain ⟨y, t, rfl, k1⟩ := k
  rw [uniq (ho x rfl) (hu y rfl) ⟨x, s, rfl, h1⟩ ⟨y, t, rfl, k1⟩ h0]
theorem fop_wdO (op : BinOp) (a b : Option Nat) : ∀ z, fop op .f32 a b = some z → Wd z := fun z h => fop_wd h
-- the share of two numbers below 96
abbrev w32 : Nat := 1107296256
def qok (p q : Nat) : Bool := match val (fopReal .quo .f32 (grR w32 (Int.ofNat p)) (grR w32 (Int.ofNat q))) with
  | some v => Nat.ble v (2 ^ 1074) && Nat.ble (v * q) ((p * 2 ^ 21 + q) * 2 ^ 1053)
  | none => false
def qall (a n : Nat) : Bool := (List.range n).all fun j => (List.range (a + j)).all fun p => qok p (a + j)
theorem qa0 : qall 0 40 = true := by decide +kernel
theorem qa1 : qall 40 20 = true := by decide +kernel
theorem qa2 : qall 60 15 = true := by decide +kernel
theorem qa3 : qall 75 12 = true := by decide +kernel
theorem qa4 : qall 87 10 = true := by decide +kernel
theorem qall_of {a n p q : Nat} (h : qall a n = true) (h1 : a ≤ q) (h2 : q < a + n) (hp : p < q) : qok p q = true := by
  unfold qall at h
  rw [List.all_eq_true] at h
  have := h (q - a) (List.mem_range.2 (by omega))
  rw [show a + (q - a) = q by omega, List.all_eq_true] at this
  exact this p (List.mem_range.2 hp)
theorem qok_of {p q : Nat} (hp : p < q) (hq : q < 97) : qok p q = true := by
  by_cases h0 : q < 40
  · exact qall_of qa0 (by omega) (by omega) hp
  · by_cases h1 : q < 60
    · exact qall_of qa1 (by omega) (by omega) hp
    · by_cases h2 : q < 75
      · exact qall_of qa2 (by omega) (by omega) hp
      · by_cases h3 : q < 87
        · exact qall_of qa3 (by omega) (by omega) hp
        · exact qall_of qa4 (by omega) (by omega) hp
theorem quo_of {o u : Option Nat} {p q : Nat} (ho : ∀ z, o = some z → Wd z) (hu : ∀ z, u = some z → Wd z) (h : NV o (p * 2 ^ 1069)) (k : NV u (q * 2 ^ 1069)) (h0 : 0 < p) (hp : p < q) (hq : q < 97)
    (gp : NV (gr w32 (Int.ofNat p)) (p * 2 ^ 1069)) (gq : NV (gr w32 (Int.ofNat q)) (q * 2 ^ 1069)) : ∃ v, NV (fop .quo .f32 o u) v ∧ v ≤ 2 ^ 1074 ∧ v * q ≤ (p * 2 ^ 21 + q) * 2 ^ 1053 := by
  have hpow : 0 < (2 : Nat) ^ 1069 := Nat.two_pow_pos _
  have e1 : o = gr w32 (Int.ofNat p) := uniqO ho (fop_wdO _ _ _) h gp (Nat.mul_pos h0 hpow)
  have e2 : u = gr w32 (Int.ofNat q) := uniqO hu (fop_wdO _ _ _) k gq (Nat.mul_pos (by omega) hpow)
  have h := qok_of hp hq
  unfold qok at h
  rw [e1, e2, gr_eq, gr_eq, fop_eq]
  split at h
  · rename_i v hv
    simp only [Bool.and_eq_true] at h
    exact ⟨v, NV_val hv, Nat.le_of_ble_eq_true h.1, Nat.le_of_ble_eq_true h.2⟩
  · cases h
theorem c97 : chk w32 1069 97 = true := by decide +kernel
end Go.Sx.Ink
set_option linter.unusedVariables false
set_option linter.unusedSimpArgs false
set_option maxRecDepth 100000
namespace Go.Proofs.Ytpnjimpiphbcfaa.J1
open Go.Sx Go.Sx.R0 Go.Sx.C5 Go.Sx.C1 Go.Sx.Fl Go.Sx.Ink

def ur (g : Nat → Int) (i : Nat) : List AV := [.int .u8 (g i)]
def qj (n j : Nat) : Bool := decide (IntKind.i64.wrap (Int.ofNat j + 1) ≤ (n : Int))
def bt (n : Nat) (g : Nat → Int) (j : Nat) : Int := bif decide (Int.ofNat j < (n : Int)) then IntKind.i64.wrap (g ((Int.ofNat j).toNat + 0)) else 0
def sy (n : Nat) (g : Nat → Int) (j : Nat) (y : Int) : Int := IntKind.u64.wrap (IntKind.u64.wrap (IntKind.u64.wrap (y * 6364136223846793005) + IntKind.u64.wrap (bt n g j)) + 1442695040888963407)
def rt (n : Nat) (g : Nat → Int) (j : Nat) (y : Int) : Int := IntKind.i64.wrap (bitsOp .and .u64 ((sy n g j y).fdiv (2 ^ min (Int.toNat 40) IntKind.u64.bits)) 255)
def xp (n : Nat) (g : Nat → Int) (m : Int) (j : Nat) (y : Int) : Int := bif qj n j then (bt n g j).tmod m else (rt n g j y).tmod m
def mS (n : Nat) (g : Nat → Int) (j : Nat) (y : Int) : List Blk := [.one true [.slc 1 0 n, .int .i64 (.ofNat j), .int .u64 y], .rows false n 1 (ur g)]
def mW (n : Nat) (g : Nat → Int) (j : Nat) (y : Int) : List Blk := [.one true [.slc 1 0 n, .int .i64 (IntKind.i64.wrap (Int.ofNat j + 1)), .int .u64 (sy n g j y)], .rows false n 1 (ur g)]
def oj (n j : Nat) : Bool := impB (decide (Int.ofNat j < (n : Int))) (andB (inB (Int.ofNat j) n) (andB (Nat.blt ((Int.ofNat j).toNat + 0) n) true))
theorem oj_true (n j : Nat) : oj n j = true := by
  unfold oj
  by_cases h : j < n
  · rw [inB_nat h, show Nat.blt ((Int.ofNat j).toNat + 0) n = true from blt_lt h]
    cases decide (Int.ofNat j < (n : Int)) <;> rfl
  · rw [ofNat_lt, decide_eq_false h]
    exact Go.Sx.R0.imp_f _
def okM (m : Int) : Bool := m == 2 || m == 4 || m == 8 || m == 9 || m == 16 || m == 17 || m == 25 || m == 33 || m == 65
theorem eM2 (n : Nat) (g : Nat → Int) (j : Nat) (y : Int) : evM Try.prog extK noL 20 8 41 [.ptr 0 0 0, .lit (.int .i64 2)] (mS n g j y) = some (.node (qj n j) (.leaf (.int .i64 ((bt n g j).tmod 2), some (mW n g j y))) (.leaf (.int .i64 ((rt n g j y).tmod 2), some (mW n g j y))), andB (andB (andB (oj n j) true) true) true) := by kernel_rfl
theorem eM4 (n : Nat) (g : Nat → Int) (j : Nat) (y : Int) : evM Try.prog extK noL 20 8 41 [.ptr 0 0 0, .lit (.int .i64 4)] (mS n g j y) = some (.node (qj n j) (.leaf (.int .i64 ((bt n g j).tmod 4), some (mW n g j y))) (.leaf (.int .i64 ((rt n g j y).tmod 4), some (mW n g j y))), andB (andB (andB (oj n j) true) true) true) := by kernel_rfl
theorem eM8 (n : Nat) (g : Nat → Int) (j : Nat) (y : Int) : evM Try.prog extK noL 20 8 41 [.ptr 0 0 0, .lit (.int .i64 8)] (mS n g j y) = some (.node (qj n j) (.leaf (.int .i64 ((bt n g j).tmod 8), some (mW n g j y))) (.leaf (.int .i64 ((rt n g j y).tmod 8), some (mW n g j y))), andB (andB (andB (oj n j) true) true) true) := by kernel_rfl
theorem eM9 (n : Nat) (g : Nat → Int) (j : Nat) (y : Int) : evM Try.prog extK noL 20 8 41 [.ptr 0 0 0, .lit (.int .i64 9)] (mS n g j y) = some (.node (qj n j) (.leaf (.int .i64 ((bt n g j).tmod 9), some (mW n g j y))) (.leaf (.int .i64 ((rt n g j y).tmod 9), some (mW n g j y))), andB (andB (andB (oj n j) true) true) true) := by kernel_rfl
theorem eM16 (n : Nat) (g : Nat → Int) (j : Nat) (y : Int) : evM Try.prog extK noL 20 8 41 [.ptr 0 0 0, .lit (.int .i64 16)] (mS n g j y) = some (.node (qj n j) (.leaf (.int .i64 ((bt n g j).tmod 16), some (mW n g j y))) (.leaf (.int .i64 ((rt n g j y).tmod 16), some (mW n g j y))), andB (andB (andB (oj n j) true) true) true) := by kernel_rfl
theorem eM17 (n : Nat) (g : Nat → Int) (j : Nat) (y : Int) : evM Try.prog extK noL 20 8 41 [.ptr 0 0 0, .lit (.int .i64 17)] (mS n g j y) = some (.node (qj n j) (.leaf (.int .i64 ((bt n g j).tmod 17), some (mW n g j y))) (.leaf (.int .i64 ((rt n g j y).tmod 17), some (mW n g j y))), andB (andB (andB (oj n j) true) true) true) := by kernel_rfl
theorem eM25 (n : Nat) (g : Nat → Int) (j : Nat) (y : Int) : evM Try.prog extK noL 20 8 41 [.ptr 0 0 0, .lit (.int .i64 25)] (mS n g j y) = some (.node (qj n j) (.leaf (.int .i64 ((bt n g j).tmod 25), some (mW n g j y))) (.leaf (.int .i64 ((rt n g j y).tmod 25), some (mW n g j y))), andB (andB (andB (oj n j) true) true) true) := by kernel_rfl
theorem eM33 (n : Nat) (g : Nat → Int) (j : Nat) (y : Int) : evM Try.prog extK noL 20 8 41 [.ptr 0 0 0, .lit (.int .i64 33)] (mS n g j y) = some (.node (qj n j) (.leaf (.int .i64 ((bt n g j).tmod 33), some (mW n g j y))) (.leaf (.int .i64 ((rt n g j y).tmod 33), some (mW n g j y))), andB (andB (andB (oj n j) true) true) true) := by kernel_rfl
theorem eM65 (n : Nat) (g : Nat → Int) (j : Nat) (y : Int) : evM Try.prog extK noL 20 8 41 [.ptr 0 0 0, .lit (.int .i64 65)] (mS n g j y) = some (.node (qj n j) (.leaf (.int .i64 ((bt n g j).tmod 65), some (mW n g j y))) (.leaf (.int .i64 ((rt n g j y).tmod 65), some (mW n g j y))), andB (andB (andB (oj n j) true) true) true) := by kernel_rfl
noncomputable def okS (n : Nat) (g : Nat → Int) (H : List Blk) (j : Nat) (y : Int) : Bool := pB (HLe H (mS n g j y) ∧ j ≤ 1000)
theorem okS_true {n : Nat} {g : Nat → Int} {H : List Blk} {j : Nat} {y : Int} (h : HLe H (mS n g j y)) (hj : j ≤ 1000) : okS n g H j y = true := pB_true ⟨h, hj⟩
theorem okS_self {n : Nat} {g : Nat → Int} {j : Nat} {y : Int} (hj : j ≤ 1000) : okS n g (mS n g j y) j y = true := okS_true (HLe.refl _) hj
noncomputable def runPk (n : Nat) (g : Nat → Int) : List AV → List Blk → Option Lf := fun args H => match args, H with
  | [.ptr 0 0 0, .lit (.int .i64 m)], .one w [s, a, b] :: t => (match delit a, delit b with
    | .int .i64 (.ofNat j), .int .u64 y => bif okM m then some (.leaf (.int .i64 (xp n g m j y), some (mS n g (j + 1) (sy n g j y))), okS n g (.one w [s, a, b] :: t) j y) else none
    | _, _ => none)
  | _, _ => none
theorem pk_le {n : Nat} {g : Nat → Int} {j : Nat} {y : Int} (hj : j ≤ 1000) (m : Int) : LLe (Tr.get (.node (qj n j) (.leaf (.int .i64 ((bt n g j).tmod m), some (mW n g j y))) (.leaf (.int .i64 ((rt n g j y).tmod m), some (mW n g j y))))) (.int .i64 (xp n g m j y), some (mS n g (j + 1) (sy n g j y))) := by
  have e : mW n g j y = mS n g (j + 1) (sy n g j y) := by
    unfold mW mS
    rw [wrap_i64 (by simp only [Int.ofNat_eq_natCast]; omega) (by simp only [Int.ofNat_eq_natCast]; omega)]
    rfl
  rw [e]
  unfold xp
  cases qj n j <;> exact LLe.refl _
theorem pickOk (n : Nat) (g : Nat → Int) : SumOk Try.prog 41 (selRunR refC (runPk n g)) := by
  have hR : ∀ args H t, runPk n g args H = some (t, true) → ∃ (m : Int) (j : Nat) (y : Int), args = [.ptr 0 0 0, .lit (.int .i64 m)] ∧ okM m = true ∧ HLe H (mS n g j y) ∧ j ≤ 1000 ∧ t = .leaf (.int .i64 (xp n g m j y), some (mS n g (j + 1) (sy n g j y))) := fun args H t hr => by
    unfold runPk at hr
    split at hr
    · split at hr
      · rename_i m w s a b t' _ _ j y _ _
        obtain ⟨hm, h2⟩ := cond_some hr
        clear hr
        simp only [Option.some.injEq, Prod.mk.injEq] at h2
        obtain ⟨rfl, h2⟩ := h2
        obtain ⟨h1, h2⟩ := pB_of h2
        exact ⟨m, j, y, rfl, hm, h1, h2, rfl⟩
      · cases hr
    · cases hr
  refine sum_selR sxApart sxMixed fun args H t hr _ => ?_
  obtain ⟨m, j, y, rfl, hm, h1, h2, rfl⟩ := hR _ _ _ hr
  have key : ∀ (q : Bool), evM Try.prog extK noL 20 8 41 [.ptr 0 0 0, .lit (.int .i64 m)] (mS n g j y) = some (.node (qj n j) (.leaf (.int .i64 ((bt n g j).tmod m), some (mW n g j y))) (.leaf (.int .i64 ((rt n g j y).tmod m), some (mW n g j y))), q) → q = true → ∃ (K : CallerT) (L : LoopOr) (N d : Nat) (T' : Tr (AV × Option (List Blk))) (args' : List AV) (H2 : List Blk), HLe H H2 ∧ CallerTOk Try.prog K ∧
      (∀ fn c, (Program.funcs Try.prog)[41]? = some fn → fn.body = some c → ∀ body st l, LoopIn body c → L body st = some (l, true) → LoopOk Try.prog H2.length body st l) ∧ (∀ (ρ : List Sx.Place) (vals : List Value), VRels ρ [.ptr 0 0 0, .lit (.int .i64 m)] vals → VRels ρ args' vals) ∧ evM Try.prog K L N d 41 args' H2 = some (T', true) ∧ LLe T'.get (Tr.leaf (AV.int .i64 (xp n g m j y), some (mS n g (j + 1) (sy n g j y)))).get := fun q e hq => by
    subst hq
    exact ⟨extK, noL, 20, 8, _, _, mS n g j y, h1, extK_ok, noL_all, fun _ _ h => h, e, pk_le h2 m⟩
  have ho : andB (andB (andB (oj n j) true) true) true = true := by rw [oj_true]; rfl
  have hm' : m = 2 ∨ m = 4 ∨ m = 8 ∨ m = 9 ∨ m = 16 ∨ m = 17 ∨ m = 25 ∨ m = 33 ∨ m = 65 := by
    unfold okM at hm
    simp only [Bool.or_eq_true, beq_iff_eq] at hm
    omega
  rcases hm' with rfl | rfl | rfl | rfl | rfl | rfl | rfl | rfl | rfl
  · exact key _ (eM2 n g j y) ho
  · exact key _ (eM4 n g j y) ho
  · exact key _ (eM8 n g j y) ho
  · exact key _ (eM9 n g j y) ho
  · exact key _ (eM16 n g j y) ho
  · exact key _ (eM17 n g j y) ho
  · exact key _ (eM25 n g j y) ho
  · exact key _ (eM33 n g j y) ho
  · exact key _ (eM65 n g j y) ho
end Go.Proofs.Ytpnjimpiphbcfaa.J1
set_option linter.unusedVariables false
set_option linter.unusedSimpArgs false
set_option maxRecDepth 100000
namespace Go.Proofs.Ytpnjimpiphbcfaa.J2
open Go.Sx Go.Sx.R0 Go.Sx.C5 Go.Sx.C1 Go.Sx.Fl Go.Sx.Ink Go.Proofs.Ytpnjimpiphbcfaa.J1

/-- a drawing: the value and the source behind it; E: blocks that it leaves -/
noncomputable def runD (n : Nat) (g : Nat → Int) (J : Nat → Int → Nat) (Y : Nat → Int → Int) (V : Nat → Int → AV) (E : List Blk) (M : Nat) : List AV → List Blk → Option Lf := fun args H => match args, H with
  | [.ptr 0 0 0], .one w [s, a, b] :: t => (match delit a, delit b with
    | .int .i64 (.ofNat j), .int .u64 y => some (.leaf (V j y, some (appH (mS n g (J j y) (Y j y)) E)), andB (okS n g (.one w [s, a, b] :: t) j y) (Nat.ble j M))
    | _, _ => none)
  | _, _ => none
theorem drawOk {f : FuncId} {n : Nat} {g : Nat → Int} {J : Nat → Int → Nat} {Y : Nat → Int → Int} {V : Nat → Int → AV} {E : List Blk} {M : Nat}
    (h : ∀ (j : Nat) (y : Int), j ≤ M → j ≤ 1000 → ∃ (K : CallerT) (L : LoopOr) (N d : Nat) (T' : Tr (AV × Option (List Blk))), CallerTOk Try.prog K ∧ LOk Try.prog 2 f L ∧ evM Try.prog K L N d f [.ptr 0 0 0] (mS n g j y) = some (T', true) ∧ LLe T'.get (V j y, some (appH (mS n g (J j y) (Y j y)) E))) : SumOk Try.prog f (selRunR refC (runD n g J Y V E M)) := by
  have hR : ∀ args H t, runD n g J Y V E M args H = some (t, true) → ∃ (j : Nat) (y : Int), args = [.ptr 0 0 0] ∧ HLe H (mS n g j y) ∧ j ≤ M ∧ j ≤ 1000 ∧ t = .leaf (V j y, some (appH (mS n g (J j y) (Y j y)) E)) := fun args H t hr => by
    unfold runD at hr
    split at hr
    · split at hr
      · rename_i w s a b t' _ _ j y _ _
        simp only [Option.some.injEq, Prod.mk.injEq] at hr
        obtain ⟨rfl, h2⟩ := hr
        obtain ⟨h2, h3⟩ := andB_true h2
        obtain ⟨h1, h2⟩ := pB_of h2
        exact ⟨j, y, rfl, h1, Nat.le_of_ble_eq_true h3, h2, rfl⟩
      · cases hr
    · cases hr
  refine sum_selR sxApart sxMixed fun args H t hr _ => ?_
  obtain ⟨j, y, rfl, h1, h3, h2, rfl⟩ := hR _ _ _ hr
  obtain ⟨K, L, N, d, T', hK, hL, he, hl⟩ := h j y h3 h2
  exact ⟨K, L, N, d, T', _, mS n g j y, h1, hK, hL, fun _ _ h => h, he, hl⟩
abbrev w64 : Nat := 1115684864
abbrev w2 : Nat := 1073741824
-- a plain number
noncomputable def pl (n : Nat) (g : Nat → Int) (j : Nat) (y : Int) : Option Nat := gr w64 (xp n g 65 j y)
noncomputable def pK (n : Nat) (g : Nat → Int) : CallerT := addK 41 (selRunR refC (runPk n g)) extK
theorem pK_ok (n : Nat) (g : Nat → Int) : CallerTOk Try.prog (pK n g) := addK_ok (pickOk n g) extK_ok
theorem ePl (n : Nat) (g : Nat → Int) (j : Nat) (y : Int) : evM Try.prog (pK n g) noL 20 8 104 [.ptr 0 0 0] (mS n g j y) = some (.leaf (.flt .f32 (pl n g j y), some (mS n g (j + 1) (sy n g j y))), andB (okS n g (mS n g j y) j y) true) := by kernel_rfl
noncomputable def runPl (n : Nat) (g : Nat → Int) := runD n g (fun j _ => j + 1) (sy n g) (fun j y => .flt .f32 (pl n g j y)) [] 1000
theorem plainOk (n : Nat) (g : Nat → Int) : SumOk Try.prog 104 (selRunR refC (runPl n g)) := drawOk fun j y _ hj => by
  have h := ePl n g j y
  rw [okS_self hj] at h
  exact ⟨_, noL, 20, 8, _, pK_ok n g, noL_all, h, LLe.refl _⟩
-- a bump
noncomputable def bz (p w : Option Nat) (i : Nat) : Option Nat := fop .add .f32 (some 1065353216) (mu (fop .quo .f32 (fop .sub .f32 (fofI .f32 (Int.ofNat i)) p) w) (fop .quo .f32 (fop .sub .f32 (fofI .f32 (Int.ofNat i)) p) w))
noncomputable def bmp (p w : Option Nat) (i : Nat) : Option Nat := fop .quo .f32 (some 1065353216) (mu (bz p w i) (bz p w i))
theorem eBm (p w : Option Nat) : evF Try.prog extK noL 20 8 105 [.flt .f32 p, .flt .f32 w] [] = some (.leaf (.agg (cF (bmp p w)), none), true) := by kernel_rfl
noncomputable def runBm : List AV → List Blk → Option Lf := fun args _ => match args with
  | [.flt .f32 p, .flt .f32 w] => some (.leaf (.agg (cF (bmp p w)), none), true)
  | _ => none
theorem bumpOk : SumOk Try.prog 105 runBm := sum_pure0 sxApart sxMixed extK_ok (N := 20) (d := 8) fun args H t hr => by
  unfold runBm at hr
  split at hr
  · rename_i p w
    simp only [Option.some.injEq, Prod.mk.injEq] at hr
    obtain ⟨rfl, _⟩ := hr
    exact ⟨rfl, rfl, rfl, noL, fun _ _ _ _ => noL_ok, _, eBm p w, rfl⟩
  · cases hr
-- a curve
noncomputable def yk (n : Nat) (g : Nat → Int) (j : Nat) (y : Int) : Nat → Int
  | 0 => y
  | k + 1 => sy n g (j + k) (yk n g j y k)
noncomputable def q0 (n : Nat) (g : Nat → Int) (j : Nat) (y : Int) : Bool := (xp n g 4 j y == 0)
noncomputable def q1 (n : Nat) (g : Nat → Int) (j : Nat) (y : Int) : Bool := (xp n g 4 j y == 1)
noncomputable def bp (n : Nat) (g : Nat → Int) (j : Nat) (y : Int) : Option Nat := gr w2 (xp n g 33 (j + 1) (yk n g j y 1))
noncomputable def bw (n : Nat) (g : Nat → Int) (j : Nat) (y : Int) : Option Nat := gr w2 (IntKind.i64.wrap (1 + xp n g 8 (j + 2) (yk n g j y 2)))
noncomputable def smJ (n : Nat) (g : Nat → Int) (j : Nat) (y : Int) : Nat := bif q0 n g j y then j + 2 else bif q1 n g j y then j + 3 else j + 17
noncomputable def smY (n : Nat) (g : Nat → Int) (j : Nat) (y : Int) : Int := bif q0 n g j y then yk n g j y 2 else bif q1 n g j y then yk n g j y 3 else yk n g j y 17
noncomputable def smF (n : Nat) (g : Nat → Int) (j : Nat) (y : Int) (w : Nat) : Option Nat := bif q0 n g j y then pl n g (j + 1) (yk n g j y 1) else bif q1 n g j y then bmp (bp n g j y) (bw n g j y) w else pl n g (j + 1 + w) (yk n g j y (1 + w))
noncomputable def sK (n : Nat) (g : Nat → Int) : CallerT := addK 104 (selRunR refC (runPl n g)) (addK 105 runBm (pK n g))
theorem sK_ok (n : Nat) (g : Nat → Int) : CallerTOk Try.prog (sK n g) := addK_ok (plainOk n g) (addK_ok bumpOk (pK_ok n g))
noncomputable def kk (n : Nat) (g : Nat → Int) (j : Nat) (y : Int) (k : Nat) : Bool := okS n g (mS n g (j + k) (yk n g j y k)) (j + k) (yk n g j y k)
noncomputable def kp (n : Nat) (g : Nat → Int) (j : Nat) (y : Int) (k : Nat) : Bool := andB (kk n g j y k) (Nat.ble (j + k) 1000)
theorem kk_true {n : Nat} {g : Nat → Int} {j : Nat} {y : Int} {k : Nat} (h : j + k ≤ 1000) : kk n g j y k = true := okS_self h
theorem kp_true {n : Nat} {g : Nat → Int} {j : Nat} {y : Int} {k : Nat} (h : j + k ≤ 1000) : kp n g j y k = true := by unfold kp; rw [kk_true h, Nat.ble_eq_true_of_le h]; rfl
noncomputable def oSm (n : Nat) (g : Nat → Int) (j : Nat) (y : Int) : Bool := andB (kk n g j y 0) (andB (impB (q0 n g j y) (andB (kp n g j y 1) true)) (impB (!q0 n g j y) (andB (impB (q1 n g j y) (andB (kk n g j y 1) (andB (kk n g j y 2) true))) (impB (!q1 n g j y) (andB (kp n g j y 1) (andB (kp n g j y 2) (andB (kp n g j y 3) (andB (kp n g j y 4) (andB (kp n g j y 5) (andB (kp n g j y 6) (andB (kp n g j y 7) (andB (kp n g j y 8) (andB (kp n g j y 9) (andB (kp n g j y 10) (andB (kp n g j y 11) (andB (kp n g j y 12) (andB (kp n g j y 13) (andB (kp n g j y 14) (andB (kp n g j y 15) (andB (kp n g j y 16) (true)))))))))))))))))))))
theorem oSm_true {n : Nat} {g : Nat → Int} {j : Nat} {y : Int} (h : j ≤ 900) : oSm n g j y = true := by
  unfold oSm
  rw [kk_true (k := 0) (by omega), kk_true (k := 1) (by omega), kk_true (k := 2) (by omega), kp_true (k := 1) (by omega), kp_true (k := 2) (by omega), kp_true (k := 3) (by omega), kp_true (k := 4) (by omega), kp_true (k := 5) (by omega), kp_true (k := 6) (by omega), kp_true (k := 7) (by omega), kp_true (k := 8) (by omega), kp_true (k := 9) (by omega), kp_true (k := 10) (by omega), kp_true (k := 11) (by omega), kp_true (k := 12) (by omega), kp_true (k := 13) (by omega), kp_true (k := 14) (by omega), kp_true (k := 15) (by omega), kp_true (k := 16) (by omega)]
  cases q0 n g j y <;> cases q1 n g j y <;> rfl
noncomputable def TSm (n : Nat) (g : Nat → Int) (j : Nat) (y : Int) : Tr (AV × Option (List Blk)) :=
  .node (q0 n g j y) (.leaf (.agg (cF fun _ => pl n g (j + 1) (yk n g j y 1)), some (appH (mS n g (j + 2) (yk n g j y 2)) [.one true (cF fun _ => pl n g (j + 1) (yk n g j y 1)), .one true (cF fun _ => some 0)])))
    (.node (q1 n g j y) (.leaf (.agg (cF (bmp (bp n g j y) (bw n g j y))), some (appH (mS n g (j + 3) (yk n g j y 3)) [.one true (cF (bmp (bp n g j y) (bw n g j y))), .one true (cF fun _ => some 0)])))
      (.leaf (.agg (cF fun w => pl n g (j + 1 + w) (yk n g j y (1 + w))), some (appH (mS n g (j + 17) (yk n g j y 17)) [.one true (cF fun w => pl n g (j + 1 + w) (yk n g j y (1 + w))), .one true (cF fun w => pl n g (j + 1 + w) (yk n g j y (1 + w)))]))))
theorem eSm (n : Nat) (g : Nat → Int) (j : Nat) (y : Int) : evM Try.prog (sK n g) noL 20 8 87 [.ptr 0 0 0] (mS n g j y) = some (TSm n g j y, oSm n g j y) := by kernel_rfl
noncomputable def runSm (n : Nat) (g : Nat → Int) := runD n g (smJ n g) (smY n g) (fun j y => .agg (cF (smF n g j y))) [.dead, .dead] 900
theorem dd (x y : List AV) : HLe [.one true x, .one true y] [.dead, .dead] := ⟨BLe.dead _, BLe.dead _, trivial⟩
theorem mS_dd (n : Nat) (g : Nat → Int) (j : Nat) (y : Int) (a b : List AV) : HLe (appH (mS n g j y) [.one true a, .one true b]) (appH (mS n g j y) [.dead, .dead]) := ⟨BLe.refl _, BLe.refl _, BLe.dead _, BLe.dead _, trivial⟩
theorem smoothOk (n : Nat) (g : Nat → Int) : SumOk Try.prog 87 (selRunR refC (runSm n g)) := drawOk fun j y hj _ => by
  have h := eSm n g j y
  rw [oSm_true hj] at h
  refine ⟨_, noL, 20, 8, _, sK_ok n g, noL_all, h, ?_⟩
  unfold TSm smJ smY
  have hF : smF n g j y = fun w => bif q0 n g j y then pl n g (j + 1) (yk n g j y 1) else bif q1 n g j y then bmp (bp n g j y) (bw n g j y) w else pl n g (j + 1 + w) (yk n g j y (1 + w)) := rfl
  rw [hF]
  cases q0 n g j y <;> cases q1 n g j y <;> exact ⟨rfl, mS_dd n g _ _ _ _⟩
end Go.Proofs.Ytpnjimpiphbcfaa.J2
set_option linter.unusedVariables false
set_option linter.unusedSimpArgs false
set_option maxRecDepth 100000
namespace Go.Proofs.Ytpnjimpiphbcfaa.J3
open Go.Sx Go.Sx.R0 Go.Sx.C5 Go.Sx.C1 Go.Sx.Fl Go.Sx.Ink Go.Proofs.Ytpnjimpiphbcfaa.J1 Go.Proofs.Ytpnjimpiphbcfaa.J2

/-- a number that is no share becomes a half -/
noncomputable def mend (o : Option Nat) : Option Nat := bif sh o then o else some 1056964608
noncomputable def dS (n : Nat) (g : Nat → Int) (j : Nat) (y : Int) : Nat → Nat × Int
  | 0 => (j + 2, yk n g j y 2)
  | i + 1 => (smJ n g (dS n g j y i).1 (dS n g j y i).2, smY n g (dS n g j y i).1 (dS n g j y i).2)
noncomputable def dF (n : Nat) (g : Nat → Int) (j : Nat) (y : Int) (i : Nat) : Nat → Option Nat := smF n g (dS n g j y i).1 (dS n g j y i).2
noncomputable def pap (n : Nat) (g : Nat → Int) (j : Nat) (y : Int) : Option Nat := gr w64 (IntKind.i64.wrap (40 + xp n g 25 j y))
abbrev w16 : Nat := 1098907648
noncomputable def gai (n : Nat) (g : Nat → Int) (j : Nat) (y : Int) : Option Nat := gr w16 (xp n g 9 (j + 1) (yk n g j y 1))
/-- the press behind some rounds -/
noncomputable def pF (n : Nat) (g : Nat → Int) (j : Nat) (y : Int) (i : Nat) (k : Nat) : Option Nat :=
  bif Nat.blt k 16 then pap n g j y else bif Nat.blt k (16 + 16 * i) then mend (dF n g j y ((k - 16) / 16) ((k - 16) % 16)) else bif Nat.blt k 80 then some 0 else gai n g j y
noncomputable def Mw (w : Nat) (F : Nat → Option Nat) (k : Nat) : Option Nat := bif Nat.blt k w then mend (F k) else F k
noncomputable def Mx (w : Nat) (x : Option Nat) (F : Nat → Option Nat) (k : Nat) : Option Nat := bif Nat.beq k w then x else Mw w F k
noncomputable def cbs (n : Nat) (g : Nat → Int) (j : Nat) (y : Int) : Nat → List Blk
  | 0 => []
  | i + 1 => appH (cbs n g j y i) [.dead, .dead, .one true (cF (Mw 16 (dF n g j y i)))]
noncomputable def hp0 (n : Nat) (g : Nat → Int) (j : Nat) (y : Int) (i : Nat) : List Blk := appH (mS n g (dS n g j y (i + 1)).1 (dS n g j y (i + 1)).2) (appH [.one true (pcs fun _ => some 0), .one true (pcs (pF n g j y i))] (cbs n g j y i))
noncomputable def hp1 (n : Nat) (g : Nat → Int) (j : Nat) (y : Int) (i : Nat) (F : Nat → Option Nat) : List Blk := appH (hp0 n g j y i) [.dead, .dead, .one true (cF F)]
noncomputable def SI (n : Nat) (g : Nat → Int) (j : Nat) (y : Int) (i : Nat) (a : AV) (F : Nat → Option Nat) : St := ⟨[.ptr 0 0 0, .junk, .ptr 2 0 0, .ptr 3 0 0, .int .i64 (Int.ofNat i), .ptr (6 + 3 * i) 0 0, a] ++ junks 33, hp1 n g j y i F⟩
noncomputable def EI (n : Nat) (g : Nat → Int) (j : Nat) (y : Int) (i : Nat) (F : Nat → Option Nat) : St := ⟨[.ptr 0 0 0, .junk, .ptr 2 0 0, .ptr 3 0 0, .int .i64 (Int.ofNat i), .ptr (6 + 3 * i) 0 0] ++ junks 34, hp1 n g j y i F⟩
theorem rd0_0 (n : Nat) (g : Nat → Int) (j : Nat) (y : Int) (F : Nat → Option Nat) : evC JS Try.prog (callF Try.prog extK 20 8) noL 20 (loopN Try.prog 52 8) (SI n g j y 0 (.lit (.int .i64 0)) (Mw 0 F)) (kG 2 [0, 2, 3, 4, 5, 6] [0, 2, 3, 4, 5] none none) = some (.node (!sh (F (0 + 0))) (.leaf (.nrm, SI n g j y 0 (.int .i64 1) (Mx 0 (some 1056964608) F))) (.leaf (.nrm, SI n g j y 0 (.int .i64 1) (Mx 0 (F 0) F))), true) := by kernel_rfl
theorem rd0_1 (n : Nat) (g : Nat → Int) (j : Nat) (y : Int) (F : Nat → Option Nat) : evC JS Try.prog (callF Try.prog extK 20 8) noL 20 (loopN Try.prog 52 8) (SI n g j y 0 (.lit (.int .i64 1)) (Mw 1 F)) (kG 2 [0, 2, 3, 4, 5, 6] [0, 2, 3, 4, 5] none none) = some (.node (!sh (F (0 + 1))) (.leaf (.nrm, SI n g j y 0 (.int .i64 2) (Mx 1 (some 1056964608) F))) (.leaf (.nrm, SI n g j y 0 (.int .i64 2) (Mx 1 (F 1) F))), true) := by kernel_rfl
theorem rd0_2 (n : Nat) (g : Nat → Int) (j : Nat) (y : Int) (F : Nat → Option Nat) : evC JS Try.prog (callF Try.prog extK 20 8) noL 20 (loopN Try.prog 52 8) (SI n g j y 0 (.lit (.int .i64 2)) (Mw 2 F)) (kG 2 [0, 2, 3, 4, 5, 6] [0, 2, 3, 4, 5] none none) = some (.node (!sh (F (0 + 2))) (.leaf (.nrm, SI n g j y 0 (.int .i64 3) (Mx 2 (some 1056964608) F))) (.leaf (.nrm, SI n g j y 0 (.int .i64 3) (Mx 2 (F 2) F))), true) := by kernel_rfl
theorem rd0_3 (n : Nat) (g : Nat → Int) (j : Nat) (y : Int) (F : Nat → Option Nat) : evC JS Try.prog (callF Try.prog extK 20 8) noL 20 (loopN Try.prog 52 8) (SI n g j y 0 (.lit (.int .i64 3)) (Mw 3 F)) (kG 2 [0, 2, 3, 4, 5, 6] [0, 2, 3, 4, 5] none none) = some (.node (!sh (F (0 + 3))) (.leaf (.nrm, SI n g j y 0 (.int .i64 4) (Mx 3 (some 1056964608) F))) (.leaf (.nrm, SI n g j y 0 (.int .i64 4) (Mx 3 (F 3) F))), true) := by kernel_rfl
theorem rd0_4 (n : Nat) (g : Nat → Int) (j : Nat) (y : Int) (F : Nat → Option Nat) : evC JS Try.prog (callF Try.prog extK 20 8) noL 20 (loopN Try.prog 52 8) (SI n g j y 0 (.lit (.int .i64 4)) (Mw 4 F)) (kG 2 [0, 2, 3, 4, 5, 6] [0, 2, 3, 4, 5] none none) = some (.node (!sh (F (0 + 4))) (.leaf (.nrm, SI n g j y 0 (.int .i64 5) (Mx 4 (some 1056964608) F))) (.leaf (.nrm, SI n g j y 0 (.int .i64 5) (Mx 4 (F 4) F))), true) := by kernel_rfl
theorem rd0_5 (n : Nat) (g : Nat → Int) (j : Nat) (y : Int) (F : Nat → Option Nat) : evC JS Try.prog (callF Try.prog extK 20 8) noL 20 (loopN Try.prog 52 8) (SI n g j y 0 (.lit (.int .i64 5)) (Mw 5 F)) (kG 2 [0, 2, 3, 4, 5, 6] [0, 2, 3, 4, 5] none none) = some (.node (!sh (F (0 + 5))) (.leaf (.nrm, SI n g j y 0 (.int .i64 6) (Mx 5 (some 1056964608) F))) (.leaf (.nrm, SI n g j y 0 (.int .i64 6) (Mx 5 (F 5) F))), true) := by kernel_rfl
theorem rd0_6 (n : Nat) (g : Nat → Int) (j : Nat) (y : Int) (F : Nat → Option Nat) : evC JS Try.prog (callF Try.prog extK 20 8) noL 20 (loopN Try.prog 52 8) (SI n g j y 0 (.lit (.int .i64 6)) (Mw 6 F)) (kG 2 [0, 2, 3, 4, 5, 6] [0, 2, 3, 4, 5] none none) = some (.node (!sh (F (0 + 6))) (.leaf (.nrm, SI n g j y 0 (.int .i64 7) (Mx 6 (some 1056964608) F))) (.leaf (.nrm, SI n g j y 0 (.int .i64 7) (Mx 6 (F 6) F))), true) := by kernel_rfl
theorem rd0_7 (n : Nat) (g : Nat → Int) (j : Nat) (y : Int) (F : Nat → Option Nat) : evC JS Try.prog (callF Try.prog extK 20 8) noL 20 (loopN Try.prog 52 8) (SI n g j y 0 (.lit (.int .i64 7)) (Mw 7 F)) (kG 2 [0, 2, 3, 4, 5, 6] [0, 2, 3, 4, 5] none none) = some (.node (!sh (F (0 + 7))) (.leaf (.nrm, SI n g j y 0 (.int .i64 8) (Mx 7 (some 1056964608) F))) (.leaf (.nrm, SI n g j y 0 (.int .i64 8) (Mx 7 (F 7) F))), true) := by kernel_rfl
theorem rd0_8 (n : Nat) (g : Nat → Int) (j : Nat) (y : Int) (F : Nat → Option Nat) : evC JS Try.prog (callF Try.prog extK 20 8) noL 20 (loopN Try.prog 52 8) (SI n g j y 0 (.lit (.int .i64 8)) (Mw 8 F)) (kG 2 [0, 2, 3, 4, 5, 6] [0, 2, 3, 4, 5] none none) = some (.node (!sh (F (0 + 8))) (.leaf (.nrm, SI n g j y 0 (.int .i64 9) (Mx 8 (some 1056964608) F))) (.leaf (.nrm, SI n g j y 0 (.int .i64 9) (Mx 8 (F 8) F))), true) := by kernel_rfl
theorem rd0_9 (n : Nat) (g : Nat → Int) (j : Nat) (y : Int) (F : Nat → Option Nat) : evC JS Try.prog (callF Try.prog extK 20 8) noL 20 (loopN Try.prog 52 8) (SI n g j y 0 (.lit (.int .i64 9)) (Mw 9 F)) (kG 2 [0, 2, 3, 4, 5, 6] [0, 2, 3, 4, 5] none none) = some (.node (!sh (F (0 + 9))) (.leaf (.nrm, SI n g j y 0 (.int .i64 10) (Mx 9 (some 1056964608) F))) (.leaf (.nrm, SI n g j y 0 (.int .i64 10) (Mx 9 (F 9) F))), true) := by kernel_rfl
theorem rd0_10 (n : Nat) (g : Nat → Int) (j : Nat) (y : Int) (F : Nat → Option Nat) : evC JS Try.prog (callF Try.prog extK 20 8) noL 20 (loopN Try.prog 52 8) (SI n g j y 0 (.lit (.int .i64 10)) (Mw 10 F)) (kG 2 [0, 2, 3, 4, 5, 6] [0, 2, 3, 4, 5] none none) = some (.node (!sh (F (0 + 10))) (.leaf (.nrm, SI n g j y 0 (.int .i64 11) (Mx 10 (some 1056964608) F))) (.leaf (.nrm, SI n g j y 0 (.int .i64 11) (Mx 10 (F 10) F))), true) := by kernel_rfl
theorem rd0_11 (n : Nat) (g : Nat → Int) (j : Nat) (y : Int) (F : Nat → Option Nat) : evC JS Try.prog (callF Try.prog extK 20 8) noL 20 (loopN Try.prog 52 8) (SI n g j y 0 (.lit (.int .i64 11)) (Mw 11 F)) (kG 2 [0, 2, 3, 4, 5, 6] [0, 2, 3, 4, 5] none none) = some (.node (!sh (F (0 + 11))) (.leaf (.nrm, SI n g j y 0 (.int .i64 12) (Mx 11 (some 1056964608) F))) (.leaf (.nrm, SI n g j y 0 (.int .i64 12) (Mx 11 (F 11) F))), true) := by kernel_rfl
theorem rd0_12 (n : Nat) (g : Nat → Int) (j : Nat) (y : Int) (F : Nat → Option Nat) : evC JS Try.prog (callF Try.prog extK 20 8) noL 20 (loopN Try.prog 52 8) (SI n g j y 0 (.lit (.int .i64 12)) (Mw 12 F)) (kG 2 [0, 2, 3, 4, 5, 6] [0, 2, 3, 4, 5] none none) = some (.node (!sh (F (0 + 12))) (.leaf (.nrm, SI n g j y 0 (.int .i64 13) (Mx 12 (some 1056964608) F))) (.leaf (.nrm, SI n g j y 0 (.int .i64 13) (Mx 12 (F 12) F))), true) := by kernel_rfl
theorem rd0_13 (n : Nat) (g : Nat → Int) (j : Nat) (y : Int) (F : Nat → Option Nat) : evC JS Try.prog (callF Try.prog extK 20 8) noL 20 (loopN Try.prog 52 8) (SI n g j y 0 (.lit (.int .i64 13)) (Mw 13 F)) (kG 2 [0, 2, 3, 4, 5, 6] [0, 2, 3, 4, 5] none none) = some (.node (!sh (F (0 + 13))) (.leaf (.nrm, SI n g j y 0 (.int .i64 14) (Mx 13 (some 1056964608) F))) (.leaf (.nrm, SI n g j y 0 (.int .i64 14) (Mx 13 (F 13) F))), true) := by kernel_rfl
theorem rd0_14 (n : Nat) (g : Nat → Int) (j : Nat) (y : Int) (F : Nat → Option Nat) : evC JS Try.prog (callF Try.prog extK 20 8) noL 20 (loopN Try.prog 52 8) (SI n g j y 0 (.lit (.int .i64 14)) (Mw 14 F)) (kG 2 [0, 2, 3, 4, 5, 6] [0, 2, 3, 4, 5] none none) = some (.node (!sh (F (0 + 14))) (.leaf (.nrm, SI n g j y 0 (.int .i64 15) (Mx 14 (some 1056964608) F))) (.leaf (.nrm, SI n g j y 0 (.int .i64 15) (Mx 14 (F 14) F))), true) := by kernel_rfl
theorem rd0_15 (n : Nat) (g : Nat → Int) (j : Nat) (y : Int) (F : Nat → Option Nat) : evC JS Try.prog (callF Try.prog extK 20 8) noL 20 (loopN Try.prog 52 8) (SI n g j y 0 (.lit (.int .i64 15)) (Mw 15 F)) (kG 2 [0, 2, 3, 4, 5, 6] [0, 2, 3, 4, 5] none none) = some (.node (!sh (F (0 + 15))) (.leaf (.nrm, SI n g j y 0 (.int .i64 16) (Mx 15 (some 1056964608) F))) (.leaf (.nrm, SI n g j y 0 (.int .i64 16) (Mx 15 (F 15) F))), true) := by kernel_rfl
theorem rd0_16 (n : Nat) (g : Nat → Int) (j : Nat) (y : Int) (F : Nat → Option Nat) : evC JS Try.prog (callF Try.prog extK 20 8) noL 20 (loopN Try.prog 52 8) (SI n g j y 0 (.lit (.int .i64 16)) (Mw 16 F)) (kG 2 [0, 2, 3, 4, 5, 6] [0, 2, 3, 4, 5] none none) = some (.leaf (.ext 2, EI n g j y 0 (Mw 16 F)), true) := by kernel_rfl
theorem rd1_0 (n : Nat) (g : Nat → Int) (j : Nat) (y : Int) (F : Nat → Option Nat) : evC JS Try.prog (callF Try.prog extK 20 8) noL 20 (loopN Try.prog 52 8) (SI n g j y 1 (.lit (.int .i64 0)) (Mw 0 F)) (kG 2 [0, 2, 3, 4, 5, 6] [0, 2, 3, 4, 5] none none) = some (.node (!sh (F (0 + 0))) (.leaf (.nrm, SI n g j y 1 (.int .i64 1) (Mx 0 (some 1056964608) F))) (.leaf (.nrm, SI n g j y 1 (.int .i64 1) (Mx 0 (F 0) F))), true) := by kernel_rfl
theorem rd1_1 (n : Nat) (g : Nat → Int) (j : Nat) (y : Int) (F : Nat → Option Nat) : evC JS Try.prog (callF Try.prog extK 20 8) noL 20 (loopN Try.prog 52 8) (SI n g j y 1 (.lit (.int .i64 1)) (Mw 1 F)) (kG 2 [0, 2, 3, 4, 5, 6] [0, 2, 3, 4, 5] none none) = some (.node (!sh (F (0 + 1))) (.leaf (.nrm, SI n g j y 1 (.int .i64 2) (Mx 1 (some 1056964608) F))) (.leaf (.nrm, SI n g j y 1 (.int .i64 2) (Mx 1 (F 1) F))), true) := by kernel_rfl
theorem rd1_2 (n : Nat) (g : Nat → Int) (j : Nat) (y : Int) (F : Nat → Option Nat) : evC JS Try.prog (callF Try.prog extK 20 8) noL 20 (loopN Try.prog 52 8) (SI n g j y 1 (.lit (.int .i64 2)) (Mw 2 F)) (kG 2 [0, 2, 3, 4, 5, 6] [0, 2, 3, 4, 5] none none) = some (.node (!sh (F (0 + 2))) (.leaf (.nrm, SI n g j y 1 (.int .i64 3) (Mx 2 (some 1056964608) F))) (.leaf (.nrm, SI n g j y 1 (.int .i64 3) (Mx 2 (F 2) F))), true) := by kernel_rfl
theorem rd1_3 (n : Nat) (g : Nat → Int) (j : Nat) (y : Int) (F : Nat → Option Nat) : evC JS Try.prog (callF Try.prog extK 20 8) noL 20 (loopN Try.prog 52 8) (SI n g j y 1 (.lit (.int .i64 3)) (Mw 3 F)) (kG 2 [0, 2, 3, 4, 5, 6] [0, 2, 3, 4, 5] none none) = some (.node (!sh (F (0 + 3))) (.leaf (.nrm, SI n g j y 1 (.int .i64 4) (Mx 3 (some 1056964608) F))) (.leaf (.nrm, SI n g j y 1 (.int .i64 4) (Mx 3 (F 3) F))), true) := by kernel_rfl
theorem rd1_4 (n : Nat) (g : Nat → Int) (j : Nat) (y : Int) (F : Nat → Option Nat) : evC JS Try.prog (callF Try.prog extK 20 8) noL 20 (loopN Try.prog 52 8) (SI n g j y 1 (.lit (.int .i64 4)) (Mw 4 F)) (kG 2 [0, 2, 3, 4, 5, 6] [0, 2, 3, 4, 5] none none) = some (.node (!sh (F (0 + 4))) (.leaf (.nrm, SI n g j y 1 (.int .i64 5) (Mx 4 (some 1056964608) F))) (.leaf (.nrm, SI n g j y 1 (.int .i64 5) (Mx 4 (F 4) F))), true) := by kernel_rfl
theorem rd1_5 (n : Nat) (g : Nat → Int) (j : Nat) (y : Int) (F : Nat → Option Nat) : evC JS Try.prog (callF Try.prog extK 20 8) noL 20 (loopN Try.prog 52 8) (SI n g j y 1 (.lit (.int .i64 5)) (Mw 5 F)) (kG 2 [0, 2, 3, 4, 5, 6] [0, 2, 3, 4, 5] none none) = some (.node (!sh (F (0 + 5))) (.leaf (.nrm, SI n g j y 1 (.int .i64 6) (Mx 5 (some 1056964608) F))) (.leaf (.nrm, SI n g j y 1 (.int .i64 6) (Mx 5 (F 5) F))), true) := by kernel_rfl
theorem rd1_6 (n : Nat) (g : Nat → Int) (j : Nat) (y : Int) (F : Nat → Option Nat) : evC JS Try.prog (callF Try.prog extK 20 8) noL 20 (loopN Try.prog 52 8) (SI n g j y 1 (.lit (.int .i64 6)) (Mw 6 F)) (kG 2 [0, 2, 3, 4, 5, 6] [0, 2, 3, 4, 5] none none) = some (.node (!sh (F (0 + 6))) (.leaf (.nrm, SI n g j y 1 (.int .i64 7) (Mx 6 (some 1056964608) F))) (.leaf (.nrm, SI n g j y 1 (.int .i64 7) (Mx 6 (F 6) F))), true) := by kernel_rfl
theorem rd1_7 (n : Nat) (g : Nat → Int) (j : Nat) (y : Int) (F : Nat → Option Nat) : evC JS Try.prog (callF Try.prog extK 20 8) noL 20 (loopN Try.prog 52 8) (SI n g j y 1 (.lit (.int .i64 7)) (Mw 7 F)) (kG 2 [0, 2, 3, 4, 5, 6] [0, 2, 3, 4, 5] none none) = some (.node (!sh (F (0 + 7))) (.leaf (.nrm, SI n g j y 1 (.int .i64 8) (Mx 7 (some 1056964608) F))) (.leaf (.nrm, SI n g j y 1 (.int .i64 8) (Mx 7 (F 7) F))), true) := by kernel_rfl
theorem rd1_8 (n : Nat) (g : Nat → Int) (j : Nat) (y : Int) (F : Nat → Option Nat) : evC JS Try.prog (callF Try.prog extK 20 8) noL 20 (loopN Try.prog 52 8) (SI n g j y 1 (.lit (.int .i64 8)) (Mw 8 F)) (kG 2 [0, 2, 3, 4, 5, 6] [0, 2, 3, 4, 5] none none) = some (.node (!sh (F (0 + 8))) (.leaf (.nrm, SI n g j y 1 (.int .i64 9) (Mx 8 (some 1056964608) F))) (.leaf (.nrm, SI n g j y 1 (.int .i64 9) (Mx 8 (F 8) F))), true) := by kernel_rfl
theorem rd1_9 (n : Nat) (g : Nat → Int) (j : Nat) (y : Int) (F : Nat → Option Nat) : evC JS Try.prog (callF Try.prog extK 20 8) noL 20 (loopN Try.prog 52 8) (SI n g j y 1 (.lit (.int .i64 9)) (Mw 9 F)) (kG 2 [0, 2, 3, 4, 5, 6] [0, 2, 3, 4, 5] none none) = some (.node (!sh (F (0 + 9))) (.leaf (.nrm, SI n g j y 1 (.int .i64 10) (Mx 9 (some 1056964608) F))) (.leaf (.nrm, SI n g j y 1 (.int .i64 10) (Mx 9 (F 9) F))), true) := by kernel_rfl
theorem rd1_10 (n : Nat) (g : Nat → Int) (j : Nat) (y : Int) (F : Nat → Option Nat) : evC JS Try.prog (callF Try.prog extK 20 8) noL 20 (loopN Try.prog 52 8) (SI n g j y 1 (.lit (.int .i64 10)) (Mw 10 F)) (kG 2 [0, 2, 3, 4, 5, 6] [0, 2, 3, 4, 5] none none) = some (.node (!sh (F (0 + 10))) (.leaf (.nrm, SI n g j y 1 (.int .i64 11) (Mx 10 (some 1056964608) F))) (.leaf (.nrm, SI n g j y 1 (.int .i64 11) (Mx 10 (F 10) F))), true) := by kernel_rfl
theorem rd1_11 (n : Nat) (g : Nat → Int) (j : Nat) (y : Int) (F : Nat → Option Nat) : evC JS Try.prog (callF Try.prog extK 20 8) noL 20 (loopN Try.prog 52 8) (SI n g j y 1 (.lit (.int .i64 11)) (Mw 11 F)) (kG 2 [0, 2, 3, 4, 5, 6] [0, 2, 3, 4, 5] none none) = some (.node (!sh (F (0 + 11))) (.leaf (.nrm, SI n g j y 1 (.int .i64 12) (Mx 11 (some 1056964608) F))) (.leaf (.nrm, SI n g j y 1 (.int .i64 12) (Mx 11 (F 11) F))), true) := by kernel_rfl
theorem rd1_12 (n : Nat) (g : Nat → Int) (j : Nat) (y : Int) (F : Nat → Option Nat) : evC JS Try.prog (callF Try.prog extK 20 8) noL 20 (loopN Try.prog 52 8) (SI n g j y 1 (.lit (.int .i64 12)) (Mw 12 F)) (kG 2 [0, 2, 3, 4, 5, 6] [0, 2, 3, 4, 5] none none) = some (.node (!sh (F (0 + 12))) (.leaf (.nrm, SI n g j y 1 (.int .i64 13) (Mx 12 (some 1056964608) F))) (.leaf (.nrm, SI n g j y 1 (.int .i64 13) (Mx 12 (F 12) F))), true) := by kernel_rfl
theorem rd1_13 (n : Nat) (g : Nat → Int) (j : Nat) (y : Int) (F : Nat → Option Nat) : evC JS Try.prog (callF Try.prog extK 20 8) noL 20 (loopN Try.prog 52 8) (SI n g j y 1 (.lit (.int .i64 13)) (Mw 13 F)) (kG 2 [0, 2, 3, 4, 5, 6] [0, 2, 3, 4, 5] none none) = some (.node (!sh (F (0 + 13))) (.leaf (.nrm, SI n g j y 1 (.int .i64 14) (Mx 13 (some 1056964608) F))) (.leaf (.nrm, SI n g j y 1 (.int .i64 14) (Mx 13 (F 13) F))), true) := by kernel_rfl
theorem rd1_14 (n : Nat) (g : Nat → Int) (j : Nat) (y : Int) (F : Nat → Option Nat) : evC JS Try.prog (callF Try.prog extK 20 8) noL 20 (loopN Try.prog 52 8) (SI n g j y 1 (.lit (.int .i64 14)) (Mw 14 F)) (kG 2 [0, 2, 3, 4, 5, 6] [0, 2, 3, 4, 5] none none) = some (.node (!sh (F (0 + 14))) (.leaf (.nrm, SI n g j y 1 (.int .i64 15) (Mx 14 (some 1056964608) F))) (.leaf (.nrm, SI n g j y 1 (.int .i64 15) (Mx 14 (F 14) F))), true) := by kernel_rfl
theorem rd1_15 (n : Nat) (g : Nat → Int) (j : Nat) (y : Int) (F : Nat → Option Nat) : evC JS Try.prog (callF Try.prog extK 20 8) noL 20 (loopN Try.prog 52 8) (SI n g j y 1 (.lit (.int .i64 15)) (Mw 15 F)) (kG 2 [0, 2, 3, 4, 5, 6] [0, 2, 3, 4, 5] none none) = some (.node (!sh (F (0 + 15))) (.leaf (.nrm, SI n g j y 1 (.int .i64 16) (Mx 15 (some 1056964608) F))) (.leaf (.nrm, SI n g j y 1 (.int .i64 16) (Mx 15 (F 15) F))), true) := by kernel_rfl
theorem rd1_16 (n : Nat) (g : Nat → Int) (j : Nat) (y : Int) (F : Nat → Option Nat) : evC JS Try.prog (callF Try.prog extK 20 8) noL 20 (loopN Try.prog 52 8) (SI n g j y 1 (.lit (.int .i64 16)) (Mw 16 F)) (kG 2 [0, 2, 3, 4, 5, 6] [0, 2, 3, 4, 5] none none) = some (.leaf (.ext 2, EI n g j y 1 (Mw 16 F)), true) := by kernel_rfl
theorem rd2_0 (n : Nat) (g : Nat → Int) (j : Nat) (y : Int) (F : Nat → Option Nat) : evC JS Try.prog (callF Try.prog extK 20 8) noL 20 (loopN Try.prog 52 8) (SI n g j y 2 (.lit (.int .i64 0)) (Mw 0 F)) (kG 2 [0, 2, 3, 4, 5, 6] [0, 2, 3, 4, 5] none none) = some (.node (!sh (F (0 + 0))) (.leaf (.nrm, SI n g j y 2 (.int .i64 1) (Mx 0 (some 1056964608) F))) (.leaf (.nrm, SI n g j y 2 (.int .i64 1) (Mx 0 (F 0) F))), true) := by kernel_rfl
theorem rd2_1 (n : Nat) (g : Nat → Int) (j : Nat) (y : Int) (F : Nat → Option Nat) : evC JS Try.prog (callF Try.prog extK 20 8) noL 20 (loopN Try.prog 52 8) (SI n g j y 2 (.lit (.int .i64 1)) (Mw 1 F)) (kG 2 [0, 2, 3, 4, 5, 6] [0, 2, 3, 4, 5] none none) = some (.node (!sh (F (0 + 1))) (.leaf (.nrm, SI n g j y 2 (.int .i64 2) (Mx 1 (some 1056964608) F))) (.leaf (.nrm, SI n g j y 2 (.int .i64 2) (Mx 1 (F 1) F))), true) := by kernel_rfl
theorem rd2_2 (n : Nat) (g : Nat → Int) (j : Nat) (y : Int) (F : Nat → Option Nat) : evC JS Try.prog (callF Try.prog extK 20 8) noL 20 (loopN Try.prog 52 8) (SI n g j y 2 (.lit (.int .i64 2)) (Mw 2 F)) (kG 2 [0, 2, 3, 4, 5, 6] [0, 2, 3, 4, 5] none none) = some (.node (!sh (F (0 + 2))) (.leaf (.nrm, SI n g j y 2 (.int .i64 3) (Mx 2 (some 1056964608) F))) (.leaf (.nrm, SI n g j y 2 (.int .i64 3) (Mx 2 (F 2) F))), true) := by kernel_rfl
theorem rd2_3 (n : Nat) (g : Nat → Int) (j : Nat) (y : Int) (F : Nat → Option Nat) : evC JS Try.prog (callF Try.prog extK 20 8) noL 20 (loopN Try.prog 52 8) (SI n g j y 2 (.lit (.int .i64 3)) (Mw 3 F)) (kG 2 [0, 2, 3, 4, 5, 6] [0, 2, 3, 4, 5] none none) = some (.node (!sh (F (0 + 3))) (.leaf (.nrm, SI n g j y 2 (.int .i64 4) (Mx 3 (some 1056964608) F))) (.leaf (.nrm, SI n g j y 2 (.int .i64 4) (Mx 3 (F 3) F))), true) := by kernel_rfl
theorem rd2_4 (n : Nat) (g : Nat → Int) (j : Nat) (y : Int) (F : Nat → Option Nat) : evC JS Try.prog (callF Try.prog extK 20 8) noL 20 (loopN Try.prog 52 8) (SI n g j y 2 (.lit (.int .i64 4)) (Mw 4 F)) (kG 2 [0, 2, 3, 4, 5, 6] [0, 2, 3, 4, 5] none none) = some (.node (!sh (F (0 + 4))) (.leaf (.nrm, SI n g j y 2 (.int .i64 5) (Mx 4 (some 1056964608) F))) (.leaf (.nrm, SI n g j y 2 (.int .i64 5) (Mx 4 (F 4) F))), true) := by kernel_rfl
theorem rd2_5 (n : Nat) (g : Nat → Int) (j : Nat) (y : Int) (F : Nat → Option Nat) : evC JS Try.prog (callF Try.prog extK 20 8) noL 20 (loopN Try.prog 52 8) (SI n g j y 2 (.lit (.int .i64 5)) (Mw 5 F)) (kG 2 [0, 2, 3, 4, 5, 6] [0, 2, 3, 4, 5] none none) = some (.node (!sh (F (0 + 5))) (.leaf (.nrm, SI n g j y 2 (.int .i64 6) (Mx 5 (some 1056964608) F))) (.leaf (.nrm, SI n g j y 2 (.int .i64 6) (Mx 5 (F 5) F))), true) := by kernel_rfl
theorem rd2_6 (n : Nat) (g : Nat → Int) (j : Nat) (y : Int) (F : Nat → Option Nat) : evC JS Try.prog (callF Try.prog extK 20 8) noL 20 (loopN Try.prog 52 8) (SI n g j y 2 (.lit (.int .i64 6)) (Mw 6 F)) (kG 2 [0, 2, 3, 4, 5, 6] [0, 2, 3, 4, 5] none none) = some (.node (!sh (F (0 + 6))) (.leaf (.nrm, SI n g j y 2 (.int .i64 7) (Mx 6 (some 1056964608) F))) (.leaf (.nrm, SI n g j y 2 (.int .i64 7) (Mx 6 (F 6) F))), true) := by kernel_rfl
theorem rd2_7 (n : Nat) (g : Nat → Int) (j : Nat) (y : Int) (F : Nat → Option Nat) : evC JS Try.prog (callF Try.prog extK 20 8) noL 20 (loopN Try.prog 52 8) (SI n g j y 2 (.lit (.int .i64 7)) (Mw 7 F)) (kG 2 [0, 2, 3, 4, 5, 6] [0, 2, 3, 4, 5] none none) = some (.node (!sh (F (0 + 7))) (.leaf (.nrm, SI n g j y 2 (.int .i64 8) (Mx 7 (some 1056964608) F))) (.leaf (.nrm, SI n g j y 2 (.int .i64 8) (Mx 7 (F 7) F))), true) := by kernel_rfl
theorem rd2_8 (n : Nat) (g : Nat → Int) (j : Nat) (y : Int) (F : Nat → Option Nat) : evC JS Try.prog (callF Try.prog extK 20 8) noL 20 (loopN Try.prog 52 8) (SI n g j y 2 (.lit (.int .i64 8)) (Mw 8 F)) (kG 2 [0, 2, 3, 4, 5, 6] [0, 2, 3, 4, 5] none none) = some (.node (!sh (F (0 + 8))) (.leaf (.nrm, SI n g j y 2 (.int .i64 9) (Mx 8 (some 1056964608) F))) (.leaf (.nrm, SI n g j y 2 (.int .i64 9) (Mx 8 (F 8) F))), true) := by kernel_rfl
theorem rd2_9 (n : Nat) (g : Nat → Int) (j : Nat) (y : Int) (F : Nat → Option Nat) : evC JS Try.prog (callF Try.prog extK 20 8) noL 20 (loopN Try.prog 52 8) (SI n g j y 2 (.lit (.int .i64 9)) (Mw 9 F)) (kG 2 [0, 2, 3, 4, 5, 6] [0, 2, 3, 4, 5] none none) = some (.node (!sh (F (0 + 9))) (.leaf (.nrm, SI n g j y 2 (.int .i64 10) (Mx 9 (some 1056964608) F))) (.leaf (.nrm, SI n g j y 2 (.int .i64 10) (Mx 9 (F 9) F))), true) := by kernel_rfl
theorem rd2_10 (n : Nat) (g : Nat → Int) (j : Nat) (y : Int) (F : Nat → Option Nat) : evC JS Try.prog (callF Try.prog extK 20 8) noL 20 (loopN Try.prog 52 8) (SI n g j y 2 (.lit (.int .i64 10)) (Mw 10 F)) (kG 2 [0, 2, 3, 4, 5, 6] [0, 2, 3, 4, 5] none none) = some (.node (!sh (F (0 + 10))) (.leaf (.nrm, SI n g j y 2 (.int .i64 11) (Mx 10 (some 1056964608) F))) (.leaf (.nrm, SI n g j y 2 (.int .i64 11) (Mx 10 (F 10) F))), true) := by kernel_rfl
theorem rd2_11 (n : Nat) (g : Nat → Int) (j : Nat) (y : Int) (F : Nat → Option Nat) : evC JS Try.prog (callF Try.prog extK 20 8) noL 20 (loopN Try.prog 52 8) (SI n g j y 2 (.lit (.int .i64 11)) (Mw 11 F)) (kG 2 [0, 2, 3, 4, 5, 6] [0, 2, 3, 4, 5] none none) = some (.node (!sh (F (0 + 11))) (.leaf (.nrm, SI n g j y 2 (.int .i64 12) (Mx 11 (some 1056964608) F))) (.leaf (.nrm, SI n g j y 2 (.int .i64 12) (Mx 11 (F 11) F))), true) := by kernel_rfl
theorem rd2_12 (n : Nat) (g : Nat → Int) (j : Nat) (y : Int) (F : Nat → Option Nat) : evC JS Try.prog (callF Try.prog extK 20 8) noL 20 (loopN Try.prog 52 8) (SI n g j y 2 (.lit (.int .i64 12)) (Mw 12 F)) (kG 2 [0, 2, 3, 4, 5, 6] [0, 2, 3, 4, 5] none none) = some (.node (!sh (F (0 + 12))) (.leaf (.nrm, SI n g j y 2 (.int .i64 13) (Mx 12 (some 1056964608) F))) (.leaf (.nrm, SI n g j y 2 (.int .i64 13) (Mx 12 (F 12) F))), true) := by kernel_rfl
theorem rd2_13 (n : Nat) (g : Nat → Int) (j : Nat) (y : Int) (F : Nat → Option Nat) : evC JS Try.prog (callF Try.prog extK 20 8) noL 20 (loopN Try.prog 52 8) (SI n g j y 2 (.lit (.int .i64 13)) (Mw 13 F)) (kG 2 [0, 2, 3, 4, 5, 6] [0, 2, 3, 4, 5] none none) = some (.node (!sh (F (0 + 13))) (.leaf (.nrm, SI n g j y 2 (.int .i64 14) (Mx 13 (some 1056964608) F))) (.leaf (.nrm, SI n g j y 2 (.int .i64 14) (Mx 13 (F 13) F))), true) := by kernel_rfl
theorem rd2_14 (n : Nat) (g : Nat → Int) (j : Nat) (y : Int) (F : Nat → Option Nat) : evC JS Try.prog (callF Try.prog extK 20 8) noL 20 (loopN Try.prog 52 8) (SI n g j y 2 (.lit (.int .i64 14)) (Mw 14 F)) (kG 2 [0, 2, 3, 4, 5, 6] [0, 2, 3, 4, 5] none none) = some (.node (!sh (F (0 + 14))) (.leaf (.nrm, SI n g j y 2 (.int .i64 15) (Mx 14 (some 1056964608) F))) (.leaf (.nrm, SI n g j y 2 (.int .i64 15) (Mx 14 (F 14) F))), true) := by kernel_rfl
theorem rd2_15 (n : Nat) (g : Nat → Int) (j : Nat) (y : Int) (F : Nat → Option Nat) : evC JS Try.prog (callF Try.prog extK 20 8) noL 20 (loopN Try.prog 52 8) (SI n g j y 2 (.lit (.int .i64 15)) (Mw 15 F)) (kG 2 [0, 2, 3, 4, 5, 6] [0, 2, 3, 4, 5] none none) = some (.node (!sh (F (0 + 15))) (.leaf (.nrm, SI n g j y 2 (.int .i64 16) (Mx 15 (some 1056964608) F))) (.leaf (.nrm, SI n g j y 2 (.int .i64 16) (Mx 15 (F 15) F))), true) := by kernel_rfl
theorem rd2_16 (n : Nat) (g : Nat → Int) (j : Nat) (y : Int) (F : Nat → Option Nat) : evC JS Try.prog (callF Try.prog extK 20 8) noL 20 (loopN Try.prog 52 8) (SI n g j y 2 (.lit (.int .i64 16)) (Mw 16 F)) (kG 2 [0, 2, 3, 4, 5, 6] [0, 2, 3, 4, 5] none none) = some (.leaf (.ext 2, EI n g j y 2 (Mw 16 F)), true) := by kernel_rfl
theorem rd3_0 (n : Nat) (g : Nat → Int) (j : Nat) (y : Int) (F : Nat → Option Nat) : evC JS Try.prog (callF Try.prog extK 20 8) noL 20 (loopN Try.prog 52 8) (SI n g j y 3 (.lit (.int .i64 0)) (Mw 0 F)) (kG 2 [0, 2, 3, 4, 5, 6] [0, 2, 3, 4, 5] none none) = some (.node (!sh (F (0 + 0))) (.leaf (.nrm, SI n g j y 3 (.int .i64 1) (Mx 0 (some 1056964608) F))) (.leaf (.nrm, SI n g j y 3 (.int .i64 1) (Mx 0 (F 0) F))), true) := by kernel_rfl
theorem rd3_1 (n : Nat) (g : Nat → Int) (j : Nat) (y : Int) (F : Nat → Option Nat) : evC JS Try.prog (callF Try.prog extK 20 8) noL 20 (loopN Try.prog 52 8) (SI n g j y 3 (.lit (.int .i64 1)) (Mw 1 F)) (kG 2 [0, 2, 3, 4, 5, 6] [0, 2, 3, 4, 5] none none) = some (.node (!sh (F (0 + 1))) (.leaf (.nrm, SI n g j y 3 (.int .i64 2) (Mx 1 (some 1056964608) F))) (.leaf (.nrm, SI n g j y 3 (.int .i64 2) (Mx 1 (F 1) F))), true) := by kernel_rfl
theorem rd3_2 (n : Nat) (g : Nat → Int) (j : Nat) (y : Int) (F : Nat → Option Nat) : evC JS Try.prog (callF Try.prog extK 20 8) noL 20 (loopN Try.prog 52 8) (SI n g j y 3 (.lit (.int .i64 2)) (Mw 2 F)) (kG 2 [0, 2, 3, 4, 5, 6] [0, 2, 3, 4, 5] none none) = some (.node (!sh (F (0 + 2))) (.leaf (.nrm, SI n g j y 3 (.int .i64 3) (Mx 2 (some 1056964608) F))) (.leaf (.nrm, SI n g j y 3 (.int .i64 3) (Mx 2 (F 2) F))), true) := by kernel_rfl
theorem rd3_3 (n : Nat) (g : Nat → Int) (j : Nat) (y : Int) (F : Nat → Option Nat) : evC JS Try.prog (callF Try.prog extK 20 8) noL 20 (loopN Try.prog 52 8) (SI n g j y 3 (.lit (.int .i64 3)) (Mw 3 F)) (kG 2 [0, 2, 3, 4, 5, 6] [0, 2, 3, 4, 5] none none) = some (.node (!sh (F (0 + 3))) (.leaf (.nrm, SI n g j y 3 (.int .i64 4) (Mx 3 (some 1056964608) F))) (.leaf (.nrm, SI n g j y 3 (.int .i64 4) (Mx 3 (F 3) F))), true) := by kernel_rfl
theorem rd3_4 (n : Nat) (g : Nat → Int) (j : Nat) (y : Int) (F : Nat → Option Nat) : evC JS Try.prog (callF Try.prog extK 20 8) noL 20 (loopN Try.prog 52 8) (SI n g j y 3 (.lit (.int .i64 4)) (Mw 4 F)) (kG 2 [0, 2, 3, 4, 5, 6] [0, 2, 3, 4, 5] none none) = some (.node (!sh (F (0 + 4))) (.leaf (.nrm, SI n g j y 3 (.int .i64 5) (Mx 4 (some 1056964608) F))) (.leaf (.nrm, SI n g j y 3 (.int .i64 5) (Mx 4 (F 4) F))), true) := by kernel_rfl
theorem rd3_5 (n : Nat) (g : Nat → Int) (j : Nat) (y : Int) (F : Nat → Option Nat) : evC JS Try.prog (callF Try.prog extK 20 8) noL 20 (loopN Try.prog 52 8) (SI n g j y 3 (.lit (.int .i64 5)) (Mw 5 F)) (kG 2 [0, 2, 3, 4, 5, 6] [0, 2, 3, 4, 5] none none) = some (.node (!sh (F (0 + 5))) (.leaf (.nrm, SI n g j y 3 (.int .i64 6) (Mx 5 (some 1056964608) F))) (.leaf (.nrm, SI n g j y 3 (.int .i64 6) (Mx 5 (F 5) F))), true) := by kernel_rfl
theorem rd3_6 (n : Nat) (g : Nat → Int) (j : Nat) (y : Int) (F : Nat → Option Nat) : evC JS Try.prog (callF Try.prog extK 20 8) noL 20 (loopN Try.prog 52 8) (SI n g j y 3 (.lit (.int .i64 6)) (Mw 6 F)) (kG 2 [0, 2, 3, 4, 5, 6] [0, 2, 3, 4, 5] none none) = some (.node (!sh (F (0 + 6))) (.leaf (.nrm, SI n g j y 3 (.int .i64 7) (Mx 6 (some 1056964608) F))) (.leaf (.nrm, SI n g j y 3 (.int .i64 7) (Mx 6 (F 6) F))), true) := by kernel_rfl
theorem rd3_7 (n : Nat) (g : Nat → Int) (j : Nat) (y : Int) (F : Nat → Option Nat) : evC JS Try.prog (callF Try.prog extK 20 8) noL 20 (loopN Try.prog 52 8) (SI n g j y 3 (.lit (.int .i64 7)) (Mw 7 F)) (kG 2 [0, 2, 3, 4, 5, 6] [0, 2, 3, 4, 5] none none) = some (.node (!sh (F (0 + 7))) (.leaf (.nrm, SI n g j y 3 (.int .i64 8) (Mx 7 (some 1056964608) F))) (.leaf (.nrm, SI n g j y 3 (.int .i64 8) (Mx 7 (F 7) F))), true) := by kernel_rfl
theorem rd3_8 (n : Nat) (g : Nat → Int) (j : Nat) (y : Int) (F : Nat → Option Nat) : evC JS Try.prog (callF Try.prog extK 20 8) noL 20 (loopN Try.prog 52 8) (SI n g j y 3 (.lit (.int .i64 8)) (Mw 8 F)) (kG 2 [0, 2, 3, 4, 5, 6] [0, 2, 3, 4, 5] none none) = some (.node (!sh (F (0 + 8))) (.leaf (.nrm, SI n g j y 3 (.int .i64 9) (Mx 8 (some 1056964608) F))) (.leaf (.nrm, SI n g j y 3 (.int .i64 9) (Mx 8 (F 8) F))), true) := by kernel_rfl
theorem rd3_9 (n : Nat) (g : Nat → Int) (j : Nat) (y : Int) (F : Nat → Option Nat) : evC JS Try.prog (callF Try.prog extK 20 8) noL 20 (loopN Try.prog 52 8) (SI n g j y 3 (.lit (.int .i64 9)) (Mw 9 F)) (kG 2 [0, 2, 3, 4, 5, 6] [0, 2, 3, 4, 5] none none) = some (.node (!sh (F (0 + 9))) (.leaf (.nrm, SI n g j y 3 (.int .i64 10) (Mx 9 (some 1056964608) F))) (.leaf (.nrm, SI n g j y 3 (.int .i64 10) (Mx 9 (F 9) F))), true) := by kernel_rfl
theorem rd3_10 (n : Nat) (g : Nat → Int) (j : Nat) (y : Int) (F : Nat → Option Nat) : evC JS Try.prog (callF Try.prog extK 20 8) noL 20 (loopN Try.prog 52 8) (SI n g j y 3 (.lit (.int .i64 10)) (Mw 10 F)) (kG 2 [0, 2, 3, 4, 5, 6] [0, 2, 3, 4, 5] none none) = some (.node (!sh (F (0 + 10))) (.leaf (.nrm, SI n g j y 3 (.int .i64 11) (Mx 10 (some 1056964608) F))) (.leaf (.nrm, SI n g j y 3 (.int .i64 11) (Mx 10 (F 10) F))), true) := by kernel_rfl
theorem rd3_11 (n : Nat) (g : Nat → Int) (j : Nat) (y : Int) (F : Nat → Option Nat) : evC JS Try.prog (callF Try.prog extK 20 8) noL 20 (loopN Try.prog 52 8) (SI n g j y 3 (.lit (.int .i64 11)) (Mw 11 F)) (kG 2 [0, 2, 3, 4, 5, 6] [0, 2, 3, 4, 5] none none) = some (.node (!sh (F (0 + 11))) (.leaf (.nrm, SI n g j y 3 (.int .i64 12) (Mx 11 (some 1056964608) F))) (.leaf (.nrm, SI n g j y 3 (.int .i64 12) (Mx 11 (F 11) F))), true) := by kernel_rfl
theorem rd3_12 (n : Nat) (g : Nat → Int) (j : Nat) (y : Int) (F : Nat → Option Nat) : evC JS Try.prog (callF Try.prog extK 20 8) noL 20 (loopN Try.prog 52 8) (SI n g j y 3 (.lit (.int .i64 12)) (Mw 12 F)) (kG 2 [0, 2, 3, 4, 5, 6] [0, 2, 3, 4, 5] none none) = some (.node (!sh (F (0 + 12))) (.leaf (.nrm, SI n g j y 3 (.int .i64 13) (Mx 12 (some 1056964608) F))) (.leaf (.nrm, SI n g j y 3 (.int .i64 13) (Mx 12 (F 12) F))), true) := by kernel_rfl
theorem rd3_13 (n : Nat) (g : Nat → Int) (j : Nat) (y : Int) (F : Nat → Option Nat) : evC JS Try.prog (callF Try.prog extK 20 8) noL 20 (loopN Try.prog 52 8) (SI n g j y 3 (.lit (.int .i64 13)) (Mw 13 F)) (kG 2 [0, 2, 3, 4, 5, 6] [0, 2, 3, 4, 5] none none) = some (.node (!sh (F (0 + 13))) (.leaf (.nrm, SI n g j y 3 (.int .i64 14) (Mx 13 (some 1056964608) F))) (.leaf (.nrm, SI n g j y 3 (.int .i64 14) (Mx 13 (F 13) F))), true) := by kernel_rfl
theorem rd3_14 (n : Nat) (g : Nat → Int) (j : Nat) (y : Int) (F : Nat → Option Nat) : evC JS Try.prog (callF Try.prog extK 20 8) noL 20 (loopN Try.prog 52 8) (SI n g j y 3 (.lit (.int .i64 14)) (Mw 14 F)) (kG 2 [0, 2, 3, 4, 5, 6] [0, 2, 3, 4, 5] none none) = some (.node (!sh (F (0 + 14))) (.leaf (.nrm, SI n g j y 3 (.int .i64 15) (Mx 14 (some 1056964608) F))) (.leaf (.nrm, SI n g j y 3 (.int .i64 15) (Mx 14 (F 14) F))), true) := by kernel_rfl
theorem rd3_15 (n : Nat) (g : Nat → Int) (j : Nat) (y : Int) (F : Nat → Option Nat) : evC JS Try.prog (callF Try.prog extK 20 8) noL 20 (loopN Try.prog 52 8) (SI n g j y 3 (.lit (.int .i64 15)) (Mw 15 F)) (kG 2 [0, 2, 3, 4, 5, 6] [0, 2, 3, 4, 5] none none) = some (.node (!sh (F (0 + 15))) (.leaf (.nrm, SI n g j y 3 (.int .i64 16) (Mx 15 (some 1056964608) F))) (.leaf (.nrm, SI n g j y 3 (.int .i64 16) (Mx 15 (F 15) F))), true) := by kernel_rfl
theorem rd3_16 (n : Nat) (g : Nat → Int) (j : Nat) (y : Int) (F : Nat → Option Nat) : evC JS Try.prog (callF Try.prog extK 20 8) noL 20 (loopN Try.prog 52 8) (SI n g j y 3 (.lit (.int .i64 16)) (Mw 16 F)) (kG 2 [0, 2, 3, 4, 5, 6] [0, 2, 3, 4, 5] none none) = some (.leaf (.ext 2, EI n g j y 3 (Mw 16 F)), true) := by kernel_rfl
theorem mend_t {o : Option Nat} (h : sh o = true) : mend o = o := by unfold mend; rw [h]; rfl
theorem mend_f {o : Option Nat} (h : sh o = false) : mend o = some 1056964608 := by unfold mend; rw [h]; rfl
theorem key1 {n : Nat} {g : Nat → Int} {j : Nat} {y : Int} {i w : Nat} {F : Nat → Option Nat} (e : ∀ x, cF (Mx w x F) = cF (Mx w x F)) : True := trivial
theorem lp0 (n : Nat) (g : Nat → Int) (j : Nat) (y : Int) (F : Nat → Option Nat) : LoopOk Try.prog 2 (loopN Try.prog 52 8) (SI n g j y 0 (.int .i64 0) (Mw 0 F)) (.leaf (.ext 2, EI n g j y 0 (Mw 16 F))) := by
  have key := loop_all (callF_ok sxApart sxMixed extK_ok (N := 20) 8) sxMixed (body := loopN Try.prog 52 8) (L := noL) (N := 20) (B := 2) (fun _ _ _ _ h => by cases h) [0, 2, 3, 4, 5, 6] [0, 2, 3, 4, 5] none none
    (fun k => SI n g j y 0 (.lit (.int .i64 (Int.ofNat k))) (Mw k F)) 16 (.ext 2, EI n g j y 0 (Mw 16 F)) (fun h => by cases h)
    (fun k hk => by
      rcases k with _ | _ | _ | _ | _ | _ | _ | _ | _ | _ | _ | _ | _ | _ | _ | _ | k
      · refine ⟨_, rd0_0 n g j y F, ?_⟩
        cases h : sh (F (0 + 0))
        · refine ⟨rfl, rfl, ?_⟩
          have e : (some 1056964608 : Option Nat) = mend (F 0) := (mend_f (by simpa using h)).symm
          show HLe (SI n g j y 0 (.int .i64 1) (Mx 0 (some 1056964608) F)).heap _
          rw [e]
          exact HLe.refl _
        · refine ⟨rfl, rfl, ?_⟩
          have e : F 0 = mend (F 0) := (mend_t (by simpa using h)).symm
          show HLe (SI n g j y 0 (.int .i64 1) (Mx 0 (F 0) F)).heap _
          rw [e]
          exact HLe.refl _
      · refine ⟨_, rd0_1 n g j y F, ?_⟩
        cases h : sh (F (0 + 1))
        · refine ⟨rfl, rfl, ?_⟩
          have e : (some 1056964608 : Option Nat) = mend (F 1) := (mend_f (by simpa using h)).symm
          show HLe (SI n g j y 0 (.int .i64 2) (Mx 1 (some 1056964608) F)).heap _
          rw [e]
          exact HLe.refl _
        · refine ⟨rfl, rfl, ?_⟩
          have e : F 1 = mend (F 1) := (mend_t (by simpa using h)).symm
          show HLe (SI n g j y 0 (.int .i64 2) (Mx 1 (F 1) F)).heap _
          rw [e]
          exact HLe.refl _
      · refine ⟨_, rd0_2 n g j y F, ?_⟩
        cases h : sh (F (0 + 2))
        · refine ⟨rfl, rfl, ?_⟩
          have e : (some 1056964608 : Option Nat) = mend (F 2) := (mend_f (by simpa using h)).symm
          show HLe (SI n g j y 0 (.int .i64 3) (Mx 2 (some 1056964608) F)).heap _
          rw [e]
          exact HLe.refl _
        · refine ⟨rfl, rfl, ?_⟩
          have e : F 2 = mend (F 2) := (mend_t (by simpa using h)).symm
          show HLe (SI n g j y 0 (.int .i64 3) (Mx 2 (F 2) F)).heap _
          rw [e]
          exact HLe.refl _
      · refine ⟨_, rd0_3 n g j y F, ?_⟩
        cases h : sh (F (0 + 3))
        · refine ⟨rfl, rfl, ?_⟩
          have e : (some 1056964608 : Option Nat) = mend (F 3) := (mend_f (by simpa using h)).symm
          show HLe (SI n g j y 0 (.int .i64 4) (Mx 3 (some 1056964608) F)).heap _
          rw [e]
          exact HLe.refl _
        · refine ⟨rfl, rfl, ?_⟩
          have e : F 3 = mend (F 3) := (mend_t (by simpa using h)).symm
          show HLe (SI n g j y 0 (.int .i64 4) (Mx 3 (F 3) F)).heap _
          rw [e]
          exact HLe.refl _
      · refine ⟨_, rd0_4 n g j y F, ?_⟩
        cases h : sh (F (0 + 4))
        · refine ⟨rfl, rfl, ?_⟩
          have e : (some 1056964608 : Option Nat) = mend (F 4) := (mend_f (by simpa using h)).symm
          show HLe (SI n g j y 0 (.int .i64 5) (Mx 4 (some 1056964608) F)).heap _
          rw [e]
          exact HLe.refl _
        · refine ⟨rfl, rfl, ?_⟩
          have e : F 4 = mend (F 4) := (mend_t (by simpa using h)).symm
          show HLe (SI n g j y 0 (.int .i64 5) (Mx 4 (F 4) F)).heap _
          rw [e]
          exact HLe.refl _
      · refine ⟨_, rd0_5 n g j y F, ?_⟩
        cases h : sh (F (0 + 5))
        · refine ⟨rfl, rfl, ?_⟩
          have e : (some 1056964608 : Option Nat) = mend (F 5) := (mend_f (by simpa using h)).symm
          show HLe (SI n g j y 0 (.int .i64 6) (Mx 5 (some 1056964608) F)).heap _
          rw [e]
          exact HLe.refl _
        · refine ⟨rfl, rfl, ?_⟩
          have e : F 5 = mend (F 5) := (mend_t (by simpa using h)).symm
          show HLe (SI n g j y 0 (.int .i64 6) (Mx 5 (F 5) F)).heap _
          rw [e]
          exact HLe.refl _
      · refine ⟨_, rd0_6 n g j y F, ?_⟩
        cases h : sh (F (0 + 6))
        · refine ⟨rfl, rfl, ?_⟩
          have e : (some 1056964608 : Option Nat) = mend (F 6) := (mend_f (by simpa using h)).symm
          show HLe (SI n g j y 0 (.int .i64 7) (Mx 6 (some 1056964608) F)).heap _
          rw [e]
          exact HLe.refl _
        · refine ⟨rfl, rfl, ?_⟩
          have e : F 6 = mend (F 6) := (mend_t (by simpa using h)).symm
          show HLe (SI n g j y 0 (.int .i64 7) (Mx 6 (F 6) F)).heap _
          rw [e]
          exact HLe.refl _
      · refine ⟨_, rd0_7 n g j y F, ?_⟩
        cases h : sh (F (0 + 7))
        · refine ⟨rfl, rfl, ?_⟩
          have e : (some 1056964608 : Option Nat) = mend (F 7) := (mend_f (by simpa using h)).symm
          show HLe (SI n g j y 0 (.int .i64 8) (Mx 7 (some 1056964608) F)).heap _
          rw [e]
          exact HLe.refl _
        · refine ⟨rfl, rfl, ?_⟩
          have e : F 7 = mend (F 7) := (mend_t (by simpa using h)).symm
          show HLe (SI n g j y 0 (.int .i64 8) (Mx 7 (F 7) F)).heap _
          rw [e]
          exact HLe.refl _
      · refine ⟨_, rd0_8 n g j y F, ?_⟩
        cases h : sh (F (0 + 8))
        · refine ⟨rfl, rfl, ?_⟩
          have e : (some 1056964608 : Option Nat) = mend (F 8) := (mend_f (by simpa using h)).symm
          show HLe (SI n g j y 0 (.int .i64 9) (Mx 8 (some 1056964608) F)).heap _
          rw [e]
          exact HLe.refl _
        · refine ⟨rfl, rfl, ?_⟩
          have e : F 8 = mend (F 8) := (mend_t (by simpa using h)).symm
          show HLe (SI n g j y 0 (.int .i64 9) (Mx 8 (F 8) F)).heap _
          rw [e]
          exact HLe.refl _
      · refine ⟨_, rd0_9 n g j y F, ?_⟩
        cases h : sh (F (0 + 9))
        · refine ⟨rfl, rfl, ?_⟩
          have e : (some 1056964608 : Option Nat) = mend (F 9) := (mend_f (by simpa using h)).symm
          show HLe (SI n g j y 0 (.int .i64 10) (Mx 9 (some 1056964608) F)).heap _
          rw [e]
          exact HLe.refl _
        · refine ⟨rfl, rfl, ?_⟩
          have e : F 9 = mend (F 9) := (mend_t (by simpa using h)).symm
          show HLe (SI n g j y 0 (.int .i64 10) (Mx 9 (F 9) F)).heap _
          rw [e]
          exact HLe.refl _
      · refine ⟨_, rd0_10 n g j y F, ?_⟩
        cases h : sh (F (0 + 10))
        · refine ⟨rfl, rfl, ?_⟩
          have e : (some 1056964608 : Option Nat) = mend (F 10) := (mend_f (by simpa using h)).symm
          show HLe (SI n g j y 0 (.int .i64 11) (Mx 10 (some 1056964608) F)).heap _
          rw [e]
          exact HLe.refl _
        · refine ⟨rfl, rfl, ?_⟩
          have e : F 10 = mend (F 10) := (mend_t (by simpa using h)).symm
          show HLe (SI n g j y 0 (.int .i64 11) (Mx 10 (F 10) F)).heap _
          rw [e]
          exact HLe.refl _
      · refine ⟨_, rd0_11 n g j y F, ?_⟩
        cases h : sh (F (0 + 11))
        · refine ⟨rfl, rfl, ?_⟩
          have e : (some 1056964608 : Option Nat) = mend (F 11) := (mend_f (by simpa using h)).symm
          show HLe (SI n g j y 0 (.int .i64 12) (Mx 11 (some 1056964608) F)).heap _
          rw [e]
          exact HLe.refl _
        · refine ⟨rfl, rfl, ?_⟩
          have e : F 11 = mend (F 11) := (mend_t (by simpa using h)).symm
          show HLe (SI n g j y 0 (.int .i64 12) (Mx 11 (F 11) F)).heap _
          rw [e]
          exact HLe.refl _
      · refine ⟨_, rd0_12 n g j y F, ?_⟩
        cases h : sh (F (0 + 12))
        · refine ⟨rfl, rfl, ?_⟩
          have e : (some 1056964608 : Option Nat) = mend (F 12) := (mend_f (by simpa using h)).symm
          show HLe (SI n g j y 0 (.int .i64 13) (Mx 12 (some 1056964608) F)).heap _
          rw [e]
          exact HLe.refl _
        · refine ⟨rfl, rfl, ?_⟩
          have e : F 12 = mend (F 12) := (mend_t (by simpa using h)).symm
          show HLe (SI n g j y 0 (.int .i64 13) (Mx 12 (F 12) F)).heap _
          rw [e]
          exact HLe.refl _
      · refine ⟨_, rd0_13 n g j y F, ?_⟩
        cases h : sh (F (0 + 13))
        · refine ⟨rfl, rfl, ?_⟩
          have e : (some 1056964608 : Option Nat) = mend (F 13) := (mend_f (by simpa using h)).symm
          show HLe (SI n g j y 0 (.int .i64 14) (Mx 13 (some 1056964608) F)).heap _
          rw [e]
          exact HLe.refl _
        · refine ⟨rfl, rfl, ?_⟩
          have e : F 13 = mend (F 13) := (mend_t (by simpa using h)).symm
          show HLe (SI n g j y 0 (.int .i64 14) (Mx 13 (F 13) F)).heap _
          rw [e]
          exact HLe.refl _
      · refine ⟨_, rd0_14 n g j y F, ?_⟩
        cases h : sh (F (0 + 14))
        · refine ⟨rfl, rfl, ?_⟩
          have e : (some 1056964608 : Option Nat) = mend (F 14) := (mend_f (by simpa using h)).symm
          show HLe (SI n g j y 0 (.int .i64 15) (Mx 14 (some 1056964608) F)).heap _
          rw [e]
          exact HLe.refl _
        · refine ⟨rfl, rfl, ?_⟩
          have e : F 14 = mend (F 14) := (mend_t (by simpa using h)).symm
          show HLe (SI n g j y 0 (.int .i64 15) (Mx 14 (F 14) F)).heap _
          rw [e]
          exact HLe.refl _
      · refine ⟨_, rd0_15 n g j y F, ?_⟩
        cases h : sh (F (0 + 15))
        · refine ⟨rfl, rfl, ?_⟩
          have e : (some 1056964608 : Option Nat) = mend (F 15) := (mend_f (by simpa using h)).symm
          show HLe (SI n g j y 0 (.int .i64 16) (Mx 15 (some 1056964608) F)).heap _
          rw [e]
          exact HLe.refl _
        · refine ⟨rfl, rfl, ?_⟩
          have e : F 15 = mend (F 15) := (mend_t (by simpa using h)).symm
          show HLe (SI n g j y 0 (.int .i64 16) (Mx 15 (F 15) F)).heap _
          rw [e]
          exact HLe.refl _
      · omega)
    ⟨_, rd0_16 n g j y F, XLe.refl _⟩
  exact key.from ⟨rfl, HLe.refl _⟩
theorem lp1 (n : Nat) (g : Nat → Int) (j : Nat) (y : Int) (F : Nat → Option Nat) : LoopOk Try.prog 2 (loopN Try.prog 52 8) (SI n g j y 1 (.int .i64 0) (Mw 0 F)) (.leaf (.ext 2, EI n g j y 1 (Mw 16 F))) := by
  have key := loop_all (callF_ok sxApart sxMixed extK_ok (N := 20) 8) sxMixed (body := loopN Try.prog 52 8) (L := noL) (N := 20) (B := 2) (fun _ _ _ _ h => by cases h) [0, 2, 3, 4, 5, 6] [0, 2, 3, 4, 5] none none
    (fun k => SI n g j y 1 (.lit (.int .i64 (Int.ofNat k))) (Mw k F)) 16 (.ext 2, EI n g j y 1 (Mw 16 F)) (fun h => by cases h)
    (fun k hk => by
      rcases k with _ | _ | _ | _ | _ | _ | _ | _ | _ | _ | _ | _ | _ | _ | _ | _ | k
      · refine ⟨_, rd1_0 n g j y F, ?_⟩
        cases h : sh (F (0 + 0))
        · refine ⟨rfl, rfl, ?_⟩
          have e : (some 1056964608 : Option Nat) = mend (F 0) := (mend_f (by simpa using h)).symm
          show HLe (SI n g j y 1 (.int .i64 1) (Mx 0 (some 1056964608) F)).heap _
          rw [e]
          exact HLe.refl _
        · refine ⟨rfl, rfl, ?_⟩
          have e : F 0 = mend (F 0) := (mend_t (by simpa using h)).symm
          show HLe (SI n g j y 1 (.int .i64 1) (Mx 0 (F 0) F)).heap _
          rw [e]
          exact HLe.refl _
      · refine ⟨_, rd1_1 n g j y F, ?_⟩
        cases h : sh (F (0 + 1))
        · refine ⟨rfl, rfl, ?_⟩
          have e : (some 1056964608 : Option Nat) = mend (F 1) := (mend_f (by simpa using h)).symm
          show HLe (SI n g j y 1 (.int .i64 2) (Mx 1 (some 1056964608) F)).heap _
          rw [e]
          exact HLe.refl _
        · refine ⟨rfl, rfl, ?_⟩
          have e : F 1 = mend (F 1) := (mend_t (by simpa using h)).symm
          show HLe (SI n g j y 1 (.int .i64 2) (Mx 1 (F 1) F)).heap _
          rw [e]
          exact HLe.refl _
      · refine ⟨_, rd1_2 n g j y F, ?_⟩
        cases h : sh (F (0 + 2))
        · refine ⟨rfl, rfl, ?_⟩
          have e : (some 1056964608 : Option Nat) = mend (F 2) := (mend_f (by simpa using h)).symm
          show HLe (SI n g j y 1 (.int .i64 3) (Mx 2 (some 1056964608) F)).heap _
          rw [e]
          exact HLe.refl _
        · refine ⟨rfl, rfl, ?_⟩
          have e : F 2 = mend (F 2) := (mend_t (by simpa using h)).symm
          show HLe (SI n g j y 1 (.int .i64 3) (Mx 2 (F 2) F)).heap _
          rw [e]
          exact HLe.refl _
      · refine ⟨_, rd1_3 n g j y F, ?_⟩
        cases h : sh (F (0 + 3))
        · refine ⟨rfl, rfl, ?_⟩
          have e : (some 1056964608 : Option Nat) = mend (F 3) := (mend_f (by simpa using h)).symm
          show HLe (SI n g j y 1 (.int .i64 4) (Mx 3 (some 1056964608) F)).heap _
          rw [e]
          exact HLe.refl _
        · refine ⟨rfl, rfl, ?_⟩
          have e : F 3 = mend (F 3) := (mend_t (by simpa using h)).symm
          show HLe (SI n g j y 1 (.int .i64 4) (Mx 3 (F 3) F)).heap _
          rw [e]
          exact HLe.refl _
      · refine ⟨_, rd1_4 n g j y F, ?_⟩
        cases h : sh (F (0 + 4))
        · refine ⟨rfl, rfl, ?_⟩
          have e : (some 1056964608 : Option Nat) = mend (F 4) := (mend_f (by simpa using h)).symm
          show HLe (SI n g j y 1 (.int .i64 5) (Mx 4 (some 1056964608) F)).heap _
          rw [e]
          exact HLe.refl _
        · refine ⟨rfl, rfl, ?_⟩
          have e : F 4 = mend (F 4) := (mend_t (by simpa using h)).symm
          show HLe (SI n g j y 1 (.int .i64 5) (Mx 4 (F 4) F)).heap _
          rw [e]
          exact HLe.refl _
      · refine ⟨_, rd1_5 n g j y F, ?_⟩
        cases h : sh (F (0 + 5))
        · refine ⟨rfl, rfl, ?_⟩
          have e : (some 1056964608 : Option Nat) = mend (F 5) := (mend_f (by simpa using h)).symm
          show HLe (SI n g j y 1 (.int .i64 6) (Mx 5 (some 1056964608) F)).heap _
          rw [e]
          exact HLe.refl _
        · refine ⟨rfl, rfl, ?_⟩
          have e : F 5 = mend (F 5) := (mend_t (by simpa using h)).symm
          show HLe (SI n g j y 1 (.int .i64 6) (Mx 5 (F 5) F)).heap _
          rw [e]
          exact HLe.refl _
      · refine ⟨_, rd1_6 n g j y F, ?_⟩
        cases h : sh (F (0 + 6))
        · refine ⟨rfl, rfl, ?_⟩
          have e : (some 1056964608 : Option Nat) = mend (F 6) := (mend_f (by simpa using h)).symm
          show HLe (SI n g j y 1 (.int .i64 7) (Mx 6 (some 1056964608) F)).heap _
          rw [e]
          exact HLe.refl _
        · refine ⟨rfl, rfl, ?_⟩
          have e : F 6 = mend (F 6) := (mend_t (by simpa using h)).symm
          show HLe (SI n g j y 1 (.int .i64 7) (Mx 6 (F 6) F)).heap _
          rw [e]
          exact HLe.refl _
      · refine ⟨_, rd1_7 n g j y F, ?_⟩
        cases h : sh (F (0 + 7))
        · refine ⟨rfl, rfl, ?_⟩
          have e : (some 1056964608 : Option Nat) = mend (F 7) := (mend_f (by simpa using h)).symm
          show HLe (SI n g j y 1 (.int .i64 8) (Mx 7 (some 1056964608) F)).heap _
          rw [e]
          exact HLe.refl _
        · refine ⟨rfl, rfl, ?_⟩
          have e : F 7 = mend (F 7) := (mend_t (by simpa using h)).symm
          show HLe (SI n g j y 1 (.int .i64 8) (Mx 7 (F 7) F)).heap _
          rw [e]
          exact HLe.refl _
      · refine ⟨_, rd1_8 n g j y F, ?_⟩
        cases h : sh (F (0 + 8))
        · refine ⟨rfl, rfl, ?_⟩
          have e : (some 1056964608 : Option Nat) = mend (F 8) := (mend_f (by simpa using h)).symm
          show HLe (SI n g j y 1 (.int .i64 9) (Mx 8 (some 1056964608) F)).heap _
          rw [e]
          exact HLe.refl _
        · refine ⟨rfl, rfl, ?_⟩
          have e : F 8 = mend (F 8) := (mend_t (by simpa using h)).symm
          show HLe (SI n g j y 1 (.int .i64 9) (Mx 8 (F 8) F)).heap _
          rw [e]
          exact HLe.refl _
      · refine ⟨_, rd1_9 n g j y F, ?_⟩
        cases h : sh (F (0 + 9))
        · refine ⟨rfl, rfl, ?_⟩
          have e : (some 1056964608 : Option Nat) = mend (F 9) := (mend_f (by simpa using h)).symm
          show HLe (SI n g j y 1 (.int .i64 10) (Mx 9 (some 1056964608) F)).heap _
          rw [e]
          exact HLe.refl _
        · refine ⟨rfl, rfl, ?_⟩
          have e : F 9 = mend (F 9) := (mend_t (by simpa using h)).symm
          show HLe (SI n g j y 1 (.int .i64 10) (Mx 9 (F 9) F)).heap _
          rw [e]
          exact HLe.refl _
      · refine ⟨_, rd1_10 n g j y F, ?_⟩
        cases h : sh (F (0 + 10))
        · refine ⟨rfl, rfl, ?_⟩
          have e : (some 1056964608 : Option Nat) = mend (F 10) := (mend_f (by simpa using h)).symm
          show HLe (SI n g j y 1 (.int .i64 11) (Mx 10 (some 1056964608) F)).heap _
          rw [e]
          exact HLe.refl _
        · refine ⟨rfl, rfl, ?_⟩
          have e : F 10 = mend (F 10) := (mend_t (by simpa using h)).symm
          show HLe (SI n g j y 1 (.int .i64 11) (Mx 10 (F 10) F)).heap _
          rw [e]
          exact HLe.refl _
      · refine ⟨_, rd1_11 n g j y F, ?_⟩
        cases h : sh (F (0 + 11))
        · refine ⟨rfl, rfl, ?_⟩
          have e : (some 1056964608 : Option Nat) = mend (F 11) := (mend_f (by simpa using h)).symm
          show HLe (SI n g j y 1 (.int .i64 12) (Mx 11 (some 1056964608) F)).heap _
          rw [e]
          exact HLe.refl _
        · refine ⟨rfl, rfl, ?_⟩
          have e : F 11 = mend (F 11) := (mend_t (by simpa using h)).symm
          show HLe (SI n g j y 1 (.int .i64 12) (Mx 11 (F 11) F)).heap _
          rw [e]
          exact HLe.refl _
      · refine ⟨_, rd1_12 n g j y F, ?_⟩
        cases h : sh (F (0 + 12))
        · refine ⟨rfl, rfl, ?_⟩
          have e : (some 1056964608 : Option Nat) = mend (F 12) := (mend_f (by simpa using h)).symm
          show HLe (SI n g j y 1 (.int .i64 13) (Mx 12 (some 1056964608) F)).heap _
          rw [e]
          exact HLe.refl _
        · refine ⟨rfl, rfl, ?_⟩
          have e : F 12 = mend (F 12) := (mend_t (by simpa using h)).symm
          show HLe (SI n g j y 1 (.int .i64 13) (Mx 12 (F 12) F)).heap _
          rw [e]
          exact HLe.refl _
      · refine ⟨_, rd1_13 n g j y F, ?_⟩
        cases h : sh (F (0 + 13))
        · refine ⟨rfl, rfl, ?_⟩
          have e : (some 1056964608 : Option Nat) = mend (F 13) := (mend_f (by simpa using h)).symm
          show HLe (SI n g j y 1 (.int .i64 14) (Mx 13 (some 1056964608) F)).heap _
          rw [e]
          exact HLe.refl _
        · refine ⟨rfl, rfl, ?_⟩
          have e : F 13 = mend (F 13) := (mend_t (by simpa using h)).symm
          show HLe (SI n g j y 1 (.int .i64 14) (Mx 13 (F 13) F)).heap _
          rw [e]
          exact HLe.refl _
      · refine ⟨_, rd1_14 n g j y F, ?_⟩
        cases h : sh (F (0 + 14))
        · refine ⟨rfl, rfl, ?_⟩
          have e : (some 1056964608 : Option Nat) = mend (F 14) := (mend_f (by simpa using h)).symm
          show HLe (SI n g j y 1 (.int .i64 15) (Mx 14 (some 1056964608) F)).heap _
          rw [e]
          exact HLe.refl _
        · refine ⟨rfl, rfl, ?_⟩
          have e : F 14 = mend (F 14) := (mend_t (by simpa using h)).symm
          show HLe (SI n g j y 1 (.int .i64 15) (Mx 14 (F 14) F)).heap _
          rw [e]
          exact HLe.refl _
      · refine ⟨_, rd1_15 n g j y F, ?_⟩
        cases h : sh (F (0 + 15))
        · refine ⟨rfl, rfl, ?_⟩
          have e : (some 1056964608 : Option Nat) = mend (F 15) := (mend_f (by simpa using h)).symm
          show HLe (SI n g j y 1 (.int .i64 16) (Mx 15 (some 1056964608) F)).heap _
          rw [e]
          exact HLe.refl _
        · refine ⟨rfl, rfl, ?_⟩
          have e : F 15 = mend (F 15) := (mend_t (by simpa using h)).symm
          show HLe (SI n g j y 1 (.int .i64 16) (Mx 15 (F 15) F)).heap _
          rw [e]
          exact HLe.refl _
      · omega)
    ⟨_, rd1_16 n g j y F, XLe.refl _⟩
  exact key.from ⟨rfl, HLe.refl _⟩
theorem lp2 (n : Nat) (g : Nat → Int) (j : Nat) (y : Int) (F : Nat → Option Nat) : LoopOk Try.prog 2 (loopN Try.prog 52 8) (SI n g j y 2 (.int .i64 0) (Mw 0 F)) (.leaf (.ext 2, EI n g j y 2 (Mw 16 F))) := by
  have key := loop_all (callF_ok sxApart sxMixed extK_ok (N := 20) 8) sxMixed (body := loopN Try.prog 52 8) (L := noL) (N := 20) (B := 2) (fun _ _ _ _ h => by cases h) [0, 2, 3, 4, 5, 6] [0, 2, 3, 4, 5] none none
    (fun k => SI n g j y 2 (.lit (.int .i64 (Int.ofNat k))) (Mw k F)) 16 (.ext 2, EI n g j y 2 (Mw 16 F)) (fun h => by cases h)
    (fun k hk => by
      rcases k with _ | _ | _ | _ | _ | _ | _ | _ | _ | _ | _ | _ | _ | _ | _ | _ | k
      · refine ⟨_, rd2_0 n g j y F, ?_⟩
        cases h : sh (F (0 + 0))
        · refine ⟨rfl, rfl, ?_⟩
          have e : (some 1056964608 : Option Nat) = mend (F 0) := (mend_f (by simpa using h)).symm
          show HLe (SI n g j y 2 (.int .i64 1) (Mx 0 (some 1056964608) F)).heap _
          rw [e]
          exact HLe.refl _
        · refine ⟨rfl, rfl, ?_⟩
          have e : F 0 = mend (F 0) := (mend_t (by simpa using h)).symm
          show HLe (SI n g j y 2 (.int .i64 1) (Mx 0 (F 0) F)).heap _
          rw [e]
          exact HLe.refl _
      · refine ⟨_, rd2_1 n g j y F, ?_⟩
        cases h : sh (F (0 + 1))
        · refine ⟨rfl, rfl, ?_⟩
          have e : (some 1056964608 : Option Nat) = mend (F 1) := (mend_f (by simpa using h)).symm
          show HLe (SI n g j y 2 (.int .i64 2) (Mx 1 (some 1056964608) F)).heap _
          rw [e]
          exact HLe.refl _
        · refine ⟨rfl, rfl, ?_⟩
          have e : F 1 = mend (F 1) := (mend_t (by simpa using h)).symm
          show HLe (SI n g j y 2 (.int .i64 2) (Mx 1 (F 1) F)).heap _
          rw [e]
          exact HLe.refl _
      · refine ⟨_, rd2_2 n g j y F, ?_⟩
        cases h : sh (F (0 + 2))
        · refine ⟨rfl, rfl, ?_⟩
          have e : (some 1056964608 : Option Nat) = mend (F 2) := (mend_f (by simpa using h)).symm
          show HLe (SI n g j y 2 (.int .i64 3) (Mx 2 (some 1056964608) F)).heap _
          rw [e]
          exact HLe.refl _
        · refine ⟨rfl, rfl, ?_⟩
          have e : F 2 = mend (F 2) := (mend_t (by simpa using h)).symm
          show HLe (SI n g j y 2 (.int .i64 3) (Mx 2 (F 2) F)).heap _
          rw [e]
          exact HLe.refl _
      · refine ⟨_, rd2_3 n g j y F, ?_⟩
        cases h : sh (F (0 + 3))
        · refine ⟨rfl, rfl, ?_⟩
          have e : (some 1056964608 : Option Nat) = mend (F 3) := (mend_f (by simpa using h)).symm
          show HLe (SI n g j y 2 (.int .i64 4) (Mx 3 (some 1056964608) F)).heap _
          rw [e]
          exact HLe.refl _
        · refine ⟨rfl, rfl, ?_⟩
          have e : F 3 = mend (F 3) := (mend_t (by simpa using h)).symm
          show HLe (SI n g j y 2 (.int .i64 4) (Mx 3 (F 3) F)).heap _
          rw [e]
          exact HLe.refl _
      · refine ⟨_, rd2_4 n g j y F, ?_⟩
        cases h : sh (F (0 + 4))
        · refine ⟨rfl, rfl, ?_⟩
          have e : (some 1056964608 : Option Nat) = mend (F 4) := (mend_f (by simpa using h)).symm
          show HLe (SI n g j y 2 (.int .i64 5) (Mx 4 (some 1056964608) F)).heap _
          rw [e]
          exact HLe.refl _
        · refine ⟨rfl, rfl, ?_⟩
          have e : F 4 = mend (F 4) := (mend_t (by simpa using h)).symm
          show HLe (SI n g j y 2 (.int .i64 5) (Mx 4 (F 4) F)).heap _
          rw [e]
          exact HLe.refl _
      · refine ⟨_, rd2_5 n g j y F, ?_⟩
        cases h : sh (F (0 + 5))
        · refine ⟨rfl, rfl, ?_⟩
          have e : (some 1056964608 : Option Nat) = mend (F 5) := (mend_f (by simpa using h)).symm
          show HLe (SI n g j y 2 (.int .i64 6) (Mx 5 (some 1056964608) F)).heap _
          rw [e]
          exact HLe.refl _
        · refine ⟨rfl, rfl, ?_⟩
          have e : F 5 = mend (F 5) := (mend_t (by simpa using h)).symm
          show HLe (SI n g j y 2 (.int .i64 6) (Mx 5 (F 5) F)).heap _
          rw [e]
          exact HLe.refl _
      · refine ⟨_, rd2_6 n g j y F, ?_⟩
        cases h : sh (F (0 + 6))
        · refine ⟨rfl, rfl, ?_⟩
          have e : (some 1056964608 : Option Nat) = mend (F 6) := (mend_f (by simpa using h)).symm
          show HLe (SI n g j y 2 (.int .i64 7) (Mx 6 (some 1056964608) F)).heap _
          rw [e]
          exact HLe.refl _
        · refine ⟨rfl, rfl, ?_⟩
          have e : F 6 = mend (F 6) := (mend_t (by simpa using h)).symm
          show HLe (SI n g j y 2 (.int .i64 7) (Mx 6 (F 6) F)).heap _
          rw [e]
          exact HLe.refl _
      · refine ⟨_, rd2_7 n g j y F, ?_⟩
        cases h : sh (F (0 + 7))
        · refine ⟨rfl, rfl, ?_⟩
          have e : (some 1056964608 : Option Nat) = mend (F 7) := (mend_f (by simpa using h)).symm
          show HLe (SI n g j y 2 (.int .i64 8) (Mx 7 (some 1056964608) F)).heap _
          rw [e]
          exact HLe.refl _
        · refine ⟨rfl, rfl, ?_⟩
          have e : F 7 = mend (F 7) := (mend_t (by simpa using h)).symm
          show HLe (SI n g j y 2 (.int .i64 8) (Mx 7 (F 7) F)).heap _
          rw [e]
          exact HLe.refl _
      · refine ⟨_, rd2_8 n g j y F, ?_⟩
        cases h : sh (F (0 + 8))
        · refine ⟨rfl, rfl, ?_⟩
          have e : (some 1056964608 : Option Nat) = mend (F 8) := (mend_f (by simpa using h)).symm
          show HLe (SI n g j y 2 (.int .i64 9) (Mx 8 (some 1056964608) F)).heap _
          rw [e]
          exact HLe.refl _
        · refine ⟨rfl, rfl, ?_⟩
          have e : F 8 = mend (F 8) := (mend_t (by simpa using h)).symm
          show HLe (SI n g j y 2 (.int .i64 9) (Mx 8 (F 8) F)).heap _
          rw [e]
          exact HLe.refl _
      · refine ⟨_, rd2_9 n g j y F, ?_⟩
        cases h : sh (F (0 + 9))
        · refine ⟨rfl, rfl, ?_⟩
          have e : (some 1056964608 : Option Nat) = mend (F 9) := (mend_f (by simpa using h)).symm
          show HLe (SI n g j y 2 (.int .i64 10) (Mx 9 (some 1056964608) F)).heap _
          rw [e]
          exact HLe.refl _
        · refine ⟨rfl, rfl, ?_⟩
          have e : F 9 = mend (F 9) := (mend_t (by simpa using h)).symm
          show HLe (SI n g j y 2 (.int .i64 10) (Mx 9 (F 9) F)).heap _
          rw [e]
          exact HLe.refl _
      · refine ⟨_, rd2_10 n g j y F, ?_⟩
        cases h : sh (F (0 + 10))
        · refine ⟨rfl, rfl, ?_⟩
          have e : (some 1056964608 : Option Nat) = mend (F 10) := (mend_f (by simpa using h)).symm
          show HLe (SI n g j y 2 (.int .i64 11) (Mx 10 (some 1056964608) F)).heap _
          rw [e]
          exact HLe.refl _
        · refine ⟨rfl, rfl, ?_⟩
          have e : F 10 = mend (F 10) := (mend_t (by simpa using h)).symm
          show HLe (SI n g j y 2 (.int .i64 11) (Mx 10 (F 10) F)).heap _
          rw [e]
          exact HLe.refl _
      · refine ⟨_, rd2_11 n g j y F, ?_⟩
        cases h : sh (F (0 + 11))
        · refine ⟨rfl, rfl, ?_⟩
          have e : (some 1056964608 : Option Nat) = mend (F 11) := (mend_f (by simpa using h)).symm
          show HLe (SI n g j y 2 (.int .i64 12) (Mx 11 (some 1056964608) F)).heap _
          rw [e]
          exact HLe.refl _
        · refine ⟨rfl, rfl, ?_⟩
          have e : F 11 = mend (F 11) := (mend_t (by simpa using h)).symm
          show HLe (SI n g j y 2 (.int .i64 12) (Mx 11 (F 11) F)).heap _
          rw [e]
          exact HLe.refl _
      · refine ⟨_, rd2_12 n g j y F, ?_⟩
        cases h : sh (F (0 + 12))
        · refine ⟨rfl, rfl, ?_⟩
          have e : (some 1056964608 : Option Nat) = mend (F 12) := (mend_f (by simpa using h)).symm
          show HLe (SI n g j y 2 (.int .i64 13) (Mx 12 (some 1056964608) F)).heap _
          rw [e]
          exact HLe.refl _
        · refine ⟨rfl, rfl, ?_⟩
          have e : F 12 = mend (F 12) := (mend_t (by simpa using h)).symm
          show HLe (SI n g j y 2 (.int .i64 13) (Mx 12 (F 12) F)).heap _
          rw [e]
          exact HLe.refl _
      · refine ⟨_, rd2_13 n g j y F, ?_⟩
        cases h : sh (F (0 + 13))
        · refine ⟨rfl, rfl, ?_⟩
          have e : (some 1056964608 : Option Nat) = mend (F 13) := (mend_f (by simpa using h)).symm
          show HLe (SI n g j y 2 (.int .i64 14) (Mx 13 (some 1056964608) F)).heap _
          rw [e]
          exact HLe.refl _
        · refine ⟨rfl, rfl, ?_⟩
          have e : F 13 = mend (F 13) := (mend_t (by simpa using h)).symm
          show HLe (SI n g j y 2 (.int .i64 14) (Mx 13 (F 13) F)).heap _
          rw [e]
          exact HLe.refl _
      · refine ⟨_, rd2_14 n g j y F, ?_⟩
        cases h : sh (F (0 + 14))
        · refine ⟨rfl, rfl, ?_⟩
          have e : (some 1056964608 : Option Nat) = mend (F 14) := (mend_f (by simpa using h)).symm
          show HLe (SI n g j y 2 (.int .i64 15) (Mx 14 (some 1056964608) F)).heap _
          rw [e]
          exact HLe.refl _
        · refine ⟨rfl, rfl, ?_⟩
          have e : F 14 = mend (F 14) := (mend_t (by simpa using h)).symm
          show HLe (SI n g j y 2 (.int .i64 15) (Mx 14 (F 14) F)).heap _
          rw [e]
          exact HLe.refl _
      · refine ⟨_, rd2_15 n g j y F, ?_⟩
        cases h : sh (F (0 + 15))
        · refine ⟨rfl, rfl, ?_⟩
          have e : (some 1056964608 : Option Nat) = mend (F 15) := (mend_f (by simpa using h)).symm
          show HLe (SI n g j y 2 (.int .i64 16) (Mx 15 (some 1056964608) F)).heap _
          rw [e]
          exact HLe.refl _
        · refine ⟨rfl, rfl, ?_⟩
          have e : F 15 = mend (F 15) := (mend_t (by simpa using h)).symm
          show HLe (SI n g j y 2 (.int .i64 16) (Mx 15 (F 15) F)).heap _
          rw [e]
          exact HLe.refl _
      · omega)
    ⟨_, rd2_16 n g j y F, XLe.refl _⟩
  exact key.from ⟨rfl, HLe.refl _⟩
theorem lp3 (n : Nat) (g : Nat → Int) (j : Nat) (y : Int) (F : Nat → Option Nat) : LoopOk Try.prog 2 (loopN Try.prog 52 8) (SI n g j y 3 (.int .i64 0) (Mw 0 F)) (.leaf (.ext 2, EI n g j y 3 (Mw 16 F))) := by
  have key := loop_all (callF_ok sxApart sxMixed extK_ok (N := 20) 8) sxMixed (body := loopN Try.prog 52 8) (L := noL) (N := 20) (B := 2) (fun _ _ _ _ h => by cases h) [0, 2, 3, 4, 5, 6] [0, 2, 3, 4, 5] none none
    (fun k => SI n g j y 3 (.lit (.int .i64 (Int.ofNat k))) (Mw k F)) 16 (.ext 2, EI n g j y 3 (Mw 16 F)) (fun h => by cases h)
    (fun k hk => by
      rcases k with _ | _ | _ | _ | _ | _ | _ | _ | _ | _ | _ | _ | _ | _ | _ | _ | k
      · refine ⟨_, rd3_0 n g j y F, ?_⟩
        cases h : sh (F (0 + 0))
        · refine ⟨rfl, rfl, ?_⟩
          have e : (some 1056964608 : Option Nat) = mend (F 0) := (mend_f (by simpa using h)).symm
          show HLe (SI n g j y 3 (.int .i64 1) (Mx 0 (some 1056964608) F)).heap _
          rw [e]
          exact HLe.refl _
        · refine ⟨rfl, rfl, ?_⟩
          have e : F 0 = mend (F 0) := (mend_t (by simpa using h)).symm
          show HLe (SI n g j y 3 (.int .i64 1) (Mx 0 (F 0) F)).heap _
          rw [e]
          exact HLe.refl _
      · refine ⟨_, rd3_1 n g j y F, ?_⟩
        cases h : sh (F (0 + 1))
        · refine ⟨rfl, rfl, ?_⟩
          have e : (some 1056964608 : Option Nat) = mend (F 1) := (mend_f (by simpa using h)).symm
          show HLe (SI n g j y 3 (.int .i64 2) (Mx 1 (some 1056964608) F)).heap _
          rw [e]
          exact HLe.refl _
        · refine ⟨rfl, rfl, ?_⟩
          have e : F 1 = mend (F 1) := (mend_t (by simpa using h)).symm
          show HLe (SI n g j y 3 (.int .i64 2) (Mx 1 (F 1) F)).heap _
          rw [e]
          exact HLe.refl _
      · refine ⟨_, rd3_2 n g j y F, ?_⟩
        cases h : sh (F (0 + 2))
        · refine ⟨rfl, rfl, ?_⟩
          have e : (some 1056964608 : Option Nat) = mend (F 2) := (mend_f (by simpa using h)).symm
          show HLe (SI n g j y 3 (.int .i64 3) (Mx 2 (some 1056964608) F)).heap _
          rw [e]
          exact HLe.refl _
        · refine ⟨rfl, rfl, ?_⟩
          have e : F 2 = mend (F 2) := (mend_t (by simpa using h)).symm
          show HLe (SI n g j y 3 (.int .i64 3) (Mx 2 (F 2) F)).heap _
          rw [e]
          exact HLe.refl _
      · refine ⟨_, rd3_3 n g j y F, ?_⟩
        cases h : sh (F (0 + 3))
        · refine ⟨rfl, rfl, ?_⟩
          have e : (some 1056964608 : Option Nat) = mend (F 3) := (mend_f (by simpa using h)).symm
          show HLe (SI n g j y 3 (.int .i64 4) (Mx 3 (some 1056964608) F)).heap _
          rw [e]
          exact HLe.refl _
        · refine ⟨rfl, rfl, ?_⟩
          have e : F 3 = mend (F 3) := (mend_t (by simpa using h)).symm
          show HLe (SI n g j y 3 (.int .i64 4) (Mx 3 (F 3) F)).heap _
          rw [e]
          exact HLe.refl _
      · refine ⟨_, rd3_4 n g j y F, ?_⟩
        cases h : sh (F (0 + 4))
        · refine ⟨rfl, rfl, ?_⟩
          have e : (some 1056964608 : Option Nat) = mend (F 4) := (mend_f (by simpa using h)).symm
          show HLe (SI n g j y 3 (.int .i64 5) (Mx 4 (some 1056964608) F)).heap _
          rw [e]
          exact HLe.refl _
        · refine ⟨rfl, rfl, ?_⟩
          have e : F 4 = mend (F 4) := (mend_t (by simpa using h)).symm
          show HLe (SI n g j y 3 (.int .i64 5) (Mx 4 (F 4) F)).heap _
          rw [e]
          exact HLe.refl _
      · refine ⟨_, rd3_5 n g j y F, ?_⟩
        cases h : sh (F (0 + 5))
        · refine ⟨rfl, rfl, ?_⟩
          have e : (some 1056964608 : Option Nat) = mend (F 5) := (mend_f (by simpa using h)).symm
          show HLe (SI n g j y 3 (.int .i64 6) (Mx 5 (some 1056964608) F)).heap _
          rw [e]
          exact HLe.refl _
        · refine ⟨rfl, rfl, ?_⟩
          have e : F 5 = mend (F 5) := (mend_t (by simpa using h)).symm
          show HLe (SI n g j y 3 (.int .i64 6) (Mx 5 (F 5) F)).heap _
          rw [e]
          exact HLe.refl _
      · refine ⟨_, rd3_6 n g j y F, ?_⟩
        cases h : sh (F (0 + 6))
        · refine ⟨rfl, rfl, ?_⟩
          have e : (some 1056964608 : Option Nat) = mend (F 6) := (mend_f (by simpa using h)).symm
          show HLe (SI n g j y 3 (.int .i64 7) (Mx 6 (some 1056964608) F)).heap _
          rw [e]
          exact HLe.refl _
        · refine ⟨rfl, rfl, ?_⟩
          have e : F 6 = mend (F 6) := (mend_t (by simpa using h)).symm
          show HLe (SI n g j y 3 (.int .i64 7) (Mx 6 (F 6) F)).heap _
          rw [e]
          exact HLe.refl _
      · refine ⟨_, rd3_7 n g j y F, ?_⟩
        cases h : sh (F (0 + 7))
        · refine ⟨rfl, rfl, ?_⟩
          have e : (some 1056964608 : Option Nat) = mend (F 7) := (mend_f (by simpa using h)).symm
          show HLe (SI n g j y 3 (.int .i64 8) (Mx 7 (some 1056964608) F)).heap _
          rw [e]
          exact HLe.refl _
        · refine ⟨rfl, rfl, ?_⟩
          have e : F 7 = mend (F 7) := (mend_t (by simpa using h)).symm
          show HLe (SI n g j y 3 (.int .i64 8) (Mx 7 (F 7) F)).heap _
          rw [e]
          exact HLe.refl _
      · refine ⟨_, rd3_8 n g j y F, ?_⟩
        cases h : sh (F (0 + 8))
        · refine ⟨rfl, rfl, ?_⟩
          have e : (some 1056964608 : Option Nat) = mend (F 8) := (mend_f (by simpa using h)).symm
          show HLe (SI n g j y 3 (.int .i64 9) (Mx 8 (some 1056964608) F)).heap _
          rw [e]
          exact HLe.refl _
        · refine ⟨rfl, rfl, ?_⟩
          have e : F 8 = mend (F 8) := (mend_t (by simpa using h)).symm
          show HLe (SI n g j y 3 (.int .i64 9) (Mx 8 (F 8) F)).heap _
          rw [e]
          exact HLe.refl _
      · refine ⟨_, rd3_9 n g j y F, ?_⟩
        cases h : sh (F (0 + 9))
        · refine ⟨rfl, rfl, ?_⟩
          have e : (some 1056964608 : Option Nat) = mend (F 9) := (mend_f (by simpa using h)).symm
          show HLe (SI n g j y 3 (.int .i64 10) (Mx 9 (some 1056964608) F)).heap _
          rw [e]
          exact HLe.refl _
        · refine ⟨rfl, rfl, ?_⟩
          have e : F 9 = mend (F 9) := (mend_t (by simpa using h)).symm
          show HLe (SI n g j y 3 (.int .i64 10) (Mx 9 (F 9) F)).heap _
          rw [e]
          exact HLe.refl _
      · refine ⟨_, rd3_10 n g j y F, ?_⟩
        cases h : sh (F (0 + 10))
        · refine ⟨rfl, rfl, ?_⟩
          have e : (some 1056964608 : Option Nat) = mend (F 10) := (mend_f (by simpa using h)).symm
          show HLe (SI n g j y 3 (.int .i64 11) (Mx 10 (some 1056964608) F)).heap _
          rw [e]
          exact HLe.refl _
        · refine ⟨rfl, rfl, ?_⟩
          have e : F 10 = mend (F 10) := (mend_t (by simpa using h)).symm
          show HLe (SI n g j y 3 (.int .i64 11) (Mx 10 (F 10) F)).heap _
          rw [e]
          exact HLe.refl _
      · refine ⟨_, rd3_11 n g j y F, ?_⟩
        cases h : sh (F (0 + 11))
        · refine ⟨rfl, rfl, ?_⟩
          have e : (some 1056964608 : Option Nat) = mend (F 11) := (mend_f (by simpa using h)).symm
          show HLe (SI n g j y 3 (.int .i64 12) (Mx 11 (some 1056964608) F)).heap _
          rw [e]
          exact HLe.refl _
        · refine ⟨rfl, rfl, ?_⟩
          have e : F 11 = mend (F 11) := (mend_t (by simpa using h)).symm
          show HLe (SI n g j y 3 (.int .i64 12) (Mx 11 (F 11) F)).heap _
          rw [e]
          exact HLe.refl _
      · refine ⟨_, rd3_12 n g j y F, ?_⟩
        cases h : sh (F (0 + 12))
        · refine ⟨rfl, rfl, ?_⟩
          have e : (some 1056964608 : Option Nat) = mend (F 12) := (mend_f (by simpa using h)).symm
          show HLe (SI n g j y 3 (.int .i64 13) (Mx 12 (some 1056964608) F)).heap _
          rw [e]
          exact HLe.refl _
        · refine ⟨rfl, rfl, ?_⟩
          have e : F 12 = mend (F 12) := (mend_t (by simpa using h)).symm
          show HLe (SI n g j y 3 (.int .i64 13) (Mx 12 (F 12) F)).heap _
          rw [e]
          exact HLe.refl _
      · refine ⟨_, rd3_13 n g j y F, ?_⟩
        cases h : sh (F (0 + 13))
        · refine ⟨rfl, rfl, ?_⟩
          have e : (some 1056964608 : Option Nat) = mend (F 13) := (mend_f (by simpa using h)).symm
          show HLe (SI n g j y 3 (.int .i64 14) (Mx 13 (some 1056964608) F)).heap _
          rw [e]
          exact HLe.refl _
        · refine ⟨rfl, rfl, ?_⟩
          have e : F 13 = mend (F 13) := (mend_t (by simpa using h)).symm
          show HLe (SI n g j y 3 (.int .i64 14) (Mx 13 (F 13) F)).heap _
          rw [e]
          exact HLe.refl _
      · refine ⟨_, rd3_14 n g j y F, ?_⟩
        cases h : sh (F (0 + 14))
        · refine ⟨rfl, rfl, ?_⟩
          have e : (some 1056964608 : Option Nat) = mend (F 14) := (mend_f (by simpa using h)).symm
          show HLe (SI n g j y 3 (.int .i64 15) (Mx 14 (some 1056964608) F)).heap _
          rw [e]
          exact HLe.refl _
        · refine ⟨rfl, rfl, ?_⟩
          have e : F 14 = mend (F 14) := (mend_t (by simpa using h)).symm
          show HLe (SI n g j y 3 (.int .i64 15) (Mx 14 (F 14) F)).heap _
          rw [e]
          exact HLe.refl _
      · refine ⟨_, rd3_15 n g j y F, ?_⟩
        cases h : sh (F (0 + 15))
        · refine ⟨rfl, rfl, ?_⟩
          have e : (some 1056964608 : Option Nat) = mend (F 15) := (mend_f (by simpa using h)).symm
          show HLe (SI n g j y 3 (.int .i64 16) (Mx 15 (some 1056964608) F)).heap _
          rw [e]
          exact HLe.refl _
        · refine ⟨rfl, rfl, ?_⟩
          have e : F 15 = mend (F 15) := (mend_t (by simpa using h)).symm
          show HLe (SI n g j y 3 (.int .i64 16) (Mx 15 (F 15) F)).heap _
          rw [e]
          exact HLe.refl _
      · omega)
    ⟨_, rd3_16 n g j y F, XLe.refl _⟩
  exact key.from ⟨rfl, HLe.refl _⟩
end Go.Proofs.Ytpnjimpiphbcfaa.J3
set_option linter.unusedVariables false
set_option linter.unusedSimpArgs false
set_option maxRecDepth 100000
namespace Go.Proofs.Ytpnjimpiphbcfaa.J4
open Go.Sx Go.Sx.R0 Go.Sx.C5 Go.Sx.C1 Go.Sx.Fl Go.Sx.Ink Go.Proofs.Ytpnjimpiphbcfaa.J1 Go.Proofs.Ytpnjimpiphbcfaa.J2 Go.Proofs.Ytpnjimpiphbcfaa.J3

def selI (st : St) : Option Nat := match gt st.slots 4 with | .lit (.int .i64 (.ofNat i)) => some i | _ => none
noncomputable def EL (n : Nat) (g : Nat → Int) (j : Nat) (y : Int) (i : Nat) (F : Nat → Option Nat) : St := ⟨[.ptr 0 0 0, .junk, .ptr 2 0 0, .ptr 3 0 0, .lit (.int .i64 (Int.ofNat i)), .ptr (6 + 3 * i) 0 0] ++ junks 34, hp1 n g j y i F⟩
noncomputable def LD (n : Nat) (g : Nat → Int) (j : Nat) (y : Int) : LoopOr := loopFam 8 [0, 2, 3, 4, 5, 6] selI (fun i => SI n g j y i (.int .i64 0) (Mw 0 (dF n g j y i))) (fun i => .leaf (.ext 2, EL n g j y i (Mw 16 (dF n g j y i)))) (fun i => Nat.blt i 4) noL
theorem LD_ok (n : Nat) (g : Nat → Int) (j : Nat) (y : Int) : LOk Try.prog 2 52 (LD n g j y) := loopFam_all (by decide +kernel) (fun i hi => by
  have hi : i < 4 := by simpa [Nat.blt_eq] using hi
  rcases i with _ | _ | _ | _ | i
  · exact (lp0 n g j y _).weak ⟨rfl, rfl, HLe.refl _⟩
  · exact (lp1 n g j y _).weak ⟨rfl, rfl, HLe.refl _⟩
  · exact (lp2 n g j y _).weak ⟨rfl, rfl, HLe.refl _⟩
  · exact (lp3 n g j y _).weak ⟨rfl, rfl, HLe.refl _⟩
  · omega) noL_all
noncomputable def dK (n : Nat) (g : Nat → Int) : CallerT := addK 87 (selRunR refC (runSm n g)) (pK n g)
theorem dK_ok (n : Nat) (g : Nat → Int) : CallerTOk Try.prog (dK n g) := addK_ok (smoothOk n g) (pK_ok n g)
noncomputable def okD (n : Nat) (g : Nat → Int) (j : Nat) (y : Int) (i : Nat) : Bool := andB (okS n g (mS n g (dS n g j y i).1 (dS n g j y i).2) (dS n g j y i).1 (dS n g j y i).2) (Nat.ble (dS n g j y i).1 900)
noncomputable def okL (n : Nat) (g : Nat → Int) (j : Nat) (y : Int) (i : Nat) : Bool := andB true (deqS (SI n g j y i (.int .i64 0) (Mw 0 (dF n g j y i))) (SI n g j y i (.int .i64 0) (Mw 0 (dF n g j y i))))
noncomputable def oDr (n : Nat) (g : Nat → Int) (j : Nat) (y : Int) : Bool := andB (kk n g j y 0) (andB (kk n g j y 1) (andB (okD n g j y 0) (andB (okL n g j y 0) (andB (okD n g j y 1) (andB (okL n g j y 1) (andB (okD n g j y 2) (andB (okL n g j y 2) (andB (okD n g j y 3) (andB (okL n g j y 3) true)))))))))
noncomputable def hpE (n : Nat) (g : Nat → Int) (j : Nat) (y : Int) : List Blk := appH (mS n g (dS n g j y 4).1 (dS n g j y 4).2) (appH [.one true (pcs (pF n g j y 4)), .one true (pcs (pF n g j y 4))] (cbs n g j y 4))
theorem eDr (n : Nat) (g : Nat → Int) (j : Nat) (y : Int) : evM Try.prog (dK n g) (LD n g j y) 20 8 52 [.ptr 0 0 0] (mS n g j y) = some (.leaf (.agg (pcs (pF n g j y 4)), some (hpE n g j y)), oDr n g j y) := by kernel_rfl
theorem smJ_le (n : Nat) (g : Nat → Int) (j : Nat) (y : Int) : smJ n g j y ≤ j + 17 := by
  unfold smJ
  cases q0 n g j y <;> cases q1 n g j y <;> simp
theorem dS_le (n : Nat) (g : Nat → Int) (j : Nat) (y : Int) : ∀ i, (dS n g j y i).1 ≤ j + 2 + 17 * i
  | 0 => by unfold dS; simp
  | i + 1 => by
    have h := dS_le n g j y i
    have h2 := smJ_le n g (dS n g j y i).1 (dS n g j y i).2
    show smJ n g (dS n g j y i).1 (dS n g j y i).2 ≤ _
    omega
theorem okD_true {n : Nat} {g : Nat → Int} {j : Nat} {y : Int} (hj : j ≤ 800) {i : Nat} (hi : i ≤ 4) : okD n g j y i = true := by
  have h := dS_le n g j y i
  unfold okD
  rw [okS_self (by omega), Nat.ble_eq_true_of_le (by omega)]; rfl
theorem okL_true (n : Nat) (g : Nat → Int) (j : Nat) (y : Int) (i : Nat) : okL n g j y i = true := by unfold okL; rw [deqS_self]; rfl
theorem oDr_true {n : Nat} {g : Nat → Int} {j : Nat} {y : Int} (hj : j ≤ 800) : oDr n g j y = true := by
  unfold oDr
  rw [kk_true (k := 0) (by omega), kk_true (k := 1) (by omega), okD_true hj (i := 0) (by omega), okD_true hj (i := 1) (by omega), okD_true hj (i := 2) (by omega), okD_true hj (i := 3) (by omega), okL_true, okL_true, okL_true, okL_true]; rfl
def dead14 : List Blk := [.dead, .dead, .dead, .dead, .dead, .dead, .dead, .dead, .dead, .dead, .dead, .dead, .dead, .dead]
noncomputable def runDr (n : Nat) (g : Nat → Int) := runD n g (fun j y => (dS n g j y 4).1) (fun j y => (dS n g j y 4).2) (fun j y => .agg (pcs (pF n g j y 4))) dead14 800
theorem drawnOk (n : Nat) (g : Nat → Int) : SumOk Try.prog 52 (selRunR refC (runDr n g)) := drawOk fun j y hj _ => by
  have h := eDr n g j y
  rw [oDr_true hj] at h
  refine ⟨_, LD n g j y, 20, 8, _, dK_ok n g, LD_ok n g j y, h, rfl, ?_⟩
  exact ⟨BLe.refl _, BLe.refl _, BLe.dead _, BLe.dead _, BLe.dead _, BLe.dead _, BLe.dead _, BLe.dead _, BLe.dead _, BLe.dead _, BLe.dead _, BLe.dead _, BLe.dead _, BLe.dead _, BLe.dead _, BLe.dead _, trivial⟩
-- the press that a law draws
noncomputable def prs (n : Nat) (g : Nat → Int) : Nat → Option Nat := pF n g 0 0 4
theorem ePr (n : Nat) (g : Nat → Int) : evF Try.prog (addK 52 (selRunR refC (runDr n g)) extK) noL 20 8 16 [.slc 0 0 n] [.rows false n 1 (ur g)] = some (.leaf (.agg (pcs (prs n g)), none), andB (andB (okS n g (mS n g 0 0) 0 0) true) true) := by kernel_rfl
end Go.Proofs.Ytpnjimpiphbcfaa.J4
set_option linter.unusedVariables false
set_option linter.unusedSimpArgs false
set_option exponentiation.threshold 3000
set_option maxRecDepth 100000
namespace Go.Sx.Ink
open Go Go.Sx Go.Sx.Fl Ieee

noncomputable def cv (k : Nat) : Option Nat := gr w32 (Int.ofNat k)
noncomputable def lv (k : Nat) : Option Nat := gr 1082130432 (Int.ofNat k)
noncomputable def sv (k : Nat) : Option Nat := gr 1090519040 (Int.ofNat k)
theorem cv_NV {k : Nat} (h : k ≤ 32) : NV (cv k) (k * 2 ^ 1069) := chk_of c32 (by omega)
theorem lv_NV {k : Nat} (h : k ≤ 16) : NV (lv k) (k * 2 ^ 1072) := chk_of c4 (by omega)
theorem sv_NV {k : Nat} (h : k ≤ 8) : NV (sv k) (k * 2 ^ 1071) := chk_of c8 (by omega)
theorem p69 (k : Nat) : k * 2 ^ 1072 = (8 * k) * 2 ^ 1069 := by
  have h : (2 : Nat) ^ 1072 = 8 * 2 ^ 1069 := by
    rw [show (1072 : Nat) = 3 + 1069 from rfl, Nat.pow_add]
  rw [h, ← Nat.mul_assoc, Nat.mul_comm k 8]
theorem add_g {o u : Option Nat} {j k e : Nat} (ho : NV o (j * 2 ^ e)) (hu : NV u (k * 2 ^ e)) (h : j + k ≤ 2 ^ 24) (h0 : 925 ≤ e) (h1 : e ≤ 1080) : NV (fop .add .f32 o u) ((j + k) * 2 ^ e) := by
  have r := rep_grid h h0 h1
  have e' : j * 2 ^ e + k * 2 ^ e = (j + k) * 2 ^ e := by rw [Nat.add_mul]
  have := ho.add hu (by rw [e']; exact r.2)
  rw [e', r.1] at this
  exact this
theorem sub_g {o u : Option Nat} {j k e : Nat} (ho : NV o (j * 2 ^ e)) (hu : NV u (k * 2 ^ e)) (hk : k ≤ j) (h : j ≤ 2 ^ 24) (h0 : 925 ≤ e) (h1 : e ≤ 1080) : NV (fop .sub .f32 o u) ((j - k) * 2 ^ e) := by
  have r := rep_grid (k := j - k) (e := e) (by omega) h0 h1
  have e' : j * 2 ^ e - k * 2 ^ e = (j - k) * 2 ^ e := by rw [Nat.sub_mul]
  have := ho.sub hu (Nat.mul_le_mul_right _ hk)
  rw [e', r.1] at this
  exact this
theorem g_max {X : Nat} (h : X ≤ 2 ^ 24 * 2 ^ 1053) : g32 X < single.infRung := Nat.lt_of_le_of_lt (gR_mono h) (rep_grid (Nat.le_refl _) (by omega) (by omega)).2
/-- a sum and how far it is off -/
theorem add_n {o u : Option Nat} {A B : Nat} (ho : NV o A) (hu : NV u B) (h : A + B < 2 ^ 24 * 2 ^ 1053) : ∃ C, NV (fop .add .f32 o u) C ∧ C ≤ A + B + 2 ^ 1053 ∧ A + B ≤ C + 2 ^ 1053 := ⟨_, ho.add hu (g_max (Nat.le_of_lt h)), (rd_up h).1, (rd_up h).2⟩
noncomputable def s3 (a b c : Option Nat) : Option Nat := fop .add .f32 (fop .add .f32 a b) c
noncomputable def ink (a b c d : Option Nat) : Option Nat := fop .add .f32 (s3 a b c) d
theorem s3_NV {a b c : Nat} (ha : a ≤ 32) (hb : b ≤ 32) (hc : c ≤ 32) : NV (s3 (cv a) (cv b) (cv c)) ((a + b + c) * 2 ^ 1069) := add_g (add_g (cv_NV ha) (cv_NV hb) (by omega) (by omega) (by omega)) (cv_NV hc) (by omega) (by omega) (by omega)
theorem ink_NV {a b c d : Nat} (ha : a ≤ 32) (hb : b ≤ 32) (hc : c ≤ 32) (hd : d ≤ 32) : NV (ink (cv a) (cv b) (cv c) (cv d)) ((a + b + c + d) * 2 ^ 1069) := add_g (s3_NV ha hb hc) (cv_NV hd) (by omega) (by omega) (by omega)
noncomputable def byL (a b c d l : Option Nat) : Option Nat := fop .quo .f32 (fop .sub .f32 l d) (s3 a b c)
/-- a part times what it is limited by -/
theorem mul_l {k v : Nat} {o : Option Nat} (hk : k ≤ 32) (hv : NV o v) (h1 : v ≤ 2 ^ 1074) : ∃ D Z, NV (fop .mul .f32 (cv k) o) D ∧ D ≤ k * 2 ^ 1069 ∧ D ≤ Z + 2 ^ 1053 ∧ k * v = Z * 2 ^ 5 := by
  obtain ⟨Z, hZ, hn⟩ := (cv_NV hk).mul hv
  have hz : k * v = Z * 2 ^ 5 := by
    have e : (k * v) * 2 ^ 1069 = (Z * 2 ^ 5) * 2 ^ 1069 := by
      rw [Nat.mul_assoc Z, ← Nat.pow_add, show 5 + 1069 = 1074 from rfl, ← hZ, Nat.mul_right_comm]
    exact Nat.eq_of_mul_eq_mul_right (Nat.two_pow_pos _) e
  have hZk : Z ≤ k * 2 ^ 1069 := by
    have h2 : Z * 2 ^ 5 ≤ (k * 2 ^ 1069) * 2 ^ 5 := by
      rw [← hz, Nat.mul_assoc, ← Nat.pow_add]
      exact Nat.mul_le_mul_left k h1
    exact Nat.le_of_mul_le_mul_right h2 (Nat.two_pow_pos _)
  have hmax : k * 2 ^ 1069 ≤ 2 ^ 5 * 2 ^ 1069 := Nat.mul_le_mul_right _ (by omega)
  have hlt : Z < 2 ^ 24 * 2 ^ 1053 := by
    refine Nat.lt_of_le_of_lt (Nat.le_trans hZk hmax) ?_
    rw [← Nat.pow_add, ← Nat.pow_add]
    exact Nat.pow_lt_pow_right (by omega) (by omega)
  exact ⟨rd Z, Z, hn (g_max (Nat.le_of_lt hlt)), rd_le hZk (rep_grid (by omega) (by omega) (by omega)).1, (rd_up hlt).1, hz⟩
/-- what is limited -/
theorem lim3 {a b c d L : Nat} (ha : a ≤ 32) (hb : b ≤ 32) (hc : c ≤ 32) (hd : d ≤ 32) (hL : L ≤ 16) (h1 : d < 8 * L) (h2 : 8 * L < a + b + c + d) :
    ∃ A B C T, NV (fop .mul .f32 (cv a) (byL (cv a) (cv b) (cv c) (cv d) (lv L))) A ∧ NV (fop .mul .f32 (cv b) (byL (cv a) (cv b) (cv c) (cv d) (lv L))) B ∧ NV (fop .mul .f32 (cv c) (byL (cv a) (cv b) (cv c) (cv d) (lv L))) C ∧
      A ≤ a * 2 ^ 1069 ∧ B ≤ b * 2 ^ 1069 ∧ C ≤ c * 2 ^ 1069 ∧
      NV (ink (fop .mul .f32 (cv a) (byL (cv a) (cv b) (cv c) (cv d) (lv L))) (fop .mul .f32 (cv b) (byL (cv a) (cv b) (cv c) (cv d) (lv L))) (fop .mul .f32 (cv c) (byL (cv a) (cv b) (cv c) (cv d) (lv L))) (cv d)) T ∧ T ≤ L * 2 ^ 1072 + 9 * 2 ^ 1053 := by
  have hl := lv_NV hL
  rw [p69] at hl
  have hp := sub_g hl (cv_NV hd) (by omega) (by omega) (by omega) (by omega)
  obtain ⟨v, hv, v1, v2⟩ := quo_of (fop_wdO _ _ _) (fop_wdO _ _ _) hp (s3_NV ha hb hc) (by omega) (by omega) (by omega) (chk_of c97 (by omega)) (chk_of c97 (by omega))
  have hv : NV (byL (cv a) (cv b) (cv c) (cv d) (lv L)) v := hv
  generalize byL (cv a) (cv b) (cv c) (cv d) (lv L) = o at *
  obtain ⟨A, Z1, m1, m2, m3, m4⟩ := mul_l ha hv v1
  obtain ⟨B, Z2, n1, n2, n3, n4⟩ := mul_l hb hv v1
  obtain ⟨C, Z3, o1, o2, o3, o4⟩ := mul_l hc hv v1
  -- the sum
  have hu : (2 : Nat) ^ 1069 = 65536 * 2 ^ 1053 := by rw [show (1069 : Nat) = 16 + 1053 from rfl, Nat.pow_add]
  have hs : (Z1 + Z2 + Z3) * 2 ^ 5 ≤ ((8 * L - d) * 2 ^ 21 + (a + b + c)) * 2 ^ 1053 := by
    refine Nat.le_trans (Nat.le_of_eq ?_) v2
    rw [Nat.add_mul, Nat.add_mul, ← m4, ← n4, ← o4, ← Nat.add_mul, ← Nat.add_mul, Nat.mul_comm]
  have hd69 := cv_NV hd
  rw [p69]
  rw [hu] at m2 n2 o2 hd69 ⊢
  have hmx : 2 ^ 24 * 2 ^ 1053 = 16777216 * (2 : Nat) ^ 1053 := rfl
  generalize hU : (2 : Nat) ^ 1053 = u at *
  have e0 : ((8 * L - d) * 2 ^ 21 + (a + b + c)) * u = 2097152 * ((8 * L - d) * u) + (a + b + c) * u := by
    rw [Nat.add_mul, Nat.mul_right_comm, Nat.mul_comm ((8 * L - d) * u)]
  have e1 : (a + b + c) * u ≤ 96 * u := Nat.mul_le_mul_right _ (by omega)
  have e2 : ∀ k : Nat, k * (65536 * u) = 65536 * (k * u) := fun k => Nat.mul_left_comm k 65536 u
  have e3 : (8 * L - d) * u + d * u = 8 * L * u := by rw [← Nat.add_mul, show 8 * L - d + d = 8 * L by omega]
  have e4 : a * u ≤ 32 * u := Nat.mul_le_mul_right _ ha
  have e5 : b * u ≤ 32 * u := Nat.mul_le_mul_right _ hb
  have e6 : c * u ≤ 32 * u := Nat.mul_le_mul_right _ hc
  have e7 : d * u ≤ 32 * u := Nat.mul_le_mul_right _ hd
  simp only [e2] at m2 n2 o2 hd69 ⊢
  rw [e0] at hs
  obtain ⟨S1, q1, q2, _⟩ := add_n m1 n1 (by rw [hU, hmx]; omega)
  obtain ⟨S2, r1, r2, _⟩ := add_n q1 o1 (by rw [hU, hmx]; rw [hU] at q2; omega)
  obtain ⟨T, t1, t2, _⟩ := add_n r1 hd69 (by rw [hU, hmx]; rw [hU] at q2 r2; omega)
  rw [hU] at q2 r2 t2
  clear hU hu hl hp
  refine ⟨A, B, C, T, m1, n1, o1, ?_, ?_, ?_, t1, ?_⟩
  · exact m2
  · exact n2
  · exact o2
  · omega
end Go.Sx.Ink
set_option linter.unusedVariables false
set_option linter.unusedSimpArgs false
set_option exponentiation.threshold 3000
set_option maxRecDepth 100000
namespace Go.Sx.Ink
open Go Go.Sx Go.Sx.Fl Ieee

theorem tk_NV : NV (some 953267991) (13743895 * 2 ^ 1037) := NV_val (by decide +kernel)
theorem lim_ar {L u v y X : Nat} (h2 : u = 65536 * v) (x3 : y + 13743895 * v ≤ X + u) : y + 9 * u ≤ X := by omega
theorem lim_lt {L u y w : Nat} (h3 : w = 524288 * u) (hm : y ≤ 16 * w) {v : Nat} (h2 : u = 65536 * v) (hv : 0 < v) : y + 13743895 * v < 16777216 * u := by omega
theorem lim_t {L : Nat} (hL : L ≤ 16) : ∃ X, NV (fop .add .f32 (lv L) (some 953267991)) X ∧ L * 2 ^ 1072 + 9 * 2 ^ 1053 ≤ X := by
  have h2 : (2 : Nat) ^ 1053 = 65536 * 2 ^ 1037 := by rw [show (1053 : Nat) = 16 + 1037 from rfl, Nat.pow_add]
  have h3 : (2 : Nat) ^ 1072 = 524288 * 2 ^ 1053 := by rw [show (1072 : Nat) = 19 + 1053 from rfl, Nat.pow_add]
  have hm : L * 2 ^ 1072 ≤ 16 * 2 ^ 1072 := Nat.mul_le_mul_right _ hL
  obtain ⟨X, x1, x2, x3⟩ := add_n (lv_NV hL) tk_NV (lim_lt (L := L) h3 hm h2 (Nat.two_pow_pos _))
  exact ⟨X, x1, lim_ar (L := L) h2 x3⟩
-- black put under
theorem h66 (k : Nat) : k * 2 ^ 1069 = (8 * k) * 2 ^ 1066 := by
  have h : (2 : Nat) ^ 1069 = 8 * 2 ^ 1066 := by rw [show (1069 : Nat) = 3 + 1066 from rfl, Nat.pow_add]
  rw [h, ← Nat.mul_assoc, Nat.mul_comm k 8]
noncomputable def gv (s k : Nat) : Option Nat := fop .mul .f32 (sv s) (cv k)
theorem g_NV {s k : Nat} (hs : s ≤ 8) (hk : k ≤ 32) : NV (gv s k) ((s * k) * 2 ^ 1066) := by
  obtain ⟨Z, hZ, hn⟩ := (sv_NV hs).mul (cv_NV hk)
  have hz : Z = (s * k) * 2 ^ 1066 := by
    have e : Z * 2 ^ 1074 = ((s * k) * 2 ^ 1066) * 2 ^ 1074 := by
      rw [← hZ, Nat.mul_assoc (s * k), ← Nat.pow_add, Nat.mul_mul_mul_comm, ← Nat.pow_add]
    exact Nat.eq_of_mul_eq_mul_right (Nat.two_pow_pos _) e
  have hsk : s * k ≤ 8 * 32 := Nat.mul_le_mul hs hk
  have r := rep_grid (k := s * k) (e := 1066) (by omega) (by omega) (by omega)
  rw [hz] at hn
  have := hn r.2
  rw [r.1] at this
  exact this
theorem sub_NV {s k i : Nat} (hs : s ≤ 8) (hk : k ≤ i) (hi : i ≤ 32) : NV (fop .sub .f32 (cv i) (gv s k)) ((8 * i - s * k) * 2 ^ 1066) := by
  have h := cv_NV hi
  rw [h66] at h
  have hsk : s * k ≤ 8 * i := Nat.mul_le_mul hs hk
  exact sub_g h (g_NV hs (by omega)) hsk (by omega) (by omega) (by omega)
theorem add_NV {s k i : Nat} (hs : s ≤ 8) (hk : k ≤ 32) (hi : i ≤ 32) : NV (fop .add .f32 (cv i) (gv s k)) ((8 * i + s * k) * 2 ^ 1066) := by
  have h := cv_NV hi
  rw [h66] at h
  have hsk : s * k ≤ 8 * 32 := Nat.mul_le_mul hs hk
  exact add_g h (g_NV hs hk) (by omega) (by omega) (by omega)
theorem one_NV : NV (some 1065353216) (256 * 2 ^ 1066) := NV_val (by decide +kernel)
/-- two numbers that are worth the same -/
theorem same_sub {o u : Option Nat} {A : Nat} (h : NV o A) (k : NV u A) : NV (fop .sub .f32 o u) 0 := by
  have := h.sub k (Nat.le_refl A)
  rw [Nat.sub_self, rd_zero] at this
  exact this
end Go.Sx.Ink
set_option linter.unusedVariables false
set_option linter.unusedSimpArgs false
set_option exponentiation.threshold 3000
set_option maxRecDepth 100000
namespace Go.Proofs.Ytpnjimpiphbcfaa.J5
open Go Go.Sx Go.Sx.R0 Go.Sx.C5 Go.Sx.C1 Go.Sx.Fl Go.Sx.Ink Ieee Go.Proofs.Ytpnjimpiphbcfaa.J1 Go.Proofs.Ytpnjimpiphbcfaa.J2 Go.Proofs.Ytpnjimpiphbcfaa.J3 Go.Proofs.Ytpnjimpiphbcfaa.J4

theorem fop_or (op : BinOp) (a b : Option Nat) : fop op .f32 a b = none ∨ ∃ x, fop op .f32 a b = some x ∧ (FloatKind.f32.decode x).isNaN = false := by
  cases h : fop op .f32 a b with
  | none => exact .inl rfl
  | some z =>
    refine .inr ⟨z, rfl, ?_⟩
    rcases wd_read (fop_wd h) with ⟨_, m, i, h2, _⟩ | ⟨_, h2⟩
    · rw [h2]; rfl
    · rw [h2]; rfl
theorem smF_or (n : Nat) (g : Nat → Int) (j : Nat) (y : Int) (w : Nat) : smF n g j y w = none ∨ ∃ x, smF n g j y w = some x ∧ (FloatKind.f32.decode x).isNaN = false := by
  unfold smF
  cases q0 n g j y with
  | true => exact fop_or _ _ _
  | false =>
    cases q1 n g j y with
    | true => exact fop_or _ _ _
    | false => exact fop_or _ _ _
theorem half_LE : LE 1 (some 1056964608) := ⟨2 ^ 1073, NV_val (by decide +kernel), by rw [Nat.one_mul]; exact Nat.pow_le_pow_right (by omega) (by omega)⟩
theorem mend_LE {o : Option Nat} (h : o = none ∨ ∃ x, o = some x ∧ (FloatKind.f32.decode x).isNaN = false) : LE 1 (mend o) := by
  unfold mend
  cases hs : sh o with
  | false => exact half_LE
  | true =>
    show LE 1 o
    unfold sh at hs
    obtain ⟨h1, h2⟩ := cond_t hs
    exact LE_of_cmp h NV_one h1 h2
/-- what is drawn lies below its bound -/
theorem and255 (x : Int) : 0 ≤ bitsOp .and .u64 x 255 ∧ bitsOp .and .u64 x 255 ≤ 255 := by
  rw [bitsOp_eq]
  unfold bitsReal
  simp only
  show 0 ≤ IntKind.u64.wrap ((BitVec.ofInt 64 x &&& BitVec.ofInt 64 255).toNat : Nat) ∧ IntKind.u64.wrap ((BitVec.ofInt 64 x &&& BitVec.ofInt 64 255).toNat : Nat) ≤ 255
  have e : (BitVec.ofInt 64 255).toNat = 255 := by decide
  rw [BitVec.toNat_and, e]
  have h := @Nat.and_le_right (BitVec.ofInt 64 x).toNat 255
  generalize (BitVec.ofInt 64 x).toNat &&& 255 = r at *
  rw [IntWalk.u64_in (r : Int) ⟨by omega, by omega⟩]
  omega
theorem xp_lt {n : Nat} {g : Nat → Int} (hg : ∀ i, i < n → 0 ≤ g i ∧ g i ≤ 255) {m : Nat} (hm : 0 < m) (j : Nat) (y : Int) : ∃ k : Nat, k < m ∧ xp n g (m : Int) j y = Int.ofNat k := by
  have key : ∀ x : Int, 0 ≤ x → ∃ k : Nat, k < m ∧ x.tmod (m : Int) = Int.ofNat k := fun x hx => by
    obtain ⟨y, rfl⟩ : ∃ y : Nat, x = (y : Int) := ⟨x.toNat, by omega⟩
    exact ⟨y % m, Nat.mod_lt _ hm, rfl⟩
  unfold xp
  cases qj n j with
  | true =>
    refine key _ ?_
    unfold bt
    by_cases h : j < n
    · rw [ofNat_lt, decide_eq_true h]
      obtain ⟨h0, h1⟩ := hg j h
      show 0 ≤ IntKind.i64.wrap (g j)
      rw [wrap_i64 (by omega) (by omega)]
      exact h0
    · rw [ofNat_lt, decide_eq_false h]
      exact Int.le_refl 0
  | false =>
    refine key _ ?_
    unfold J1.rt
    obtain ⟨h0, h1⟩ := and255 ((sy n g j y).fdiv (2 ^ min (Int.toNat 40) IntKind.u64.bits))
    rw [wrap_i64 (by omega) (by omega)]
    exact h0
theorem c64 : chk w64 1068 65 = true := by decide +kernel
theorem c16 : chk w16 1070 9 = true := by decide +kernel
theorem c32' : chk w32 1069 33 = true := by decide +kernel
structure Drawn (n : Nat) (g : Nat → Int) (p : Nat → Option Nat) where
  G : Nat
  hG : G ≤ 8
  gain : p 80 = gr w16 (Int.ofNat G)
  k : Nat
  hk : k ≤ 64
  paper : ∀ i, i < 16 → p i = gr w64 (Int.ofNat k)
  share : ∀ i, i < 80 → LE 1 (p i)
theorem prs_drawn {n : Nat} {g : Nat → Int} (hg : ∀ i, i < n → 0 ≤ g i ∧ g i ≤ 255) : Nonempty (Drawn n g (prs n g)) := by
  obtain ⟨G, hG, eG⟩ := xp_lt hg (m := 9) (by omega) (0 + 1) (yk n g 0 0 1)
  obtain ⟨k, hk, ek⟩ := xp_lt hg (m := 25) (by omega) 0 0
  have ep : ∀ i, i < 16 → prs n g i = gr w64 (Int.ofNat (40 + k)) := fun i hi => by
    unfold prs pF
    rw [blt_lt hi]
    show pap n g 0 0 = _
    unfold pap
    rw [show xp n g 25 0 0 = Int.ofNat k from ek, wrap_i64 (by simp only [Int.ofNat_eq_natCast]; omega) (by simp only [Int.ofNat_eq_natCast]; omega)]
    rfl
  refine ⟨⟨G, by omega, ?_, 40 + k, by omega, ep, fun i hi => ?_⟩⟩
  · show gai n g 0 0 = _
    unfold gai
    rw [show xp n g 9 (0 + 1) (yk n g 0 0 1) = Int.ofNat G from eG]
  · by_cases h : i < 16
    · rw [ep i h]
      refine ⟨_, chk_of c64 (k := 40 + k) (by omega), ?_⟩
      have : (2 : Nat) ^ 1074 = 64 * 2 ^ 1068 := by rw [show (1074 : Nat) = 6 + 1068 from rfl, Nat.pow_add]
      rw [Nat.one_mul, this]
      exact Nat.mul_le_mul_right _ (by omega)
    · have e : prs n g i = mend (dF n g 0 0 ((i - 16) / 16) ((i - 16) % 16)) := by
        unfold prs pF
        rw [blt_ge (show 16 ≤ i by omega), blt_lt (show i < 16 + 16 * 4 by omega)]; rfl
      rw [e]
      exact mend_LE (smF_or _ _ _ _ _)
end Go.Proofs.Ytpnjimpiphbcfaa.J5
