/- Functions of Go's library that the model does itself: the bits of a float, roots, whole numbers. -/
import Derived.Test.YtpnjimpiphbcfaaSxLib
import Derived.Laws.Externs
set_option linter.unusedSimpArgs false
set_option linter.unusedVariables false
namespace Go.Sx
open Go.RowKit Ieee

def fbits (o : Option Nat) : Int := match o with | some b => b | none => 0
def isS (o : Option Nat) : Bool := match o with | some _ => true | none => false
def ffromReal (k : FloatKind) (n : Int) : Option Nat := nrm k n.toNat
def fintReal (way : Toward) (a : Option Nat) : Option Nat := a.map fun x => FloatKind.f64.encode ((FloatKind.f64.decode x).integral way)
def fsqrtReal (a : Option Nat) : Option Nat := match a with | some x => FloatKind.f64.format.sqrt x | none => none
theorem ffrom_ex : ∃ g, g = ffromReal := ⟨_, rfl⟩
noncomputable def ffrom : FloatKind → Int → Option Nat := ffrom_ex.choose
theorem ffrom_eq : ffrom = ffromReal := ffrom_ex.choose_spec
theorem fint_ex : ∃ g, g = fintReal := ⟨_, rfl⟩
noncomputable def fint : Toward → Option Nat → Option Nat := fint_ex.choose
theorem fint_eq : fint = fintReal := fint_ex.choose_spec
theorem fsqrt_ex : ∃ g, g = fsqrtReal := ⟨_, rfl⟩
noncomputable def fsqrt : Option Nat → Option Nat := fsqrt_ex.choose
theorem fsqrt_eq : fsqrt = fsqrtReal := fsqrt_ex.choose_spec

def bitsRun (k : FloatKind) (d : IntKind) (args : List AV) : Option Lf :=
  match args with
  | [.flt k' o] => bif fkEq k k' then some (.leaf (.int d (fbits o), none), isS o) else none
  | _ => none
noncomputable def fromRun (k : FloatKind) (d : IntKind) (m : Int) (args : List AV) : Option Lf :=
  match args with
  | [.int d' n] => bif ikEq d d' then some (.leaf (.flt k (ffrom k n), none), decide (0 ≤ n) && decide (n < m)) else none
  | [.lit (.int d' n)] => bif ikEq d d' then some (.leaf (.flt k (ffrom k n), none), decide (0 ≤ n) && decide (n < m)) else none
  | _ => none
noncomputable def intRun (way : Toward) (args : List AV) : Option Lf :=
  match args with
  | [.flt .f64 o] => some (.leaf (.flt .f64 (fint way o), none), true)
  | _ => none
noncomputable def sqrtRun (args : List AV) : Option Lf :=
  match args with
  | [.flt .f64 o] => some (.leaf (.flt .f64 (fsqrt o), none), true)
  | _ => none

/-- a function that the model does itself -/
theorem ext_ok {P : Program} {f : FuncId} {fn : Func} {e : Array Value → Sem Value} (hf : P.funcs[f]? = some fn) (hname : (fn.name == "runtime.NumGoroutine") = false)
    (hb : fn.body.isNone = true) (hn : Extern.findNext fn = none) (he : Extern.find fn = some e) {run : List AV → Option Lf}
    (h : ∀ args t, run args = some (t, true) → t.get.2 = none ∧ ∀ (ρ : List Place) vals, VRels ρ args vals → Gv P (VRel ρ t.get.1) (e vals.toArray)) : SumOk P f (fun args _ => run args) := by
  intro args H t hr F W0 ρ W vals hC hv
  obtain ⟨h1, h2⟩ := h args t hr
  obtain ⟨u, n, hrun, hu⟩ := h2 ρ vals hv W
  rw [run_callFunc_extern hf hname hb hn he, hrun]
  simp only [Result.andThen_ok]
  refine ⟨ρ, Ext.refl ρ, ?_, hu, ?_⟩
  · simp only [hp, h1]; exact hC.drawn n
  · simp only [hp, h1]; exact Keep.refl H

theorem one_rel {ρ : List Place} {x : AV} {vals : List Value} (h : VRels ρ [x] vals) : ∃ v, vals = [v] ∧ VRel ρ x v := by
  simp only [VRels] at h
  obtain ⟨v, t, rfl, h1, rfl⟩ := h
  exact ⟨v, rfl, h1⟩

theorem bits32_ok {P : Program} : ∀ args t, bitsRun .f32 .u32 args = some (t, true) → t.get.2 = none ∧ ∀ (ρ : List Place) vals, VRels ρ args vals → Gv P (VRel ρ t.get.1) (Extern.MathFloatBits.float32bits vals.toArray) := by
  intro args t h
  unfold bitsRun at h
  split at h
  · rename_i k o
    obtain ⟨hk, h⟩ := cond_some h
    simp only [Option.some.injEq, Prod.mk.injEq] at h
    obtain ⟨rfl, ho⟩ := h
    have := fkEq_eq hk; subst this
    refine ⟨rfl, fun ρ vals hv => ?_⟩
    obtain ⟨v, rfl, hv1⟩ := one_rel hv
    simp only [VRel] at hv1
    obtain ⟨b, rfl, hb, _⟩ := hv1
    cases o with
    | none => cases ho
    | some o =>
      obtain ⟨rfl, _⟩ := nrm_some hb
      exact .pure (by simp [Tr.get, VRel, fbits])
  · cases h
theorem bits64_ok {P : Program} : ∀ args t, bitsRun .f64 .u64 args = some (t, true) → t.get.2 = none ∧ ∀ (ρ : List Place) vals, VRels ρ args vals → Gv P (VRel ρ t.get.1) (Extern.MathFloatBits.float64bits vals.toArray) := by
  intro args t h
  unfold bitsRun at h
  split at h
  · rename_i k o
    obtain ⟨hk, h⟩ := cond_some h
    simp only [Option.some.injEq, Prod.mk.injEq] at h
    obtain ⟨rfl, ho⟩ := h
    have := fkEq_eq hk; subst this
    refine ⟨rfl, fun ρ vals hv => ?_⟩
    obtain ⟨v, rfl, hv1⟩ := one_rel hv
    simp only [VRel] at hv1
    obtain ⟨b, rfl, hb, _⟩ := hv1
    cases o with
    | none => cases ho
    | some o =>
      obtain ⟨rfl, _⟩ := nrm_some hb
      exact .pure (by simp [Tr.get, VRel, fbits])
  · cases h

theorem fromRun_lit {k : FloatKind} {d : IntKind} {m : Int} {args : List AV} {t : Tr (AV × Option (List Blk))} (h : fromRun k d m args = some (t, true)) :
    ∃ n x, args = [x] ∧ delit x = .int d n ∧ t = .leaf (.flt k (ffrom k n), none) ∧ 0 ≤ n ∧ n < m := by
  unfold fromRun at h
  split at h
  · obtain ⟨hk, h⟩ := cond_some h
    simp only [Option.some.injEq, Prod.mk.injEq, Bool.and_eq_true, decide_eq_true_eq] at h
    obtain ⟨rfl, h1, h2⟩ := h
    have := ikEq_eq hk; subst this
    exact ⟨_, _, rfl, rfl, rfl, h1, h2⟩
  · obtain ⟨hk, h⟩ := cond_some h
    simp only [Option.some.injEq, Prod.mk.injEq, Bool.and_eq_true, decide_eq_true_eq] at h
    obtain ⟨rfl, h1, h2⟩ := h
    have := ikEq_eq hk; subst this
    exact ⟨_, _, rfl, rfl, rfl, h1, h2⟩
  · cases h

theorem from32_ok {P : Program} : ∀ args t, fromRun .f32 .u32 4294967296 args = some (t, true) → t.get.2 = none ∧ ∀ (ρ : List Place) vals, VRels ρ args vals → Gv P (VRel ρ t.get.1) (Extern.MathFloatBits.float32frombits vals.toArray) := by
  intro args t h
  obtain ⟨n, x, rfl, hx, rfl, h1, h2⟩ := fromRun_lit h
  refine ⟨rfl, fun ρ vals hv => ?_⟩
  obtain ⟨v, rfl, hv1⟩ := one_rel hv
  have hv2 := delit_rel hv1
  rw [hx] at hv2
  simp only [VRel] at hv2
  subst hv2
  refine .pure ?_
  simp only [Tr.get, VRel, ffrom_eq, ffromReal]
  exact ⟨_, rfl, rfl, by simp only [FloatKind.format, Format.width, single]; omega⟩
theorem from64_ok {P : Program} : ∀ args t, fromRun .f64 .u64 18446744073709551616 args = some (t, true) → t.get.2 = none ∧ ∀ (ρ : List Place) vals, VRels ρ args vals → Gv P (VRel ρ t.get.1) (Extern.MathFloatBits.float64frombits vals.toArray) := by
  intro args t h
  obtain ⟨n, x, rfl, hx, rfl, h1, h2⟩ := fromRun_lit h
  refine ⟨rfl, fun ρ vals hv => ?_⟩
  obtain ⟨v, rfl, hv1⟩ := one_rel hv
  have hv2 := delit_rel hv1
  rw [hx] at hv2
  simp only [VRel] at hv2
  subst hv2
  refine .pure ?_
  simp only [Tr.get, VRel, ffrom_eq, ffromReal]
  exact ⟨_, rfl, rfl, by simp only [FloatKind.format, Format.width, double]; omega⟩

theorem sqrt_ok {P : Program} : ∀ args t, sqrtRun args = some (t, true) → t.get.2 = none ∧ ∀ (ρ : List Place) vals, VRels ρ args vals → Gv P (VRel ρ t.get.1) (Extern.MathSqrt.sqrt vals.toArray) := by
  intro args t h
  unfold sqrtRun at h
  split at h
  · rename_i o
    simp only [Option.some.injEq, Prod.mk.injEq, and_true] at h
    subst h
    refine ⟨rfl, fun ρ vals hv => ?_⟩
    obtain ⟨v, rfl, hv1⟩ := one_rel hv
    simp only [VRel] at hv1
    obtain ⟨b, rfl, hb, hl⟩ := hv1
    have e : Extern.MathSqrt.sqrt [Value.float .f64 b].toArray = (match FloatKind.f64.format.sqrt b with
      | some r => Pure.pure (.float .f64 r)
      | none => do Pure.pure (.float .f64 (← choose (.nanBits .f64 b b)))) := rfl
    rw [e]
    simp only [Tr.get, fsqrt_eq]
    cases o with
    | none =>
      obtain ⟨s, t, hd⟩ := isNaN_nan (nrm_none hb)
      have : FloatKind.f64.format.sqrt b = none := by
        have hd : FloatKind.f64.format.read b = .nan s t := hd
        simp [Format.sqrt, hd, Datum.root]
      rw [this]
      exact gv_nan (nanQ_bits .f64 b b)
    | some o =>
      obtain ⟨rfl, hn⟩ := nrm_some hb
      simp only [fsqrtReal]
      cases hs : FloatKind.f64.format.sqrt o with
      | none => exact gv_nan (nanQ_bits .f64 o o)
      | some r =>
        simp only [Format.sqrt, Option.map_eq_some_iff] at hs
        obtain ⟨d, hd, rfl⟩ := hs
        exact gv_flt (k := .f64) (root_nn hd)
  · cases h

theorem sig_nan (s : Bool) (t : Nat) : (FloatKind.f64.decode (FloatKind.f64.encode (.nan s (FloatKind.f64.format.quiet t)))).isNaN = true ∧ FloatKind.f64.encode (.nan s (FloatKind.f64.format.quiet t)) < 2 ^ FloatKind.f64.format.width := by
  have hr : (FloatKind.f64.format.quiet t) % 2 ^ 52 ≠ 0 := by
    intro h0
    have h1 : ((FloatKind.f64.format.quiet t) % 2 ^ 52).testBit 51 = true := by
      rw [Nat.testBit_mod_two_pow]
      simp [Format.quiet, FloatKind.format, double, Nat.testBit_or]
      right; decide
    rw [h0] at h1
    simp at h1
  have hlt : (FloatKind.f64.format.quiet t) % 2 ^ 52 < 2 ^ 52 := Nat.mod_lt _ (by decide)
  have e : FloatKind.f64.encode (.nan s (FloatKind.f64.format.quiet t)) = (bif s then 2 ^ 63 else 0) + (9218868437227405312 + (FloatKind.f64.format.quiet t) % 2 ^ 52) := by
    simp only [FloatKind.encode, Format.write, Format.word]
    cases s <;> simp [FloatKind.format, double, Format.infRung, Format.binade, Format.signWeight]
  rw [e]
  generalize (FloatKind.f64.format.quiet t) % 2 ^ 52 = r at hr hlt
  have e1 : FloatKind.f64.format.signWeight = 9223372036854775808 := by decide
  have e2 : FloatKind.f64.format.binade = 4503599627370496 := by decide
  have e3 : FloatKind.f64.format.infRung = 9218868437227405312 := by decide
  have e4 : 2 ^ FloatKind.f64.format.width = 18446744073709551616 := by decide
  constructor
  · simp only [FloatKind.decode, Format.read, e1, e2, e3]
    have hm : ((bif s then 2 ^ 63 else 0) + (9218868437227405312 + r)) % 9223372036854775808 = 9218868437227405312 + r := by cases s <;> simp <;> omega
    rw [hm, if_neg (by omega), if_neg (by omega), if_neg (by omega)]
    rfl
  · rw [e4]; cases s <;> simp <;> omega

theorem integral_nn {way : Toward} {d : Datum} (h : d.isNaN = false) : (d.integral way).isNaN = false := by
  cases d <;> simp_all [Datum.integral, Datum.isNaN]

theorem int_ok {P : Program} (name : String) (way : Toward) : ∀ args t, intRun way args = some (t, true) → t.get.2 = none ∧ ∀ (ρ : List Place) vals, VRels ρ args vals → Gv P (VRel ρ t.get.1) (Extern.MathFloor.toIntegral name way vals.toArray) := by
  intro args t h
  unfold intRun at h
  split at h
  · rename_i o
    simp only [Option.some.injEq, Prod.mk.injEq, and_true] at h
    subst h
    refine ⟨rfl, fun ρ vals hv => ?_⟩
    obtain ⟨v, rfl, hv1⟩ := one_rel hv
    simp only [VRel] at hv1
    obtain ⟨b, rfl, hb, hl⟩ := hv1
    have e : Extern.MathFloor.toIntegral name way [Value.float .f64 b].toArray = (match FloatKind.f64.decode b with
      | .nan s t =>
        if FloatKind.f64.format.quiet t = t then Pure.pure (.float .f64 b) else do
        let kept ← choose (.extern "math.Floor,Ceil,Trunc,RoundToEven.signallingNaN kept" 2)
        Pure.pure (.float .f64 (if kept == 1 then b else FloatKind.f64.encode (.nan s (FloatKind.f64.format.quiet t))))
      | d => Pure.pure (.float .f64 (FloatKind.f64.encode (d.integral way)))) := rfl
    rw [e]
    simp only [Tr.get, fint_eq]
    cases o with
    | none =>
      have hnn := nrm_none hb
      obtain ⟨s, t, hd⟩ := isNaN_nan hnn
      rw [hd]
      dsimp only
      split
      · exact .pure (by simp only [VRel, fintReal]; exact ⟨b, rfl, hb, hl⟩)
      · intro W
        refine ⟨_, W.drawn + 1, rfl, ?_⟩
        simp only [VRel, fintReal, Option.map_none]
        refine ⟨_, rfl, ?_⟩
        split
        · exact ⟨hb, hl⟩
        · exact ⟨nrm_of_nan (sig_nan s t).1, (sig_nan s t).2⟩
    | some o =>
      obtain ⟨rfl, hn⟩ := nrm_some hb
      simp only [fintReal, Option.map_some]
      have key := gv_flt (P := P) (ρ := ρ) (k := .f64) (integral_nn (way := way) hn)
      cases hd : FloatKind.f64.decode o with
      | nan s t => rw [hd] at hn; cases hn
      | infinity s => rw [hd] at key; exact key
      | number s m e => rw [hd] at key; exact key
  · cases h

end Go.Sx
