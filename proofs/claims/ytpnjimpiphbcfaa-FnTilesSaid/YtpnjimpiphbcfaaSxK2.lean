/- Summaries of tests of numbers, as this program has them. -/
import Derived.Test.YtpnjimpiphbcfaaSxK1
import Derived.Test.YtpnjimpiphbcfaaSxFc
set_option linter.unusedVariables false
set_option linter.unusedSimpArgs false
set_option maxRecDepth 100000
namespace Go.Proofs.Ytpnjimpiphbcfaa
open Go.Sx Go.RowKit Go.Sx.Fl

theorem flt_or {o : Option Nat} {k : FloatKind} {vals : List Value} (h : VRels ([] : List Sx.Place) [.flt k o] vals) : o = none ∨ ∃ x, o = some x ∧ x < 2 ^ k.format.width ∧ (k.decode x).isNaN = false := by
  simp only [VRels, VRel] at h
  obtain ⟨v, u, rfl, ⟨b, rfl, hb, hlt⟩, _⟩ := h
  unfold nrm at hb
  cases h : (k.decode b).isNaN with
  | true => rw [h] at hb; exact .inl hb.symm
  | false => rw [h] at hb; exact .inr ⟨b, hb.symm, hlt, h⟩
/-- is a number not finite -/
noncomputable def runFin : List AV → List Blk → Option Lf := fun args _ => match args with
  | [.flt .f32 o] => some (.leaf (.bool (!finS o), none), true)
  | _ => none
theorem runFin_pure : ∀ args (H : List Blk) t, runFin args H = some (t, true) → allPure1 args = true := fun args H t h => by
  unfold runFin at h
  split at h
  · rfl
  · cases h
theorem wide_lt {x y : Nat} (h : fwide (some x) = some y) : y < 2 ^ 64 := by
  rw [fwide_eq] at h
  have : FloatKind.f64.encode (FloatKind.f32.decode x) = y := Option.some.inj h
  rw [← this]
  exact Ieee.Format.write_lt Ieee.double _
theorem imp_f (x : Bool) : andB (impB (bif true then false else true) x) true = true := by cases x <;> rfl
noncomputable def obFin (c0 : Option Nat) : Bool := andB (impB (bif fcmp BinOp.neq FloatKind.f64 (fwide c0) (fwide c0) then false else true) (andB (andB (andB (isS (fwide c0)) (andB true (andB (decide (0 ≤ bitsOp BinOp.andNot IntKind.u64 (fbits (fwide c0)) 9223372036854775808) && decide (bitsOp BinOp.andNot IntKind.u64 (fbits (fwide c0)) 9223372036854775808 < 18446744073709551616)) (andB true (andB true true))))) true) true)) true
theorem obFin_true (o : Option Nat) : obFin o = true := by
  unfold obFin
  cases o with
  | none =>
    have : fcmp .neq .f64 (fwide none) (fwide none) = true := by rw [fcmp_eq, fwide_eq]; rfl
    rw [this]; exact imp_f _
  | some x =>
    obtain ⟨y, hy⟩ : ∃ y, fwide (some x) = some y := by rw [fwide_eq]; exact ⟨_, rfl⟩
    rw [hy, show fbits (some y) = (y : Int) from rfl, andNot63 (wide_lt hy)]
    have h : y % 2 ^ 63 < 2 ^ 63 := Nat.mod_lt _ (by decide)
    rw [decide_eq_true (show (0 : Int) ≤ ((y % 2 ^ 63 : Nat) : Int) by omega), decide_eq_true (show ((y % 2 ^ 63 : Nat) : Int) < 18446744073709551616 by omega)]
    cases fcmp .neq .f64 (some y) (some y) <;> rfl

theorem finI_ok : SumOk Try.prog 112 runFin := sum_pureV sxApart sxMixed extK_ok (N := 20) (d := 8) runFin_pure fun args H t hr hvs => by unfold runFin at hr; split at hr; (rename_i o; obtain ⟨vals, hv⟩ := hvs; simp only [Option.some.injEq, Prod.mk.injEq, and_true] at hr; subst hr; refine ⟨rfl, rfl, rfl, noL, fun _ _ _ _ => noL_ok, .leaf (.bool (bif fcmp BinOp.neq FloatKind.f64 (fwide o) (fwide o) then true else fcmp BinOp.gtr FloatKind.f64 (ffrom FloatKind.f64 (bitsOp BinOp.andNot IntKind.u64 (fbits (fwide o)) 9223372036854775808)) (some 9218868437227405311)), none), ?_, ?_⟩; (have h : evF Try.prog extK noL 20 8 112 [.flt .f32 o] [] = some (.leaf (.bool (bif fcmp BinOp.neq FloatKind.f64 (fwide o) (fwide o) then true else fcmp BinOp.gtr FloatKind.f64 (ffrom FloatKind.f64 (bitsOp BinOp.andNot IntKind.u64 (fbits (fwide o)) 9223372036854775808)) (some 9218868437227405311)), none), obFin o) := by kernel_rfl); (rw [obFin_true] at h; exact h); (have e := finA_eq o (by rcases flt_or hv with h | ⟨x, h1, h2, h3⟩; exact .inl h; exact .inr ⟨x, h1, h3⟩); unfold finA at e; simp only [Tr.get, delitD, delit, ← e, Bool.not_not])); cases hr

noncomputable def finK : CallerT := addK 112 runFin extK
theorem finK_ok : CallerTOk Try.prog finK := addK_ok finI_ok extK_ok
end Go.Proofs.Ytpnjimpiphbcfaa
