/- Texts of one claim, put together. -/
import Derived.Test.YtpnjimpiphbcfaaG1
import Derived.Test.YtpnjimpiphbcfaaSxV5
set_option linter.unusedVariables false
set_option linter.unusedSimpArgs false
set_option exponentiation.threshold 3000
set_option maxRecDepth 100000
namespace Go.Proofs.Ytpnjimpiphbcfaa.J6
open Go Go.Sx Go.Sx.R0 Go.Sx.C5 Go.Sx.C1 Go.Sx.Fl Go.Sx.Ink Ieee Go.Proofs.Ytpnjimpiphbcfaa.J1 Go.Proofs.Ytpnjimpiphbcfaa.J4 Go.Proofs.Ytpnjimpiphbcfaa.J5

abbrev one : Option Nat := some 1065353216
def lf2 (c : Int) : Tr (AV × Option (List Blk)) := .leaf (.tup [.flt .f32 (some 0), .lit (.int .i64 c)], none)
noncomputable def TG (g a v : Option Nat) : Tr (AV × Option (List Blk)) := .node (cond (!sh g) true (!sh a)) (lf2 2) (.leaf (.tup [.flt .f32 v, .lit (.int .i64 0)], none))
-- bisection
noncomputable def mid (l h : Option Nat) : Option Nat := mu (some 1056964608) (fop .add .f32 l h)
noncomputable def cbf (g a : Option Nat) : Nat → Option Nat → Option Nat → Option Nat
  | 0, _, h => h
  | n + 1, l, h => cbf g a n (cond (fcmp .lss .f32 (grow g (mid l h)) a) (mid l h) l) (cond (fcmp .lss .f32 (grow g (mid l h)) a) h (mid l h))
theorem eGI (g a : Option Nat) : evF Try.prog extK noL 20 8 25 [.flt .f32 g, .flt .f32 a] [] = some (TG g a (grow g a), true) := by kernel_rfl
theorem eGS (g a : Option Nat) : evF Try.prog extK noL 20 8 26 [.flt .f32 g, .flt .f32 a] [] = some (TG g a (grow g a), true) := by kernel_rfl
theorem eCB (g a : Option Nat) : evF Try.prog extK noL 21 8 27 [.flt .f32 g, .flt .f32 a] [] = some (TG g a (cbf g a 20 (some 0) one), true) := by kernel_rfl
noncomputable def run2 (V : Option Nat → Option Nat → Option Nat) : List AV → List Blk → Option Lf := fun args H => match args.map delit, H with
  | [.flt .f32 g, .flt .f32 a], [] => some (.leaf (.tup [.flt .f32 (V g a), .int .i64 0], none), andB (sh g) (sh a))
  | _, _ => none
theorem sum2 {F : FuncId} {V : Option Nat → Option Nat → Option Nat} {N : Nat} (e : ∀ g a, evF Try.prog extK noL N 8 F [.flt .f32 g, .flt .f32 a] [] = some (TG g a (V g a), true)) : SumOk Try.prog F (selRun (run2 V)) := sum_selG sxApart sxMixed fun args H t hr _ => by
  unfold run2 at hr
  split at hr
  case h_2 => cases hr
  rename_i g a hargs
  simp only [Option.some.injEq, Prod.mk.injEq] at hr
  obtain ⟨rfl, hr⟩ := hr
  obtain ⟨h1, h2⟩ := andB_true hr
  refine ⟨extK, noL, N, 8, _, _, extK_ok, noL_all, fun ρ vals hv => by have := delits_rel hv; rw [hargs] at this; exact this, e g a, ?_⟩
  unfold TG
  rw [h1, h2]
  exact LLe.of rfl rfl rfl
noncomputable def cb (g a : Option Nat) : Option Nat := cbf g a 20 (some 0) one
theorem gnI : SumOk Try.prog 25 (selRun (run2 grow)) := sum2 eGI
theorem gnS : SumOk Try.prog 26 (selRun (run2 grow)) := sum2 eGS
theorem cbI : SumOk Try.prog 27 (selRun (run2 cb)) := sum2 eCB
-- near
noncomputable def ab (x : Option Nat) : Option Nat := ffrom .f32 (bitsOp .and .u32 (fbits x) 2147483647)
noncomputable def obN (x : Option Nat) : Bool := andB (isS x) (andB (decide (0 ≤ bitsOp .and .u32 (fbits x) 2147483647) && decide (bitsOp .and .u32 (fbits x) 2147483647 < 4294967296)) true)
noncomputable def nr (a b d : Option Nat) : Bool := fcmp .leq .f32 (ab (fop .sub .f32 a b)) d
theorem eN (a b d : Option Nat) : evF Try.prog extK noL 20 8 24 [.flt .f32 a, .flt .f32 b, .flt .f32 d] [] = some (.leaf (.bool (nr a b d), none), andB (andB (obN (fop .sub .f32 a b)) true) true) := by kernel_rfl
noncomputable def runN : List AV → List Blk → Option Lf := fun args H => match args.map delit, H with
  | [.flt .f32 a, .flt .f32 b, .flt .f32 d], [] => some (.leaf (.bool (nr a b d), none), obN (fop .sub .f32 a b))
  | _, _ => none
theorem nearOk : SumOk Try.prog 24 (selRun runN) := sum_selG sxApart sxMixed fun args H t hr _ => by
  unfold runN at hr
  split at hr
  case h_2 => cases hr
  rename_i a b d hargs
  simp only [Option.some.injEq, Prod.mk.injEq] at hr
  obtain ⟨rfl, hr⟩ := hr
  have h := eN a b d
  rw [hr] at h
  exact ⟨extK, noL, 20, 8, _, _, extK_ok, noL_all, fun ρ vals hv => by rw [← hargs]; exact delits_rel hv, h, LLe.refl _⟩
-- the numbers of the grid, told by what can be computed
def cmpR : BinOp → Option Nat → Option Nat → Bool := fun o a b => fcmpReal o .f32 a b
def opR : BinOp → Option Nat → Option Nat → Option Nat := fun o a b => fopReal o .f32 a b
def gainR (g a : Option Nat) : Option Nat := opR .add a (opR .mul (some 1082130432) (opR .mul (opR .mul g a) (opR .sub one a)))
def growR (g a : Option Nat) : Option Nat := let b := gainR g a; bif cmpR .gtr b one then one else b
def cbR (g a : Option Nat) : Nat → Option Nat → Option Nat → Option Nat
  | 0, _, h => h
  | n + 1, l, h => let m := opR .mul (some 1056964608) (opR .add l h); bif cmpR .lss (growR g m) a then cbR g a n m h else cbR g a n l m
theorem grow_R (g a : Option Nat) : grow g a = growR g a := by
  unfold grow growR gain gainR mu opR cmpR
  simp only [fop_eq, fcmp_eq]
theorem cbf_R (g a : Option Nat) : ∀ (n : Nat) (l h : Option Nat), cbf g a n l h = cbR g a n l h
  | 0, _, _ => rfl
  | n + 1, l, h => by
    have e : mid l h = opR .mul (some 1056964608) (opR .add l h) := by unfold mid mu opR; rw [fop_eq]
    have ec : fcmp .lss .f32 (grow g (mid l h)) a = cmpR .lss (growR g (mid l h)) a := by rw [grow_R, fcmp_eq]; rfl
    unfold cbf cbR
    rw [ec, e]
    simp only
    cases cmpR .lss (growR g (opR .mul (some 1056964608) (opR .add l h))) a
    · exact cbf_R g a n _ _
    · exact cbf_R g a n _ _
def abR (x : Option Nat) : Option Nat := ffromReal .f32 (bitsReal .and .u32 (fbits x) 2147483647)
def nrR (a b d : Option Nat) : Bool := cmpR .leq (abR (opR .sub a b)) d
def obR (x : Option Nat) : Bool := andB (isS x) (andB (decide (0 ≤ bitsReal .and .u32 (fbits x) 2147483647) && decide (bitsReal .and .u32 (fbits x) 2147483647 < 4294967296)) true)
theorem nr_R (a b d : Option Nat) : nr a b d = nrR a b d := by unfold nr nrR ab abR cmpR opR; rw [fcmp_eq, ffrom_eq, bitsOp_eq, fop_eq]
theorem obN_R (a b : Option Nat) : obN (fop .sub .f32 a b) = obR (opR .sub a b) := by unfold obN obR opR; rw [bitsOp_eq, fop_eq]
def shR (o : Option Nat) : Bool := cmpR .geq o (some 0) && cmpR .leq o one
theorem sh_R (o : Option Nat) : sh o = shR o := by unfold sh shR cmpR; rw [fcmp_eq]; cases fcmpReal .geq .f32 o (some 0) <;> rfl
/-- all that the law says of a gain and a share -/
def okG (g a : Option Nat) : Bool :=
  let G := growR g a
  let B := cbR g a 20 (some 0) one
  let K := growR g B
  shR g && shR a && !cmpR .neq G G && !cmpR .lss G a && !cmpR .gtr G one && !cmpR .neq (growR g (some 0)) (some 0) && !cmpR .neq (growR g one) one && shR B && obR (opR .sub K a) && (nrR K a (some 953267991) || !cmpR .gtr a (some 0)) && !cmpR .lss B (some 0) && !cmpR .gtr B one
def chkG (j : Nat) : Bool := (List.range 33).all fun k => okG (grR w32 (Int.ofNat j)) (grR w32 (Int.ofNat k))
theorem cg0 : chkG 0 = true := by decide +kernel
theorem cg1 : chkG 1 = true := by decide +kernel
theorem cg2 : chkG 2 = true := by decide +kernel
theorem cg3 : chkG 3 = true := by decide +kernel
theorem cg4 : chkG 4 = true := by decide +kernel
theorem cg5 : chkG 5 = true := by decide +kernel
theorem cg6 : chkG 6 = true := by decide +kernel
theorem cg7 : chkG 7 = true := by decide +kernel
theorem cg8 : chkG 8 = true := by decide +kernel

end Go.Proofs.Ytpnjimpiphbcfaa.J6
