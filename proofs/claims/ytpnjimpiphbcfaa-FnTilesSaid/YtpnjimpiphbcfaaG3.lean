/- Texts of one claim, put together. -/
import Derived.Test.YtpnjimpiphbcfaaG1
import Derived.Test.YtpnjimpiphbcfaaG2
set_option linter.unusedVariables false
set_option linter.unusedSimpArgs false
set_option exponentiation.threshold 3000
set_option maxRecDepth 100000
namespace Go.Proofs.Ytpnjimpiphbcfaa.J6
open Go Go.Sx Go.Sx.R0 Go.Sx.C5 Go.Sx.C1 Go.Sx.Fl Go.Sx.Ink Ieee Go.Proofs.Ytpnjimpiphbcfaa.J1 Go.Proofs.Ytpnjimpiphbcfaa.J4 Go.Proofs.Ytpnjimpiphbcfaa.J5

abbrev one : Option Nat := some 1065353216
def lf2 (c : Int) : Tr (AV × Option (List Blk)) := .leaf (.tup [.flt .f32 (some 0), .lit (.int .i64 c)], none)
noncomputable def TG (g a v : Option Nat) : Tr (AV × Option (List Blk)) := .node (cond (!sh g) true (!sh a)) (lf2 2) (.leaf (.tup [.flt .f32 v, .lit (.int .i64 0)], none))
-- bisection
noncomputable def mid (l h : Option Nat) : Option Nat := mu (some 1056964608) (fop .add .f32 l h)
noncomputable def cbf (g a : Option Nat) : Nat → Option Nat → Option Nat → Option Nat
  | 0, _, h => h
  | n + 1, l, h => cbf g a n (cond (fcmp .lss .f32 (grow g (mid l h)) a) (mid l h) l) (cond (fcmp .lss .f32 (grow g (mid l h)) a) h (mid l h))
theorem eGI (g a : Option Nat) : evF Try.prog extK noL 20 8 25 [.flt .f32 g, .flt .f32 a] [] = some (TG g a (grow g a), true) := by kernel_rfl
theorem eGS (g a : Option Nat) : evF Try.prog extK noL 20 8 26 [.flt .f32 g, .flt .f32 a] [] = some (TG g a (grow g a), true) := by kernel_rfl
theorem eCB (g a : Option Nat) : evF Try.prog extK noL 21 8 27 [.flt .f32 g, .flt .f32 a] [] = some (TG g a (cbf g a 20 (some 0) one), true) := by kernel_rfl
noncomputable def run2 (V : Option Nat → Option Nat → Option Nat) : List AV → List Blk → Option Lf := fun args H => match args.map delit, H with
  | [.flt .f32 g, .flt .f32 a], [] => some (.leaf (.tup [.flt .f32 (V g a), .int .i64 0], none), andB (sh g) (sh a))
  | _, _ => none
theorem sum2 {F : FuncId} {V : Option Nat → Option Nat → Option Nat} {N : Nat} (e : ∀ g a, evF Try.prog extK noL N 8 F [.flt .f32 g, .flt .f32 a] [] = some (TG g a (V g a), true)) : SumOk Try.prog F (selRun (run2 V)) := sum_selG sxApart sxMixed fun args H t hr _ => by
  unfold run2 at hr
  split at hr
  case h_2 => cases hr
  rename_i g a hargs
  simp only [Option.some.injEq, Prod.mk.injEq] at hr
  obtain ⟨rfl, hr⟩ := hr
  obtain ⟨h1, h2⟩ := andB_true hr
  refine ⟨extK, noL, N, 8, _, _, extK_ok, noL_all, fun ρ vals hv => by have := delits_rel hv; rw [hargs] at this; exact this, e g a, ?_⟩
  unfold TG
  rw [h1, h2]
  exact LLe.of rfl rfl rfl
noncomputable def cb (g a : Option Nat) : Option Nat := cbf g a 20 (some 0) one
theorem gnI : SumOk Try.prog 25 (selRun (run2 grow)) := sum2 eGI
theorem gnS : SumOk Try.prog 26 (selRun (run2 grow)) := sum2 eGS
theorem cbI : SumOk Try.prog 27 (selRun (run2 cb)) := sum2 eCB
-- near
noncomputable def ab (x : Option Nat) : Option Nat := ffrom .f32 (bitsOp .and .u32 (fbits x) 2147483647)
noncomputable def obN (x : Option Nat) : Bool := andB (isS x) (andB (decide (0 ≤ bitsOp .and .u32 (fbits x) 2147483647) && decide (bitsOp .and .u32 (fbits x) 2147483647 < 4294967296)) true)
noncomputable def nr (a b d : Option Nat) : Bool := fcmp .leq .f32 (ab (fop .sub .f32 a b)) d
theorem eN (a b d : Option Nat) : evF Try.prog extK noL 20 8 24 [.flt .f32 a, .flt .f32 b, .flt .f32 d] [] = some (.leaf (.bool (nr a b d), none), andB (andB (obN (fop .sub .f32 a b)) true) true) := by kernel_rfl
noncomputable def runN : List AV → List Blk → Option Lf := fun args H => match args.map delit, H with
  | [.flt .f32 a, .flt .f32 b, .flt .f32 d], [] => some (.leaf (.bool (nr a b d), none), obN (fop .sub .f32 a b))
  | _, _ => none
theorem nearOk : SumOk Try.prog 24 (selRun runN) := sum_selG sxApart sxMixed fun args H t hr _ => by
  unfold runN at hr
  split at hr
  case h_2 => cases hr
  rename_i a b d hargs
  simp only [Option.some.injEq, Prod.mk.injEq] at hr
  obtain ⟨rfl, hr⟩ := hr
  have h := eN a b d
  rw [hr] at h
  exact ⟨extK, noL, 20, 8, _, _, extK_ok, noL_all, fun ρ vals hv => by rw [← hargs]; exact delits_rel hv, h, LLe.refl _⟩
-- the numbers of the grid, told by what can be computed
def cmpR : BinOp → Option Nat → Option Nat → Bool := fun o a b => fcmpReal o .f32 a b
def opR : BinOp → Option Nat → Option Nat → Option Nat := fun o a b => fopReal o .f32 a b
def gainR (g a : Option Nat) : Option Nat := opR .add a (opR .mul (some 1082130432) (opR .mul (opR .mul g a) (opR .sub one a)))
def growR (g a : Option Nat) : Option Nat := let b := gainR g a; bif cmpR .gtr b one then one else b
def cbR (g a : Option Nat) : Nat → Option Nat → Option Nat → Option Nat
  | 0, _, h => h
  | n + 1, l, h => let m := opR .mul (some 1056964608) (opR .add l h); bif cmpR .lss (growR g m) a then cbR g a n m h else cbR g a n l m
theorem grow_R (g a : Option Nat) : grow g a = growR g a := by
  unfold grow growR gain gainR mu opR cmpR
  simp only [fop_eq, fcmp_eq]
theorem cbf_R (g a : Option Nat) : ∀ (n : Nat) (l h : Option Nat), cbf g a n l h = cbR g a n l h
  | 0, _, _ => rfl
  | n + 1, l, h => by
    have e : mid l h = opR .mul (some 1056964608) (opR .add l h) := by unfold mid mu opR; rw [fop_eq]
    have ec : fcmp .lss .f32 (grow g (mid l h)) a = cmpR .lss (growR g (mid l h)) a := by rw [grow_R, fcmp_eq]; rfl
    unfold cbf cbR
    rw [ec, e]
    simp only
    cases cmpR .lss (growR g (opR .mul (some 1056964608) (opR .add l h))) a
    · exact cbf_R g a n _ _
    · exact cbf_R g a n _ _
def abR (x : Option Nat) : Option Nat := ffromReal .f32 (bitsReal .and .u32 (fbits x) 2147483647)
def nrR (a b d : Option Nat) : Bool := cmpR .leq (abR (opR .sub a b)) d
def obR (x : Option Nat) : Bool := andB (isS x) (andB (decide (0 ≤ bitsReal .and .u32 (fbits x) 2147483647) && decide (bitsReal .and .u32 (fbits x) 2147483647 < 4294967296)) true)
theorem nr_R (a b d : Option Nat) : nr a b d = nrR a b d := by unfold nr nrR ab abR cmpR opR; rw [fcmp_eq, ffrom_eq, bitsOp_eq, fop_eq]
theorem obN_R (a b : Option Nat) : obN (fop .sub .f32 a b) = obR (opR .sub a b) := by unfold obN obR opR; rw [bitsOp_eq, fop_eq]
def shR (o : Option Nat) : Bool := cmpR .geq o (some 0) && cmpR .leq o one
theorem sh_R (o : Option Nat) : sh o = shR o := by unfold sh shR cmpR; rw [fcmp_eq]; cases fcmpReal .geq .f32 o (some 0) <;> rfl
/-- all that the law says of a gain and a share -/
def okG (g a : Option Nat) : Bool :=
  let G := growR g a
  let B := cbR g a 20 (some 0) one
  let K := growR g B
  shR g && shR a && !cmpR .neq G G && !cmpR .lss G a && !cmpR .gtr G one && !cmpR .neq (growR g (some 0)) (some 0) && !cmpR .neq (growR g one) one && shR B && obR (opR .sub K a) && (nrR K a (some 953267991) || !cmpR .gtr a (some 0)) && !cmpR .lss B (some 0) && !cmpR .gtr B one
def chkG (j : Nat) : Bool := (List.range 33).all fun k => okG (grR w32 (Int.ofNat j)) (grR w32 (Int.ofNat k))
theorem cg0 : chkG 0 = true := by decide +kernel
theorem cg1 : chkG 1 = true := by decide +kernel
theorem cg2 : chkG 2 = true := by decide +kernel
theorem cg3 : chkG 3 = true := by decide +kernel
theorem cg4 : chkG 4 = true := by decide +kernel
theorem cg5 : chkG 5 = true := by decide +kernel
theorem cg6 : chkG 6 = true := by decide +kernel
theorem cg7 : chkG 7 = true := by decide +kernel
theorem cg8 : chkG 8 = true := by decide +kernel

end Go.Proofs.Ytpnjimpiphbcfaa.J6
set_option linter.unusedVariables false
set_option linter.unusedSimpArgs false
set_option exponentiation.threshold 3000
set_option maxRecDepth 100000
namespace Go.Proofs.Ytpnjimpiphbcfaa.J7
open Go Go.Sx Go.Sx.R0 Go.Sx.C5 Go.Sx.C1 Go.Sx.Fl Go.Sx.Ink Ieee Go.Proofs.Ytpnjimpiphbcfaa.J1 Go.Proofs.Ytpnjimpiphbcfaa.J4 Go.Proofs.Ytpnjimpiphbcfaa.J5 Go.Proofs.Ytpnjimpiphbcfaa.J6 Go.Proofs.Ytpnjimpiphbcfaa.V5 Go.Proofs.Ytpnjimpiphbcfaa.T5

-- what is picked
theorem eP9 (n : Nat) (g : Nat → Int) : evF Try.prog extK noL 20 8 7 [.slc 0 0 n, .lit (.int .i64 9)] [.rows false n 1 (ur g)] = some (.leaf (.int .i64 (xp n g 9 0 0), none), andB (andB (andB (andB (oj n 0) true) true) true) true) := by kernel_rfl
theorem eP33 (n : Nat) (g : Nat → Int) : evF Try.prog extK noL 20 8 7 [.slc 0 0 n, .lit (.int .i64 33)] [.rows false n 1 (ur g)] = some (.leaf (.int .i64 (xp n g 33 0 0), none), andB (andB (andB (andB (oj n 0) true) true) true) true) := by kernel_rfl
theorem eP4 (n : Nat) (g : Nat → Int) : evF Try.prog extK noL 20 8 7 [.slc 0 0 n, .lit (.int .i64 4)] [.rows false n 1 (ur g)] = some (.leaf (.int .i64 (xp n g 4 0 0), none), andB (andB (andB (andB (oj n 0) true) true) true) true) := by kernel_rfl
noncomputable def runPk (n : Nat) (g : Nat → Int) (m : Int) (v : AV) : List AV → List Blk → Option Lf := selRun (runAtH [.slc 0 0 n, .lit (.int .i64 m)] [.rows false n 1 (ur g)] (.leaf (v, none)) true)
noncomputable def okPk (n : Nat) (g : Nat → Int) (m : Int) : Bool := andB (deq [.slc 0 0 n, .lit (.int .i64 m)] [.slc 0 0 n, .lit (.int .i64 m)]) (andB (deqH [.rows false n 1 (ur g)] [.rows false n 1 (ur g)]) true)
theorem okPk_true (n : Nat) (g : Nat → Int) (m : Int) : okPk n g m = true := by unfold okPk; rw [deq_self, deqH_self]; rfl
theorem pk9 (n : Nat) (g : Nat → Int) {v : AV} (h : delitD v = .int .i64 (xp n g 9 0 0)) : SumOk Try.prog 7 (runPk n g 9 v) := sum_atH sxApart sxMixed extK_ok noL (N := 20) (d := 8) fun _ => by
  have e := eP9 n g
  rw [oj_true] at e
  exact ⟨noL_all, _, e, LLe.of h.symm rfl rfl⟩
theorem pk33 (n : Nat) (g : Nat → Int) {v : AV} (h : delitD v = .int .i64 (xp n g 33 0 0)) : SumOk Try.prog 7 (runPk n g 33 v) := sum_atH sxApart sxMixed extK_ok noL (N := 20) (d := 8) fun _ => by
  have e := eP33 n g
  rw [oj_true] at e
  exact ⟨noL_all, _, e, LLe.of h.symm rfl rfl⟩
theorem pk4 (n : Nat) (g : Nat → Int) {v : AV} (h : delitD v = .int .i64 (xp n g 4 0 0)) : SumOk Try.prog 7 (runPk n g 4 v) := sum_atH sxApart sxMixed extK_ok noL (N := 20) (d := 8) fun _ => by
  have e := eP4 n g
  rw [oj_true] at e
  exact ⟨noL_all, _, e, LLe.of h.symm rfl rfl⟩
def selP : List AV → Option Int
  | [_, .lit (.int .i64 m)] => some m
  | _ => none
noncomputable def runP3 (n m : Nat) (g h : Nat → Int) (G a : Int) (i : Nat) : List AV → List Blk → Option Lf := famK selP fun b => bif b == 9 then runPk n g 9 (.int .i64 G) else bif b == 33 then runPk m h 33 (.int .i64 a) else runPk m h 4 (.lit (.int .i64 (Int.ofNat i)))
theorem pickOk (n m : Nat) (g h : Nat → Int) {G a : Int} {i : Nat} (h1 : xp n g 9 0 0 = G) (h2 : xp m h 33 0 0 = a) (h3 : xp m h 4 0 0 = Int.ofNat i) : SumOk Try.prog 7 (runP3 n m g h G a i) := famK_ok fun b => by
  have k1 : SumOk Try.prog 7 (runPk n g 9 (.int .i64 G)) := pk9 n g (by rw [h1]; rfl)
  have k2 : SumOk Try.prog 7 (runPk m h 33 (.int .i64 a)) := pk33 m h (by rw [h2]; rfl)
  have k3 : SumOk Try.prog 7 (runPk m h 4 (.lit (.int .i64 (Int.ofNat i)))) := pk4 m h (by rw [h3]; rfl)
  cases (b == 9) with
  | true => exact k1
  | false =>
    cases (b == 33) with
    | true => exact k2
    | false => exact k3
-- the press that is drawn
noncomputable def runPs (n : Nat) (g : Nat → Int) : List AV → List Blk → Option Lf := selRun (runAtH [.slc 0 0 n] [.rows false n 1 (ur g)] (.leaf (.agg (pcs (prs n g)), none)) true)
noncomputable def okPs (n : Nat) (g : Nat → Int) : Bool := andB (deq [.slc 0 0 n] [.slc 0 0 n]) (andB (deqH [.rows false n 1 (ur g)] [.rows false n 1 (ur g)]) true)
theorem okPs_true (n : Nat) (g : Nat → Int) : okPs n g = true := by unfold okPs; rw [deq_self, deqH_self]; rfl
theorem pressOk (n : Nat) (g : Nat → Int) : SumOk Try.prog 16 (runPs n g) := sum_atH sxApart sxMixed (addK_ok (drawnOk n g) extK_ok) noL (N := 20) (d := 8) fun _ => by
  have e := ePr n g
  rw [okS_self (by omega)] at e
  exact ⟨noL_all, _, e, LLe.refl _⟩
theorem prs_Sh {n : Nat} {g : Nat → Int} (hg : ∀ i, i < n → 0 ≤ g i ∧ g i ≤ 255) : Sh (prs n g) := by
  obtain ⟨d⟩ := prs_drawn hg
  refine ⟨d.share, ?_⟩
  rw [d.gain]
  refine ⟨_, chk_of c16 (k := d.G) (by have := d.hG; omega), ?_⟩
  have : (2 : Nat) ^ 1074 = 16 * 2 ^ 1070 := by rw [show (1074 : Nat) = 4 + 1070 from rfl, Nat.pow_add]
  rw [Nat.one_mul, this]
  exact Nat.mul_le_mul_right _ (by have := d.hG; omega)
noncomputable def cvI (i : Nat) (a : Option Nat) (k : Nat) : Option Nat := bif Nat.beq k i then a else some 0
noncomputable def qg (k : Int) : Option Nat := gr w32 k
noncomputable def prF (n : Nat) (g : Nat → Int) (i : Nat) (a : Int) : Nat → Option Nat := pr (prs n g) (cvI i (qg a)) (rF (prs n g))
noncomputable def lawK (n m : Nat) (g h : Nat → Int) (G a : Int) (i : Nat) : CallerT := addK 24 (selRun J6.runN) (addK 7 (runP3 n m g h G a i) (addK 25 (selRun (run2 grow)) (addK 26 (selRun (run2 grow)) (addK 27 (selRun (run2 cb))
  (addK 16 (runPs n g) (addK 28 (runCG (prs n g) (cvI i (qg a))) (addK 29 (runPC (prs n g) (cvI i (qg a))) (addK 30 (runCS (prs n g) (prF n g i a) i) (addK 31 (runCS (prs n g) (prF n g i a) i) extK)))))))))
def big (n m : Nat) : Bool := cond (decide ((n : Int) > 4096)) true (decide ((m : Int) > 4096))
noncomputable def p1 (G a : Option Nat) : Bool := bif andB (bif andB (bif bif bif false then true else fcmp .neq .f32 (grow G a) (grow G a) then true else fcmp .lss .f32 (grow G a) a then true else fcmp .gtr .f32 (grow G a) one) true then true else fcmp .neq .f32 (grow G (some 0)) (some 0)) true then true else fcmp .neq .f32 (grow G one) one
noncomputable def p2 (G a : Option Nat) : Bool := bif bif andB (bif nr (grow G (cb G a)) a (some 953267991) then false else true) (fcmp .gtr .f32 a (some 0)) then true else fcmp .lss .f32 (cb G a) (some 0) then true else fcmp .gtr .f32 (cb G a) one
noncomputable def p3 (v a x : Option Nat) (e : Int) : Bool := bif impB (e == e) (andB (bif false then true else fcmp .lss .f32 v a) true) then true else fcmp .neq .f32 x x
noncomputable def p4 (x : Option Nat) (e : Int) : Bool := bif e == 4 then true else andB (andB (e == 0) (fcmp .geq .f32 x (some 0))) (fcmp .leq .f32 x one)
def V (b P1 P2 P3 P4 : Bool) : Bool := bif b then true else bif P1 then false else bif P2 then false else bif P3 then false else P4
def O (b P1 P2 k1 k2 a1 a2 a3 a4 c1 c2 c3 d1 d2 d3 d4 d5 d6 : Bool) : Bool := impB (!b) (andB k1 (andB k2 (andB a1 (andB a2 (andB a3 (andB a4 (impB (!P1) (andB c1 (andB c2 (andB (andB (andB c3 true) true) (impB (!P2) (andB d1 (andB d2 (andB d3 (andB d4 (andB d5 (andB d6 true)))))))))))))))))
noncomputable def vv (n : Nat) (g : Nat → Int) (i : Nat) (a : Int) : Option Nat := grow (prs n g 80) (cvI i (qg a) i)
noncomputable def okCG (f c : Nat → Option Nat) : Bool := okPC f c
theorem eLaw0 (n m : Nat) (g h : Nat → Int) (G a : Int) : evF Try.prog (lawK n m g h G a 0) noL 20 8 4 [.slc 0 0 n, .slc 1 0 m] [.rows false n 1 (ur g), .rows false m 1 (ur h)] =
  some (.leaf (.bool (J7.V (big n m) (p1 (qg G) (qg a)) (p2 (qg G) (qg a)) (p3 (vv n g 0 a) (qg a) (vx (prs n g) (prF n g 0 a) 0) (ve (prs n g) (prF n g 0 a) 0)) (p4 (vx (prs n g) (prF n g 0 a) 0) (ve (prs n g) (prF n g 0 a) 0))), none),
    O (big n m) (p1 (qg G) (qg a)) (p2 (qg G) (qg a)) (okPk n g 9) (okPk m h 33) (andB (sh (qg G)) (sh (qg a))) (andB (sh (qg G)) (sh (qg a))) (andB (sh (qg G)) (sh (some 0))) (andB (sh (qg G)) (sh one)) (andB (sh (qg G)) (sh (qg a))) (andB (sh (qg G)) (sh (cb (qg G) (qg a)))) (obN (fop .sub .f32 (grow (qg G) (cb (qg G) (qg a))) (qg a)))
      (okPs n g) (okPk m h 4) (okCG (prs n g) (cvI 0 (qg a))) (okPC (prs n g) (cvI 0 (qg a))) (okCS (prs n g) (prF n g 0 a) 0) (okCS (prs n g) (prF n g 0 a) 0)) := by kernel_rfl
theorem eLaw1 (n m : Nat) (g h : Nat → Int) (G a : Int) : evF Try.prog (lawK n m g h G a 1) noL 20 8 4 [.slc 0 0 n, .slc 1 0 m] [.rows false n 1 (ur g), .rows false m 1 (ur h)] =
  some (.leaf (.bool (J7.V (big n m) (p1 (qg G) (qg a)) (p2 (qg G) (qg a)) (p3 (vv n g 1 a) (qg a) (vx (prs n g) (prF n g 1 a) 1) (ve (prs n g) (prF n g 1 a) 1)) (p4 (vx (prs n g) (prF n g 1 a) 1) (ve (prs n g) (prF n g 1 a) 1))), none),
    O (big n m) (p1 (qg G) (qg a)) (p2 (qg G) (qg a)) (okPk n g 9) (okPk m h 33) (andB (sh (qg G)) (sh (qg a))) (andB (sh (qg G)) (sh (qg a))) (andB (sh (qg G)) (sh (some 0))) (andB (sh (qg G)) (sh one)) (andB (sh (qg G)) (sh (qg a))) (andB (sh (qg G)) (sh (cb (qg G) (qg a)))) (obN (fop .sub .f32 (grow (qg G) (cb (qg G) (qg a))) (qg a)))
      (okPs n g) (okPk m h 4) (okCG (prs n g) (cvI 1 (qg a))) (okPC (prs n g) (cvI 1 (qg a))) (okCS (prs n g) (prF n g 1 a) 1) (okCS (prs n g) (prF n g 1 a) 1)) := by kernel_rfl
theorem eLaw2 (n m : Nat) (g h : Nat → Int) (G a : Int) : evF Try.prog (lawK n m g h G a 2) noL 20 8 4 [.slc 0 0 n, .slc 1 0 m] [.rows false n 1 (ur g), .rows false m 1 (ur h)] =
  some (.leaf (.bool (J7.V (big n m) (p1 (qg G) (qg a)) (p2 (qg G) (qg a)) (p3 (vv n g 2 a) (qg a) (vx (prs n g) (prF n g 2 a) 2) (ve (prs n g) (prF n g 2 a) 2)) (p4 (vx (prs n g) (prF n g 2 a) 2) (ve (prs n g) (prF n g 2 a) 2))), none),
    O (big n m) (p1 (qg G) (qg a)) (p2 (qg G) (qg a)) (okPk n g 9) (okPk m h 33) (andB (sh (qg G)) (sh (qg a))) (andB (sh (qg G)) (sh (qg a))) (andB (sh (qg G)) (sh (some 0))) (andB (sh (qg G)) (sh one)) (andB (sh (qg G)) (sh (qg a))) (andB (sh (qg G)) (sh (cb (qg G) (qg a)))) (obN (fop .sub .f32 (grow (qg G) (cb (qg G) (qg a))) (qg a)))
      (okPs n g) (okPk m h 4) (okCG (prs n g) (cvI 2 (qg a))) (okPC (prs n g) (cvI 2 (qg a))) (okCS (prs n g) (prF n g 2 a) 2) (okCS (prs n g) (prF n g 2 a) 2)) := by kernel_rfl
theorem eLaw3 (n m : Nat) (g h : Nat → Int) (G a : Int) : evF Try.prog (lawK n m g h G a 3) noL 20 8 4 [.slc 0 0 n, .slc 1 0 m] [.rows false n 1 (ur g), .rows false m 1 (ur h)] =
  some (.leaf (.bool (J7.V (big n m) (p1 (qg G) (qg a)) (p2 (qg G) (qg a)) (p3 (vv n g 3 a) (qg a) (vx (prs n g) (prF n g 3 a) 3) (ve (prs n g) (prF n g 3 a) 3)) (p4 (vx (prs n g) (prF n g 3 a) 3) (ve (prs n g) (prF n g 3 a) 3))), none),
    O (big n m) (p1 (qg G) (qg a)) (p2 (qg G) (qg a)) (okPk n g 9) (okPk m h 33) (andB (sh (qg G)) (sh (qg a))) (andB (sh (qg G)) (sh (qg a))) (andB (sh (qg G)) (sh (some 0))) (andB (sh (qg G)) (sh one)) (andB (sh (qg G)) (sh (qg a))) (andB (sh (qg G)) (sh (cb (qg G) (qg a)))) (obN (fop .sub .f32 (grow (qg G) (cb (qg G) (qg a))) (qg a)))
      (okPs n g) (okPk m h 4) (okCG (prs n g) (cvI 3 (qg a))) (okPC (prs n g) (cvI 3 (qg a))) (okCS (prs n g) (prF n g 3 a) 3) (okCS (prs n g) (prF n g 3 a) 3)) := by kernel_rfl
end Go.Proofs.Ytpnjimpiphbcfaa.J7
