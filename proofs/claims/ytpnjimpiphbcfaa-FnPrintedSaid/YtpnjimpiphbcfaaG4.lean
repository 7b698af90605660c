/- Texts of one claim, put together. -/
import Derived.Test.YtpnjimpiphbcfaaG2
import Derived.Test.YtpnjimpiphbcfaaSxT5
import Derived.Test.YtpnjimpiphbcfaaG3
set_option linter.unusedVariables false
set_option linter.unusedSimpArgs false
set_option exponentiation.threshold 3000
set_option maxRecDepth 100000
namespace Go.Proofs.Ytpnjimpiphbcfaa.J7
open Go Go.Sx Go.Sx.R0 Go.Sx.C5 Go.Sx.C1 Go.Sx.Fl Go.Sx.Ink Ieee Go.Proofs.Ytpnjimpiphbcfaa.J1 Go.Proofs.Ytpnjimpiphbcfaa.J4 Go.Proofs.Ytpnjimpiphbcfaa.J5 Go.Proofs.Ytpnjimpiphbcfaa.J6 Go.Proofs.Ytpnjimpiphbcfaa.V5 Go.Proofs.Ytpnjimpiphbcfaa.T5

-- what is picked
theorem eP9 (n : Nat) (g : Nat → Int) : evF Try.prog extK noL 20 8 7 [.slc 0 0 n, .lit (.int .i64 9)] [.rows false n 1 (ur g)] = some (.leaf (.int .i64 (xp n g 9 0 0), none), andB (andB (andB (andB (oj n 0) true) true) true) true) := by kernel_rfl
theorem eP33 (n : Nat) (g : Nat → Int) : evF Try.prog extK noL 20 8 7 [.slc 0 0 n, .lit (.int .i64 33)] [.rows false n 1 (ur g)] = some (.leaf (.int .i64 (xp n g 33 0 0), none), andB (andB (andB (andB (oj n 0) true) true) true) true) := by kernel_rfl
theorem eP4 (n : Nat) (g : Nat → Int) : evF Try.prog extK noL 20 8 7 [.slc 0 0 n, .lit (.int .i64 4)] [.rows false n 1 (ur g)] = some (.leaf (.int .i64 (xp n g 4 0 0), none), andB (andB (andB (andB (oj n 0) true) true) true) true) := by kernel_rfl
noncomputable def runPk (n : Nat) (g : Nat → Int) (m : Int) (v : AV) : List AV → List Blk → Option Lf := selRun (runAtH [.slc 0 0 n, .lit (.int .i64 m)] [.rows false n 1 (ur g)] (.leaf (v, none)) true)
noncomputable def okPk (n : Nat) (g : Nat → Int) (m : Int) : Bool := andB (deq [.slc 0 0 n, .lit (.int .i64 m)] [.slc 0 0 n, .lit (.int .i64 m)]) (andB (deqH [.rows false n 1 (ur g)] [.rows false n 1 (ur g)]) true)
theorem okPk_true (n : Nat) (g : Nat → Int) (m : Int) : okPk n g m = true := by unfold okPk; rw [deq_self, deqH_self]; rfl
theorem pk9 (n : Nat) (g : Nat → Int) {v : AV} (h : delitD v = .int .i64 (xp n g 9 0 0)) : SumOk Try.prog 7 (runPk n g 9 v) := sum_atH sxApart sxMixed extK_ok noL (N := 20) (d := 8) fun _ => by
  have e := eP9 n g
  rw [oj_true] at e
  exact ⟨noL_all, _, e, LLe.of h.symm rfl rfl⟩
theorem pk33 (n : Nat) (g : Nat → Int) {v : AV} (h : delitD v = .int .i64 (xp n g 33 0 0)) : SumOk Try.prog 7 (runPk n g 33 v) := sum_atH sxApart sxMixed extK_ok noL (N := 20) (d := 8) fun _ => by
  have e := eP33 n g
  rw [oj_true] at e
  exact ⟨noL_all, _, e, LLe.of h.symm rfl rfl⟩
theorem pk4 (n : Nat) (g : Nat → Int) {v : AV} (h : delitD v = .int .i64 (xp n g 4 0 0)) : SumOk Try.prog 7 (runPk n g 4 v) := sum_atH sxApart sxMixed extK_ok noL (N := 20) (d := 8) fun _ => by
  have e := eP4 n g
  rw [oj_true] at e
  exact ⟨noL_all, _, e, LLe.of h.symm rfl rfl⟩
def selP : List AV → Option Int
  | [_, .lit (.int .i64 m)] => some m
  | _ => none
noncomputable def runP3 (n m : Nat) (g h : Nat → Int) (G a : Int) (i : Nat) : List AV → List Blk → Option Lf := famK selP fun b => bif b == 9 then runPk n g 9 (.int .i64 G) else bif b == 33 then runPk m h 33 (.int .i64 a) else runPk m h 4 (.lit (.int .i64 (Int.ofNat i)))
theorem pickOk (n m : Nat) (g h : Nat → Int) {G a : Int} {i : Nat} (h1 : xp n g 9 0 0 = G) (h2 : xp m h 33 0 0 = a) (h3 : xp m h 4 0 0 = Int.ofNat i) : SumOk Try.prog 7 (runP3 n m g h G a i) := famK_ok fun b => by
  have k1 : SumOk Try.prog 7 (runPk n g 9 (.int .i64 G)) := pk9 n g (by rw [h1]; rfl)
  have k2 : SumOk Try.prog 7 (runPk m h 33 (.int .i64 a)) := pk33 m h (by rw [h2]; rfl)
  have k3 : SumOk Try.prog 7 (runPk m h 4 (.lit (.int .i64 (Int.ofNat i)))) := pk4 m h (by rw [h3]; rfl)
  cases (b == 9) with
  | true => exact k1
  | false =>
    cases (b == 33) with
    | true => exact k2
    | false => exact k3
-- the press that is drawn
noncomputable def runPs (n : Nat) (g : Nat → Int) : List AV → List Blk → Option Lf := selRun (runAtH [.slc 0 0 n] [.rows false n 1 (ur g)] (.leaf (.agg (pcs (prs n g)), none)) true)
noncomputable def okPs (n : Nat) (g : Nat → Int) : Bool := andB (deq [.slc 0 0 n] [.slc 0 0 n]) (andB (deqH [.rows false n 1 (ur g)] [.rows false n 1 (ur g)]) true)
theorem okPs_true (n : Nat) (g : Nat → Int) : okPs n g = true := by unfold okPs; rw [deq_self, deqH_self]; rfl
theorem pressOk (n : Nat) (g : Nat → Int) : SumOk Try.prog 16 (runPs n g) := sum_atH sxApart sxMixed (addK_ok (drawnOk n g) extK_ok) noL (N := 20) (d := 8) fun _ => by
  have e := ePr n g
  rw [okS_self (by omega)] at e
  exact ⟨noL_all, _, e, LLe.refl _⟩
theorem prs_Sh {n : Nat} {g : Nat → Int} (hg : ∀ i, i < n → 0 ≤ g i ∧ g i ≤ 255) : Sh (prs n g) := by
  obtain ⟨d⟩ := prs_drawn hg
  refine ⟨d.share, ?_⟩
  rw [d.gain]
  refine ⟨_, chk_of c16 (k := d.G) (by have := d.hG; omega), ?_⟩
  have : (2 : Nat) ^ 1074 = 16 * 2 ^ 1070 := by rw [show (1074 : Nat) = 4 + 1070 from rfl, Nat.pow_add]
  rw [Nat.one_mul, this]
  exact Nat.mul_le_mul_right _ (by have := d.hG; omega)
noncomputable def cvI (i : Nat) (a : Option Nat) (k : Nat) : Option Nat := bif Nat.beq k i then a else some 0
noncomputable def qg (k : Int) : Option Nat := gr w32 k
noncomputable def prF (n : Nat) (g : Nat → Int) (i : Nat) (a : Int) : Nat → Option Nat := pr (prs n g) (cvI i (qg a)) (rF (prs n g))
noncomputable def lawK (n m : Nat) (g h : Nat → Int) (G a : Int) (i : Nat) : CallerT := addK 24 (selRun J6.runN) (addK 7 (runP3 n m g h G a i) (addK 25 (selRun (run2 grow)) (addK 26 (selRun (run2 grow)) (addK 27 (selRun (run2 cb))
  (addK 16 (runPs n g) (addK 28 (runCG (prs n g) (cvI i (qg a))) (addK 29 (runPC (prs n g) (cvI i (qg a))) (addK 30 (runCS (prs n g) (prF n g i a) i) (addK 31 (runCS (prs n g) (prF n g i a) i) extK)))))))))
def big (n m : Nat) : Bool := cond (decide ((n : Int) > 4096)) true (decide ((m : Int) > 4096))
noncomputable def p1 (G a : Option Nat) : Bool := bif andB (bif andB (bif bif bif false then true else fcmp .neq .f32 (grow G a) (grow G a) then true else fcmp .lss .f32 (grow G a) a then true else fcmp .gtr .f32 (grow G a) one) true then true else fcmp .neq .f32 (grow G (some 0)) (some 0)) true then true else fcmp .neq .f32 (grow G one) one
noncomputable def p2 (G a : Option Nat) : Bool := bif bif andB (bif nr (grow G (cb G a)) a (some 953267991) then false else true) (fcmp .gtr .f32 a (some 0)) then true else fcmp .lss .f32 (cb G a) (some 0) then true else fcmp .gtr .f32 (cb G a) one
noncomputable def p3 (v a x : Option Nat) (e : Int) : Bool := bif impB (e == e) (andB (bif false then true else fcmp .lss .f32 v a) true) then true else fcmp .neq .f32 x x
noncomputable def p4 (x : Option Nat) (e : Int) : Bool := bif e == 4 then true else andB (andB (e == 0) (fcmp .geq .f32 x (some 0))) (fcmp .leq .f32 x one)
def V (b P1 P2 P3 P4 : Bool) : Bool := bif b then true else bif P1 then false else bif P2 then false else bif P3 then false else P4
def O (b P1 P2 k1 k2 a1 a2 a3 a4 c1 c2 c3 d1 d2 d3 d4 d5 d6 : Bool) : Bool := impB (!b) (andB k1 (andB k2 (andB a1 (andB a2 (andB a3 (andB a4 (impB (!P1) (andB c1 (andB c2 (andB (andB (andB c3 true) true) (impB (!P2) (andB d1 (andB d2 (andB d3 (andB d4 (andB d5 (andB d6 true)))))))))))))))))
noncomputable def vv (n : Nat) (g : Nat → Int) (i : Nat) (a : Int) : Option Nat := grow (prs n g 80) (cvI i (qg a) i)
noncomputable def okCG (f c : Nat → Option Nat) : Bool := okPC f c
theorem eLaw0 (n m : Nat) (g h : Nat → Int) (G a : Int) : evF Try.prog (lawK n m g h G a 0) noL 20 8 4 [.slc 0 0 n, .slc 1 0 m] [.rows false n 1 (ur g), .rows false m 1 (ur h)] =
  some (.leaf (.bool (J7.V (big n m) (p1 (qg G) (qg a)) (p2 (qg G) (qg a)) (p3 (vv n g 0 a) (qg a) (vx (prs n g) (prF n g 0 a) 0) (ve (prs n g) (prF n g 0 a) 0)) (p4 (vx (prs n g) (prF n g 0 a) 0) (ve (prs n g) (prF n g 0 a) 0))), none),
    O (big n m) (p1 (qg G) (qg a)) (p2 (qg G) (qg a)) (okPk n g 9) (okPk m h 33) (andB (sh (qg G)) (sh (qg a))) (andB (sh (qg G)) (sh (qg a))) (andB (sh (qg G)) (sh (some 0))) (andB (sh (qg G)) (sh one)) (andB (sh (qg G)) (sh (qg a))) (andB (sh (qg G)) (sh (cb (qg G) (qg a)))) (obN (fop .sub .f32 (grow (qg G) (cb (qg G) (qg a))) (qg a)))
      (okPs n g) (okPk m h 4) (okCG (prs n g) (cvI 0 (qg a))) (okPC (prs n g) (cvI 0 (qg a))) (okCS (prs n g) (prF n g 0 a) 0) (okCS (prs n g) (prF n g 0 a) 0)) := by kernel_rfl
theorem eLaw1 (n m : Nat) (g h : Nat → Int) (G a : Int) : evF Try.prog (lawK n m g h G a 1) noL 20 8 4 [.slc 0 0 n, .slc 1 0 m] [.rows false n 1 (ur g), .rows false m 1 (ur h)] =
  some (.leaf (.bool (J7.V (big n m) (p1 (qg G) (qg a)) (p2 (qg G) (qg a)) (p3 (vv n g 1 a) (qg a) (vx (prs n g) (prF n g 1 a) 1) (ve (prs n g) (prF n g 1 a) 1)) (p4 (vx (prs n g) (prF n g 1 a) 1) (ve (prs n g) (prF n g 1 a) 1))), none),
    O (big n m) (p1 (qg G) (qg a)) (p2 (qg G) (qg a)) (okPk n g 9) (okPk m h 33) (andB (sh (qg G)) (sh (qg a))) (andB (sh (qg G)) (sh (qg a))) (andB (sh (qg G)) (sh (some 0))) (andB (sh (qg G)) (sh one)) (andB (sh (qg G)) (sh (qg a))) (andB (sh (qg G)) (sh (cb (qg G) (qg a)))) (obN (fop .sub .f32 (grow (qg G) (cb (qg G) (qg a))) (qg a)))
      (okPs n g) (okPk m h 4) (okCG (prs n g) (cvI 1 (qg a))) (okPC (prs n g) (cvI 1 (qg a))) (okCS (prs n g) (prF n g 1 a) 1) (okCS (prs n g) (prF n g 1 a) 1)) := by kernel_rfl
theorem eLaw2 (n m : Nat) (g h : Nat → Int) (G a : Int) : evF Try.prog (lawK n m g h G a 2) noL 20 8 4 [.slc 0 0 n, .slc 1 0 m] [.rows false n 1 (ur g), .rows false m 1 (ur h)] =
  some (.leaf (.bool (J7.V (big n m) (p1 (qg G) (qg a)) (p2 (qg G) (qg a)) (p3 (vv n g 2 a) (qg a) (vx (prs n g) (prF n g 2 a) 2) (ve (prs n g) (prF n g 2 a) 2)) (p4 (vx (prs n g) (prF n g 2 a) 2) (ve (prs n g) (prF n g 2 a) 2))), none),
    O (big n m) (p1 (qg G) (qg a)) (p2 (qg G) (qg a)) (okPk n g 9) (okPk m h 33) (andB (sh (qg G)) (sh (qg a))) (andB (sh (qg G)) (sh (qg a))) (andB (sh (qg G)) (sh (some 0))) (andB (sh (qg G)) (sh one)) (andB (sh (qg G)) (sh (qg a))) (andB (sh (qg G)) (sh (cb (qg G) (qg a)))) (obN (fop .sub .f32 (grow (qg G) (cb (qg G) (qg a))) (qg a)))
      (okPs n g) (okPk m h 4) (okCG (prs n g) (cvI 2 (qg a))) (okPC (prs n g) (cvI 2 (qg a))) (okCS (prs n g) (prF n g 2 a) 2) (okCS (prs n g) (prF n g 2 a) 2)) := by kernel_rfl
theorem eLaw3 (n m : Nat) (g h : Nat → Int) (G a : Int) : evF Try.prog (lawK n m g h G a 3) noL 20 8 4 [.slc 0 0 n, .slc 1 0 m] [.rows false n 1 (ur g), .rows false m 1 (ur h)] =
  some (.leaf (.bool (J7.V (big n m) (p1 (qg G) (qg a)) (p2 (qg G) (qg a)) (p3 (vv n g 3 a) (qg a) (vx (prs n g) (prF n g 3 a) 3) (ve (prs n g) (prF n g 3 a) 3)) (p4 (vx (prs n g) (prF n g 3 a) 3) (ve (prs n g) (prF n g 3 a) 3))), none),
    O (big n m) (p1 (qg G) (qg a)) (p2 (qg G) (qg a)) (okPk n g 9) (okPk m h 33) (andB (sh (qg G)) (sh (qg a))) (andB (sh (qg G)) (sh (qg a))) (andB (sh (qg G)) (sh (some 0))) (andB (sh (qg G)) (sh one)) (andB (sh (qg G)) (sh (qg a))) (andB (sh (qg G)) (sh (cb (qg G) (qg a)))) (obN (fop .sub .f32 (grow (qg G) (cb (qg G) (qg a))) (qg a)))
      (okPs n g) (okPk m h 4) (okCG (prs n g) (cvI 3 (qg a))) (okPC (prs n g) (cvI 3 (qg a))) (okCS (prs n g) (prF n g 3 a) 3) (okCS (prs n g) (prF n g 3 a) 3)) := by kernel_rfl
end Go.Proofs.Ytpnjimpiphbcfaa.J7
set_option linter.unusedVariables false
set_option linter.unusedSimpArgs false
set_option exponentiation.threshold 3000
set_option maxRecDepth 100000
namespace Go.Proofs.Ytpnjimpiphbcfaa.X5
open Go Go.Sx Go.Sx.R0 Go.Sx.C5 Go.Sx.C1 Go.Sx.Fl Go.Sx.Ink Ieee Go.Proofs.Ytpnjimpiphbcfaa.J1 Go.Proofs.Ytpnjimpiphbcfaa.J2 Go.Proofs.Ytpnjimpiphbcfaa.J4 Go.Proofs.Ytpnjimpiphbcfaa.J5 Go.Proofs.Ytpnjimpiphbcfaa.V5 Go.Proofs.Ytpnjimpiphbcfaa.O5

-- the cover that is drawn
noncomputable def cvr (n : Nat) (g : Nat → Int) (i : Nat) : Option Nat := gr w32 (xp n g 33 (0 + i) (yk n g 0 0 i))
noncomputable def oCv (n : Nat) (g : Nat → Int) : Bool := andB (kk n g 0 0 0) (andB (kk n g 0 0 1) (andB (kk n g 0 0 2) (andB (kk n g 0 0 3) true)))
theorem eCv (n : Nat) (g : Nat → Int) : evF Try.prog (pK n g) noL 20 8 17 [.slc 0 0 n] [.rows false n 1 (ur g)] = some (.leaf (.agg (Q5.cv (cvr n g)), none), oCv n g) := by kernel_rfl
noncomputable def runCv (n : Nat) (g : Nat → Int) : List AV → List Blk → Option Lf := selRun (runAtH [.slc 0 0 n] [.rows false n 1 (ur g)] (.leaf (.agg (Q5.cv (cvr n g)), none)) true)
theorem cvOk (n : Nat) (g : Nat → Int) : SumOk Try.prog 17 (runCv n g) := sum_atH sxApart sxMixed (pK_ok n g) noL (N := 20) (d := 8) fun _ => by
  have e := eCv n g
  unfold oCv at e
  rw [kk_true (k := 0) (by omega), kk_true (k := 1) (by omega), kk_true (k := 2) (by omega), kk_true (k := 3) (by omega)] at e
  exact ⟨noL_all, _, e, LLe.refl _⟩
-- areas
noncomputable def okAt (e : List AV) : Bool := andB (deq e e) (andB (deqH [] []) true)
theorem okAt_true (e : List AV) : okAt e = true := by unfold okAt; rw [deq_self, deqH_self]; rfl
noncomputable def TAr (g : Bool) (c : Nat → Option Nat) : Tr (AV × Option (List Blk)) := .node (!g) (.leaf (.tup [.agg (cF fun _ => some 0), .lit (.int .i64 1)], none)) (.leaf (.tup [.agg (cF (area c)), .lit (.int .i64 0)], none))
theorem eAS (c : Nat → Option Nat) : evF Try.prog extK noL 20 8 33 [.agg (Q5.cv c)] [] = some (TAr (co c) c, true) := by kernel_rfl
theorem eAI (c : Nat → Option Nat) : evF Try.prog extK noL 20 8 32 [.agg (Q5.cv c)] [] = some (TAr (coI c) c, true) := by kernel_rfl
noncomputable def runAr (c : Nat → Option Nat) : List AV → List Blk → Option Lf := selRun (runAtD [.agg (Q5.cv c)] [] (.leaf (.tup [.agg (cF (area c)), .int .i64 0], none)) true)
theorem arS {c : Nat → Option Nat} (hc : ShC c) : SumOk Try.prog 33 (runAr c) := sum_atD sxApart sxMixed extK_ok noL (N := 20) (d := 8) fun _ => by
  refine ⟨noL_all, _, eAS c, ?_⟩
  unfold TAr; rw [co_true hc]; exact LLe.of rfl rfl rfl
theorem arI {c : Nat → Option Nat} (hc : ShC c) : SumOk Try.prog 32 (runAr c) := sum_atD sxApart sxMixed extK_ok noL (N := 20) (d := 8) fun _ => by
  refine ⟨noL_all, _, eAI c, ?_⟩
  unfold TAr; rw [show coI c = co c from covI_cov _ _ _ _, co_true hc]; exact LLe.of rfl rfl rfl
-- validity
theorem eVc (c : Nat → Option Nat) : evF Try.prog extK noL 20 8 35 [.agg (Q5.cv c)] [] = some (.leaf (.bool (coI c), none), true) := by kernel_rfl
noncomputable def runVc (c : Nat → Option Nat) : List AV → List Blk → Option Lf := selRun (runAtD [.agg (Q5.cv c)] [] (.leaf (.bool true, none)) true)
theorem vcI {c : Nat → Option Nat} (hc : ShC c) : SumOk Try.prog 35 (runVc c) := sum_atD sxApart sxMixed extK_ok noL (N := 20) (d := 8) fun _ => by
  refine ⟨noL_all, _, eVc c, ?_⟩
  rw [show coI c = co c from covI_cov _ _ _ _, co_true hc]; exact LLe.refl _
noncomputable def runVp (f : Nat → Option Nat) : List AV → List Blk → Option Lf := selRun (runAtD [.agg (pcs f)] [] (.leaf (.bool true, none)) true)
theorem vpI {f : Nat → Option Nat} (hf : Sh f) : SumOk Try.prog 34 (runVp f) := sum_atD sxApart sxMixed extK_ok noL (N := 20) (d := 8) fun _ => by
  refine ⟨noL_all, _, vI1 f, ?_⟩
  rw [pVI_pV, pV_true hf.p hf.g]; exact LLe.refl _
-- keys
theorem ky0 : evF Try.prog extK noL 20 8 36 [.lit (.int .i64 0)] [] = some (.leaf (.tup [.agg [.bool (kb 0 0), .bool (kb 0 1), .bool (kb 0 2), .bool (kb 0 3)], .lit (.int .i64 0)], none), true) := by kernel_rfl
theorem ky1 : evF Try.prog extK noL 20 8 36 [.lit (.int .i64 1)] [] = some (.leaf (.tup [.agg [.bool (kb 1 0), .bool (kb 1 1), .bool (kb 1 2), .bool (kb 1 3)], .lit (.int .i64 0)], none), true) := by kernel_rfl
theorem ky2 : evF Try.prog extK noL 20 8 36 [.lit (.int .i64 2)] [] = some (.leaf (.tup [.agg [.bool (kb 2 0), .bool (kb 2 1), .bool (kb 2 2), .bool (kb 2 3)], .lit (.int .i64 0)], none), true) := by kernel_rfl
theorem ky3 : evF Try.prog extK noL 20 8 36 [.lit (.int .i64 3)] [] = some (.leaf (.tup [.agg [.bool (kb 3 0), .bool (kb 3 1), .bool (kb 3 2), .bool (kb 3 3)], .lit (.int .i64 0)], none), true) := by kernel_rfl
theorem ky4 : evF Try.prog extK noL 20 8 36 [.lit (.int .i64 4)] [] = some (.leaf (.tup [.agg [.bool (kb 4 0), .bool (kb 4 1), .bool (kb 4 2), .bool (kb 4 3)], .lit (.int .i64 0)], none), true) := by kernel_rfl
theorem ky5 : evF Try.prog extK noL 20 8 36 [.lit (.int .i64 5)] [] = some (.leaf (.tup [.agg [.bool (kb 5 0), .bool (kb 5 1), .bool (kb 5 2), .bool (kb 5 3)], .lit (.int .i64 0)], none), true) := by kernel_rfl
theorem ky6 : evF Try.prog extK noL 20 8 36 [.lit (.int .i64 6)] [] = some (.leaf (.tup [.agg [.bool (kb 6 0), .bool (kb 6 1), .bool (kb 6 2), .bool (kb 6 3)], .lit (.int .i64 0)], none), true) := by kernel_rfl
theorem ky7 : evF Try.prog extK noL 20 8 36 [.lit (.int .i64 7)] [] = some (.leaf (.tup [.agg [.bool (kb 7 0), .bool (kb 7 1), .bool (kb 7 2), .bool (kb 7 3)], .lit (.int .i64 0)], none), true) := by kernel_rfl
theorem ky8 : evF Try.prog extK noL 20 8 36 [.lit (.int .i64 8)] [] = some (.leaf (.tup [.agg [.bool (kb 8 0), .bool (kb 8 1), .bool (kb 8 2), .bool (kb 8 3)], .lit (.int .i64 0)], none), true) := by kernel_rfl
theorem ky9 : evF Try.prog extK noL 20 8 36 [.lit (.int .i64 9)] [] = some (.leaf (.tup [.agg [.bool (kb 9 0), .bool (kb 9 1), .bool (kb 9 2), .bool (kb 9 3)], .lit (.int .i64 0)], none), true) := by kernel_rfl
theorem ky10 : evF Try.prog extK noL 20 8 36 [.lit (.int .i64 10)] [] = some (.leaf (.tup [.agg [.bool (kb 10 0), .bool (kb 10 1), .bool (kb 10 2), .bool (kb 10 3)], .lit (.int .i64 0)], none), true) := by kernel_rfl
theorem ky11 : evF Try.prog extK noL 20 8 36 [.lit (.int .i64 11)] [] = some (.leaf (.tup [.agg [.bool (kb 11 0), .bool (kb 11 1), .bool (kb 11 2), .bool (kb 11 3)], .lit (.int .i64 0)], none), true) := by kernel_rfl
theorem ky12 : evF Try.prog extK noL 20 8 36 [.lit (.int .i64 12)] [] = some (.leaf (.tup [.agg [.bool (kb 12 0), .bool (kb 12 1), .bool (kb 12 2), .bool (kb 12 3)], .lit (.int .i64 0)], none), true) := by kernel_rfl
theorem ky13 : evF Try.prog extK noL 20 8 36 [.lit (.int .i64 13)] [] = some (.leaf (.tup [.agg [.bool (kb 13 0), .bool (kb 13 1), .bool (kb 13 2), .bool (kb 13 3)], .lit (.int .i64 0)], none), true) := by kernel_rfl
theorem ky14 : evF Try.prog extK noL 20 8 36 [.lit (.int .i64 14)] [] = some (.leaf (.tup [.agg [.bool (kb 14 0), .bool (kb 14 1), .bool (kb 14 2), .bool (kb 14 3)], .lit (.int .i64 0)], none), true) := by kernel_rfl
theorem ky15 : evF Try.prog extK noL 20 8 36 [.lit (.int .i64 15)] [] = some (.leaf (.tup [.agg [.bool (kb 15 0), .bool (kb 15 1), .bool (kb 15 2), .bool (kb 15 3)], .lit (.int .i64 0)], none), true) := by kernel_rfl
noncomputable def runKO (n : Nat) : List AV → List Blk → Option Lf := selRun (runAtD [.int .i64 (Int.ofNat n)] [] (.leaf (.tup [.agg [.bool (kb n 0), .bool (kb n 1), .bool (kb n 2), .bool (kb n 3)], .int .i64 0], none)) true)
theorem keyOk {n : Nat} (hn : n < 16) : SumOk Try.prog 36 (runKO n) := sum_selG sxApart sxMixed fun args H t hr _ => by
  unfold runAtD at hr
  simp only [Option.some.injEq, Prod.mk.injEq] at hr
  obtain ⟨rfl, ho⟩ := hr
  obtain ⟨h1, ho⟩ := andB_true ho
  obtain ⟨h2, _⟩ := andB_true ho
  have h1 := deq_eq h1
  have h2 := deqH_eq h2
  subst h2
  have lit : ∀ (k : Int) (ρ : List Sx.Place) (vals : List Value), VRels ρ [.int .i64 k] vals → VRels ρ [.lit (.int .i64 k)] vals := fun k ρ vals hv => by
    simp only [VRels] at hv ⊢
    exact hv
  rcases n with _ | _ | _ | _ | _ | _ | _ | _ | _ | _ | _ | _ | _ | _ | _ | _ | n
  · exact ⟨extK, noL, 20, 8, _, _, extK_ok, noL_all, fun ρ vals hv => lit _ ρ vals (by have h := delits_rel hv; rw [h1] at h; exact h), ky0, LLe.of rfl rfl rfl⟩
  · exact ⟨extK, noL, 20, 8, _, _, extK_ok, noL_all, fun ρ vals hv => lit _ ρ vals (by have h := delits_rel hv; rw [h1] at h; exact h), ky1, LLe.of rfl rfl rfl⟩
  · exact ⟨extK, noL, 20, 8, _, _, extK_ok, noL_all, fun ρ vals hv => lit _ ρ vals (by have h := delits_rel hv; rw [h1] at h; exact h), ky2, LLe.of rfl rfl rfl⟩
  · exact ⟨extK, noL, 20, 8, _, _, extK_ok, noL_all, fun ρ vals hv => lit _ ρ vals (by have h := delits_rel hv; rw [h1] at h; exact h), ky3, LLe.of rfl rfl rfl⟩
  · exact ⟨extK, noL, 20, 8, _, _, extK_ok, noL_all, fun ρ vals hv => lit _ ρ vals (by have h := delits_rel hv; rw [h1] at h; exact h), ky4, LLe.of rfl rfl rfl⟩
  · exact ⟨extK, noL, 20, 8, _, _, extK_ok, noL_all, fun ρ vals hv => lit _ ρ vals (by have h := delits_rel hv; rw [h1] at h; exact h), ky5, LLe.of rfl rfl rfl⟩
  · exact ⟨extK, noL, 20, 8, _, _, extK_ok, noL_all, fun ρ vals hv => lit _ ρ vals (by have h := delits_rel hv; rw [h1] at h; exact h), ky6, LLe.of rfl rfl rfl⟩
  · exact ⟨extK, noL, 20, 8, _, _, extK_ok, noL_all, fun ρ vals hv => lit _ ρ vals (by have h := delits_rel hv; rw [h1] at h; exact h), ky7, LLe.of rfl rfl rfl⟩
  · exact ⟨extK, noL, 20, 8, _, _, extK_ok, noL_all, fun ρ vals hv => lit _ ρ vals (by have h := delits_rel hv; rw [h1] at h; exact h), ky8, LLe.of rfl rfl rfl⟩
  · exact ⟨extK, noL, 20, 8, _, _, extK_ok, noL_all, fun ρ vals hv => lit _ ρ vals (by have h := delits_rel hv; rw [h1] at h; exact h), ky9, LLe.of rfl rfl rfl⟩
  · exact ⟨extK, noL, 20, 8, _, _, extK_ok, noL_all, fun ρ vals hv => lit _ ρ vals (by have h := delits_rel hv; rw [h1] at h; exact h), ky10, LLe.of rfl rfl rfl⟩
  · exact ⟨extK, noL, 20, 8, _, _, extK_ok, noL_all, fun ρ vals hv => lit _ ρ vals (by have h := delits_rel hv; rw [h1] at h; exact h), ky11, LLe.of rfl rfl rfl⟩
  · exact ⟨extK, noL, 20, 8, _, _, extK_ok, noL_all, fun ρ vals hv => lit _ ρ vals (by have h := delits_rel hv; rw [h1] at h; exact h), ky12, LLe.of rfl rfl rfl⟩
  · exact ⟨extK, noL, 20, 8, _, _, extK_ok, noL_all, fun ρ vals hv => lit _ ρ vals (by have h := delits_rel hv; rw [h1] at h; exact h), ky13, LLe.of rfl rfl rfl⟩
  · exact ⟨extK, noL, 20, 8, _, _, extK_ok, noL_all, fun ρ vals hv => lit _ ρ vals (by have h := delits_rel hv; rw [h1] at h; exact h), ky14, LLe.of rfl rfl rfl⟩
  · exact ⟨extK, noL, 20, 8, _, _, extK_ok, noL_all, fun ρ vals hv => lit _ ρ vals (by have h := delits_rel hv; rw [h1] at h; exact h), ky15, LLe.of rfl rfl rfl⟩
  · omega
def bk (a b c d : Bool) : List AV := [.bool a, .bool b, .bool c, .bool d]
theorem eNK : ∀ a b c d : Bool, evF Try.prog extK noL 20 8 37 [.agg [.lit (.bool a), .lit (.bool b), .lit (.bool c), .lit (.bool d)]] [] = some (.leaf (.lit (.int .i64 (Int.ofNat (Pr.num a b c d))), none), true)
  | true, true, true, true => by kernel_rfl
  | true, true, true, false => by kernel_rfl
  | true, true, false, true => by kernel_rfl
  | true, true, false, false => by kernel_rfl
  | true, false, true, true => by kernel_rfl
  | true, false, true, false => by kernel_rfl
  | true, false, false, true => by kernel_rfl
  | true, false, false, false => by kernel_rfl
  | false, true, true, true => by kernel_rfl
  | false, true, true, false => by kernel_rfl
  | false, true, false, true => by kernel_rfl
  | false, true, false, false => by kernel_rfl
  | false, false, true, true => by kernel_rfl
  | false, false, true, false => by kernel_rfl
  | false, false, false, true => by kernel_rfl
  | false, false, false, false => by kernel_rfl
noncomputable def runNK (a b c d : Bool) : List AV → List Blk → Option Lf := selRun (runAtH [.agg (bk a b c d)] [] (.leaf (.int .i64 (Int.ofNat (Pr.num a b c d)), none)) true)
theorem nkOk (a b c d : Bool) : SumOk Try.prog 37 (runNK a b c d) := sum_atHl sxApart sxMixed extK_ok noL (N := 20) (d := 8) fun _ => ⟨noL_all, _, eNK a b c d, LLe.of rfl rfl rfl⟩
-- overprints
noncomputable def TOv (g : Bool) (f : Nat → Option Nat) (a b c d : Bool) : Tr (AV × Option (List Blk)) := .node (!g) (.leaf (.tup [.agg (cF fun _ => some 0), .lit (.int .i64 1)], none)) (.leaf (.tup [.agg (cF (ov f a b c d)), .lit (.int .i64 0)], none))
noncomputable def okOI (f : Nat → Option Nat) : Bool := andB (deq [.agg (pcs f)] [.agg (pcs f)]) (deqH [] [])
noncomputable def oOv (f : Nat → Option Nat) : Bool := andB (ovwI f) (impB (!!pV f) (andB (okOI f) true))
theorem eOv (f : Nat → Option Nat) (a b c d : Bool) : evF Try.prog (oK f extK) noL 20 8 22 [.agg (pcs f), .agg (bk a b c d)] [] = some (TOv (pV f) f a b c d, oOv f) := by kernel_rfl
noncomputable def runOv (f : Nat → Option Nat) (a b c d : Bool) : List AV → List Blk → Option Lf := selRun (runAtD [.agg (pcs f), .agg (bk a b c d)] [] (.leaf (.tup [.agg (cF (ov f a b c d)), .int .i64 0], none)) true)
theorem ovOk {f : Nat → Option Nat} (hf : Sh f) (a b c d : Bool) : SumOk Try.prog 22 (runOv f a b c d) := sum_atD sxApart sxMixed (oK_ok f extK_ok) noL (N := 20) (d := 8) fun _ => by
  have e := eOv f a b c d
  unfold oOv at e
  rw [show ovwI f = true from ovwI_true f, show okOI f = true from owI_true f, pV_true hf.p hf.g] at e
  refine ⟨noL_all, _, e, ?_⟩
  unfold TOv; exact LLe.of rfl rfl rfl
-- what is printed, at any cover
def c4 (a b c d : Option Nat) (i : Nat) : Option Nat := bif Nat.beq i 0 then a else bif Nat.beq i 1 then b else bif Nat.beq i 2 then c else d
noncomputable def okPG (f : Nat → Option Nat) (p : AV) (a b c d : Option Nat) : Bool := andB (deq [delit p] [.agg (pcs f)]) (pB (ShC (c4 a b c d)))
noncomputable def runPG (f : Nat → Option Nat) : List AV → List Blk → Option Lf := fun args H => match args, H with
  | [p, .agg [.flt .f32 a, .flt .f32 b, .flt .f32 c, .flt .f32 d]], [] => some (.leaf (.tup [.agg (cF (pr f (c4 a b c d) (rF f))), .int .i64 0], none), okPG f p a b c d)
  | _, _ => none
theorem okPG_true {f : Nat → Option Nat} {a b c d : Option Nat} (h : ShC (c4 a b c d)) : okPG f (.agg (pcs f)) a b c d = true := by
  unfold okPG
  rw [show deq [delit (.agg (pcs f))] [.agg (pcs f)] = true from deq_self _, pB_true h]; rfl
theorem pgI {f : Nat → Option Nat} (hf : Sh f) : SumOk Try.prog 29 (selRun (runPG f)) := sum_selG sxApart sxMixed fun args H t hr _ => by
  unfold runPG at hr
  split at hr
  case h_2 => cases hr
  rename_i p a b c d _
  simp only [Option.some.injEq, Prod.mk.injEq] at hr
  obtain ⟨rfl, ho⟩ := hr
  obtain ⟨h1, h2⟩ := andB_true ho
  have h1 := deq_eq h1
  have hc := pB_of h2
  have h := hI f (c4 a b c d)
  have hco : coI (c4 a b c d) = co (c4 a b c d) := covI_cov _ _ _ _
  rw [show ovwI f = true from ovwI_true f, orI_eq, opI_true, pV_true hf.p hf.g, hco, co_true hc, fin_true (pr_fin hf.g hc (rF_LE hf.p))] at h
  refine ⟨_, noL, 20, 8, _, [.agg (pcs f), .agg (Q5.cv (c4 a b c d))], V5.pK_ok _ hf.p, noL_all, fun ρ vals hv => ?_, h, LLe.of rfl rfl rfl⟩
  have h3 := delits_rel hv
  simp only [List.map_cons, List.map_nil] at h3
  simp only [List.cons.injEq, and_true] at h1
  rw [h1] at h3
  exact h3
theorem pgS {f : Nat → Option Nat} (hf : Sh f) : SumOk Try.prog 39 (selRun (runPG f)) := sum_selG sxApart sxMixed fun args H t hr _ => by
  unfold runPG at hr
  split at hr
  case h_2 => cases hr
  rename_i p a b c d _
  simp only [Option.some.injEq, Prod.mk.injEq] at hr
  obtain ⟨rfl, ho⟩ := hr
  obtain ⟨h1, h2⟩ := andB_true ho
  have h1 := deq_eq h1
  have hc := pB_of h2
  have h := hS f (c4 a b c d)
  rw [show ovwS f = true from ovwS_true f, orS_eq, opS_true, pV_true hf.p hf.g, co_true hc] at h
  refine ⟨_, noL, 20, 8, _, [.agg (pcs f), .agg (Q5.cv (c4 a b c d))], V5.pK_ok _ hf.p, noL_all, fun ρ vals hv => ?_, h, LLe.of rfl rfl rfl⟩
  have h3 := delits_rel hv
  simp only [List.map_cons, List.map_nil] at h3
  simp only [List.cons.injEq, and_true] at h1
  rw [h1] at h3
  exact h3
-- curves alike, and near
noncomputable def saL : List (Option Nat) → Bool
  | [] => true
  | x :: t => cond (cond (sameF x x) false true) false (saL t)
theorem sameF_self (x : Option Nat) : sameF x x = true := by
  unfold sameF
  cases fcmp .neq .f32 x x <;> simp
theorem saL_true : ∀ l, saL l = true
  | [] => rfl
  | x :: t => by unfold saL; rw [sameF_self, saL_true t]; rfl
theorem eSC (p : Nat → Option Nat) : evF Try.prog (addK 92 sameRun extK) noL 20 8 23 [.agg (cF p), .agg (cF p)] [] = some (.leaf (.bool (saL (l16 p 0)), none), true) := by kernel_rfl
noncomputable def runSC (p : Nat → Option Nat) : List AV → List Blk → Option Lf := selRun (runAtH [.agg (cF p), .agg (cF p)] [] (.leaf (.bool true, none)) true)
theorem scOk (p : Nat → Option Nat) : SumOk Try.prog 23 (runSC p) := sum_atH sxApart sxMixed (addK_ok sumSameS extK_ok) noL (N := 20) (d := 8) fun _ => by
  have e := eSC p
  rw [saL_true] at e
  exact ⟨noL_all, _, e, LLe.refl _⟩
abbrev tk : Option Nat := some 953267991
noncomputable def nL (p q : Nat → Option Nat) : Nat → Nat → Bool
  | 0, _ => true
  | n + 1, w => cond (cond (J6.nr (p (0 + w)) (q (0 + w)) tk) false true) false (nL p q n (w + 1))
noncomputable def nO (p q : Nat → Option Nat) : Nat → Nat → Bool
  | 0, _ => true
  | n + 1, w => andB (andB (J6.obN (fop .sub .f32 (p (0 + w)) (q (0 + w)))) true) (impB (!cond (J6.nr (p (0 + w)) (q (0 + w)) tk) false true) (nO p q n (w + 1)))
theorem eFC (p q : Nat → Option Nat) : evF Try.prog (addK 24 (selRun J6.runN) extK) noL 20 8 38 [.agg (cF p), .agg (cF q), .flt .f32 tk] [] = some (.leaf (.bool (nL p q 16 0), none), nO p q 16 0) := by kernel_rfl
theorem nL_true {p q : Nat → Option Nat} : ∀ {n w : Nat}, (∀ v, w ≤ v → v < w + n → J6.nr (p v) (q v) tk = true ∧ J6.obN (fop .sub .f32 (p v) (q v)) = true) → nL p q n w = true ∧ nO p q n w = true
  | 0, _, _ => ⟨rfl, rfl⟩
  | n + 1, w, h => by
    obtain ⟨h1, h2⟩ := h w (Nat.le_refl _) (by omega)
    obtain ⟨k1, k2⟩ := nL_true (p := p) (q := q) (n := n) (w := w + 1) fun v hv hv2 => h v (by omega) (by omega)
    unfold nL nO
    rw [Nat.zero_add, h1, h2, k1, k2]
    exact ⟨rfl, rfl⟩
noncomputable def runFC (p q : Nat → Option Nat) : List AV → List Blk → Option Lf := selRun (runAtD [.agg (cF p), .agg (cF q), .flt .f32 tk] [] (.leaf (.bool true, none)) true)
theorem fcOk {p q : Nat → Option Nat} (h : ∀ v, v < 16 → J6.nr (p v) (q v) tk = true ∧ J6.obN (fop .sub .f32 (p v) (q v)) = true) : SumOk Try.prog 38 (runFC p q) := sum_atD sxApart sxMixed (addK_ok J6.nearOk extK_ok) noL (N := 20) (d := 8) fun _ => by
  have e := eFC p q
  obtain ⟨k1, k2⟩ := nL_true (p := p) (q := q) (n := 16) (w := 0) fun v _ hv => h v (by omega)
  rw [k1, k2] at e
  exact ⟨noL_all, _, e, LLe.refl _⟩
end Go.Proofs.Ytpnjimpiphbcfaa.X5
set_option linter.unusedVariables false
set_option linter.unusedSimpArgs false
set_option exponentiation.threshold 3000
set_option maxRecDepth 100000
namespace Go.Proofs.Ytpnjimpiphbcfaa.Y5
open Go Go.Sx Go.Sx.R0 Go.Sx.C5 Go.Sx.C1 Go.Sx.Fl Go.Sx.Ink Ieee Go.Proofs.Ytpnjimpiphbcfaa.J1 Go.Proofs.Ytpnjimpiphbcfaa.J2 Go.Proofs.Ytpnjimpiphbcfaa.J4 Go.Proofs.Ytpnjimpiphbcfaa.J5 Go.Proofs.Ytpnjimpiphbcfaa.V5 Go.Proofs.Ytpnjimpiphbcfaa.X5

noncomputable def sumN (a : Nat → Option Nat) : Nat → Option Nat
  | 0 => some 0
  | k + 1 => fop .add .f32 (sumN a k) (a (0 + k))
noncomputable def H1 (n m : Nat) (g h : Nat → Int) (f c : Nat → Option Nat) : List Blk := [.rows false n 1 (ur g), .rows false m 1 (ur h), .one true (pcs f), .one true (Q5.cv c), .one true (cF (area c)), .one true (cF (area c))]
noncomputable def S1 (n m : Nat) (g h : Nat → Int) (f c : Nat → Option Nat) (s : Option Nat) (k : AV) : St := ⟨[.slc 0 0 n, .slc 1 0 m, .junk, .junk, .junk, .ptr 2 0 0, .ptr 3 0 0, .junk, .junk, .ptr 5 0 0, .junk, .flt .f32 s, k] ++ junks 193, H1 n m g h f c⟩
noncomputable def E1 (n m : Nat) (g h : Nat → Int) (f c : Nat → Option Nat) (s : Option Nat) : St := ⟨[.slc 0 0 n, .slc 1 0 m, .junk, .junk, .junk, .ptr 2 0 0, .ptr 3 0 0, .junk, .junk, .junk, .junk, .flt .f32 s] ++ junks 194, H1 n m g h f c⟩
-- whole inks
def fu (q : Nat → Bool) (j k : Nat) : Option Nat := bif Nat.blt k j then (bif q k then some 1065353216 else some 0) else some 0
def fx (q : Nat → Bool) (j : Nat) (x : Option Nat) (k : Nat) : Option Nat := bif Nat.beq k j then x else fu q j k
def kq (q : Nat → Bool) : List AV := [.bool (q 0), .bool (q 1), .bool (q 2), .bool (q 3)]
noncomputable def H2 (n m : Nat) (g h : Nat → Int) (f c : Nat → Option Nat) (q : Nat → Bool) (F : Nat → Option Nat) : List Blk := appH (H1 n m g h f c) [.one true (kq q), .one true (Q5.cv F)]
noncomputable def S2 (n m : Nat) (g h : Nat → Int) (f c : Nat → Option Nat) (q : Nat → Bool) (F : Nat → Option Nat) (k : AV) : St := ⟨[.slc 0 0 n, .slc 1 0 m, .junk, .junk, .junk, .ptr 2 0 0, .ptr 3 0 0, .junk, .junk, .junk, .junk, .junk, .junk, .ptr 6 0 0, .int .i64 0, .ptr 7 0 0, k] ++ junks 189, H2 n m g h f c q F⟩
noncomputable def E2 (n m : Nat) (g h : Nat → Int) (f c : Nat → Option Nat) (q : Nat → Bool) (F : Nat → Option Nat) : St := ⟨[.slc 0 0 n, .slc 1 0 m, .junk, .junk, .junk, .ptr 2 0 0, .ptr 3 0 0, .junk, .junk, .junk, .junk, .junk, .junk, .ptr 6 0 0, .int .i64 0, .ptr 7 0 0] ++ junks 190, H2 n m g h f c q F⟩
-- compared
noncomputable def H3 (n m : Nat) (g h : Nat → Int) (f c : Nat → Option Nat) (q : Nat → Bool) (F so pf a a' d b : Nat → Option Nat) : List Blk := appH (H2 n m g h f c q F) [.one true (cF so), .one true (cF pf), .one true (cF a), .one true (cF a'), .one true (Q5.cv d), .one true (cF b)]
noncomputable def S3 (H : List Blk) (k : AV) : St := ⟨[.junk, .junk, .junk, .junk, .junk, .junk, .junk, .junk, .junk, .junk, .junk, .junk, .junk, .junk, .junk, .junk, .junk, .junk, .junk, .junk, .junk, .junk, .junk, .ptr 11 0 0, .junk, .junk, .junk, .ptr 13 0 0, .junk, k] ++ junks 176, H⟩
noncomputable def bd (a' b : Nat → Option Nat) (w : Nat) : Bool := bif bif fcmp .gtr .f32 (b (0 + w)) (fop .add .f32 (a' (0 + w)) (some 953267991)) then true else fcmp .lss .f32 (a' (0 + w)) (some 0) then true else fcmp .gtr .f32 (a' (0 + w)) (some 1065354055)
noncomputable def E3 (H : List Blk) : St := ⟨junks 206, H⟩
theorem ra0 (n m : Nat) (g h : Nat → Int) (f c : Nat → Option Nat) (s : Option Nat) : evC JS Try.prog (callF Try.prog extK 20 8) noL 20 (loopN Try.prog 5 12) (S1 n m g h f c s (.lit (.int .i64 0))) (kG 2 [0, 1, 5, 6, 9, 11, 12] [0, 1, 5, 6, 11] none none) = some (.node (fcmp .lss .f32 (area c (0 + 0)) (some 0)) (.leaf (.ret, E1 n m g h f c (fop .add .f32 s (area c (0 + 0))))) (.leaf (.nrm, S1 n m g h f c (fop .add .f32 s (area c (0 + 0))) (.int .i64 1))), true) := by kernel_rfl
theorem ra1 (n m : Nat) (g h : Nat → Int) (f c : Nat → Option Nat) (s : Option Nat) : evC JS Try.prog (callF Try.prog extK 20 8) noL 20 (loopN Try.prog 5 12) (S1 n m g h f c s (.lit (.int .i64 1))) (kG 2 [0, 1, 5, 6, 9, 11, 12] [0, 1, 5, 6, 11] none none) = some (.node (fcmp .lss .f32 (area c (0 + 1)) (some 0)) (.leaf (.ret, E1 n m g h f c (fop .add .f32 s (area c (0 + 1))))) (.leaf (.nrm, S1 n m g h f c (fop .add .f32 s (area c (0 + 1))) (.int .i64 2))), true) := by kernel_rfl
theorem ra2 (n m : Nat) (g h : Nat → Int) (f c : Nat → Option Nat) (s : Option Nat) : evC JS Try.prog (callF Try.prog extK 20 8) noL 20 (loopN Try.prog 5 12) (S1 n m g h f c s (.lit (.int .i64 2))) (kG 2 [0, 1, 5, 6, 9, 11, 12] [0, 1, 5, 6, 11] none none) = some (.node (fcmp .lss .f32 (area c (0 + 2)) (some 0)) (.leaf (.ret, E1 n m g h f c (fop .add .f32 s (area c (0 + 2))))) (.leaf (.nrm, S1 n m g h f c (fop .add .f32 s (area c (0 + 2))) (.int .i64 3))), true) := by kernel_rfl
theorem ra3 (n m : Nat) (g h : Nat → Int) (f c : Nat → Option Nat) (s : Option Nat) : evC JS Try.prog (callF Try.prog extK 20 8) noL 20 (loopN Try.prog 5 12) (S1 n m g h f c s (.lit (.int .i64 3))) (kG 2 [0, 1, 5, 6, 9, 11, 12] [0, 1, 5, 6, 11] none none) = some (.node (fcmp .lss .f32 (area c (0 + 3)) (some 0)) (.leaf (.ret, E1 n m g h f c (fop .add .f32 s (area c (0 + 3))))) (.leaf (.nrm, S1 n m g h f c (fop .add .f32 s (area c (0 + 3))) (.int .i64 4))), true) := by kernel_rfl
theorem ra4 (n m : Nat) (g h : Nat → Int) (f c : Nat → Option Nat) (s : Option Nat) : evC JS Try.prog (callF Try.prog extK 20 8) noL 20 (loopN Try.prog 5 12) (S1 n m g h f c s (.lit (.int .i64 4))) (kG 2 [0, 1, 5, 6, 9, 11, 12] [0, 1, 5, 6, 11] none none) = some (.node (fcmp .lss .f32 (area c (0 + 4)) (some 0)) (.leaf (.ret, E1 n m g h f c (fop .add .f32 s (area c (0 + 4))))) (.leaf (.nrm, S1 n m g h f c (fop .add .f32 s (area c (0 + 4))) (.int .i64 5))), true) := by kernel_rfl
theorem ra5 (n m : Nat) (g h : Nat → Int) (f c : Nat → Option Nat) (s : Option Nat) : evC JS Try.prog (callF Try.prog extK 20 8) noL 20 (loopN Try.prog 5 12) (S1 n m g h f c s (.lit (.int .i64 5))) (kG 2 [0, 1, 5, 6, 9, 11, 12] [0, 1, 5, 6, 11] none none) = some (.node (fcmp .lss .f32 (area c (0 + 5)) (some 0)) (.leaf (.ret, E1 n m g h f c (fop .add .f32 s (area c (0 + 5))))) (.leaf (.nrm, S1 n m g h f c (fop .add .f32 s (area c (0 + 5))) (.int .i64 6))), true) := by kernel_rfl
theorem ra6 (n m : Nat) (g h : Nat → Int) (f c : Nat → Option Nat) (s : Option Nat) : evC JS Try.prog (callF Try.prog extK 20 8) noL 20 (loopN Try.prog 5 12) (S1 n m g h f c s (.lit (.int .i64 6))) (kG 2 [0, 1, 5, 6, 9, 11, 12] [0, 1, 5, 6, 11] none none) = some (.node (fcmp .lss .f32 (area c (0 + 6)) (some 0)) (.leaf (.ret, E1 n m g h f c (fop .add .f32 s (area c (0 + 6))))) (.leaf (.nrm, S1 n m g h f c (fop .add .f32 s (area c (0 + 6))) (.int .i64 7))), true) := by kernel_rfl
theorem ra7 (n m : Nat) (g h : Nat → Int) (f c : Nat → Option Nat) (s : Option Nat) : evC JS Try.prog (callF Try.prog extK 20 8) noL 20 (loopN Try.prog 5 12) (S1 n m g h f c s (.lit (.int .i64 7))) (kG 2 [0, 1, 5, 6, 9, 11, 12] [0, 1, 5, 6, 11] none none) = some (.node (fcmp .lss .f32 (area c (0 + 7)) (some 0)) (.leaf (.ret, E1 n m g h f c (fop .add .f32 s (area c (0 + 7))))) (.leaf (.nrm, S1 n m g h f c (fop .add .f32 s (area c (0 + 7))) (.int .i64 8))), true) := by kernel_rfl
theorem ra8 (n m : Nat) (g h : Nat → Int) (f c : Nat → Option Nat) (s : Option Nat) : evC JS Try.prog (callF Try.prog extK 20 8) noL 20 (loopN Try.prog 5 12) (S1 n m g h f c s (.lit (.int .i64 8))) (kG 2 [0, 1, 5, 6, 9, 11, 12] [0, 1, 5, 6, 11] none none) = some (.node (fcmp .lss .f32 (area c (0 + 8)) (some 0)) (.leaf (.ret, E1 n m g h f c (fop .add .f32 s (area c (0 + 8))))) (.leaf (.nrm, S1 n m g h f c (fop .add .f32 s (area c (0 + 8))) (.int .i64 9))), true) := by kernel_rfl
theorem ra9 (n m : Nat) (g h : Nat → Int) (f c : Nat → Option Nat) (s : Option Nat) : evC JS Try.prog (callF Try.prog extK 20 8) noL 20 (loopN Try.prog 5 12) (S1 n m g h f c s (.lit (.int .i64 9))) (kG 2 [0, 1, 5, 6, 9, 11, 12] [0, 1, 5, 6, 11] none none) = some (.node (fcmp .lss .f32 (area c (0 + 9)) (some 0)) (.leaf (.ret, E1 n m g h f c (fop .add .f32 s (area c (0 + 9))))) (.leaf (.nrm, S1 n m g h f c (fop .add .f32 s (area c (0 + 9))) (.int .i64 10))), true) := by kernel_rfl
theorem ra10 (n m : Nat) (g h : Nat → Int) (f c : Nat → Option Nat) (s : Option Nat) : evC JS Try.prog (callF Try.prog extK 20 8) noL 20 (loopN Try.prog 5 12) (S1 n m g h f c s (.lit (.int .i64 10))) (kG 2 [0, 1, 5, 6, 9, 11, 12] [0, 1, 5, 6, 11] none none) = some (.node (fcmp .lss .f32 (area c (0 + 10)) (some 0)) (.leaf (.ret, E1 n m g h f c (fop .add .f32 s (area c (0 + 10))))) (.leaf (.nrm, S1 n m g h f c (fop .add .f32 s (area c (0 + 10))) (.int .i64 11))), true) := by kernel_rfl
theorem ra11 (n m : Nat) (g h : Nat → Int) (f c : Nat → Option Nat) (s : Option Nat) : evC JS Try.prog (callF Try.prog extK 20 8) noL 20 (loopN Try.prog 5 12) (S1 n m g h f c s (.lit (.int .i64 11))) (kG 2 [0, 1, 5, 6, 9, 11, 12] [0, 1, 5, 6, 11] none none) = some (.node (fcmp .lss .f32 (area c (0 + 11)) (some 0)) (.leaf (.ret, E1 n m g h f c (fop .add .f32 s (area c (0 + 11))))) (.leaf (.nrm, S1 n m g h f c (fop .add .f32 s (area c (0 + 11))) (.int .i64 12))), true) := by kernel_rfl
theorem ra12 (n m : Nat) (g h : Nat → Int) (f c : Nat → Option Nat) (s : Option Nat) : evC JS Try.prog (callF Try.prog extK 20 8) noL 20 (loopN Try.prog 5 12) (S1 n m g h f c s (.lit (.int .i64 12))) (kG 2 [0, 1, 5, 6, 9, 11, 12] [0, 1, 5, 6, 11] none none) = some (.node (fcmp .lss .f32 (area c (0 + 12)) (some 0)) (.leaf (.ret, E1 n m g h f c (fop .add .f32 s (area c (0 + 12))))) (.leaf (.nrm, S1 n m g h f c (fop .add .f32 s (area c (0 + 12))) (.int .i64 13))), true) := by kernel_rfl
theorem ra13 (n m : Nat) (g h : Nat → Int) (f c : Nat → Option Nat) (s : Option Nat) : evC JS Try.prog (callF Try.prog extK 20 8) noL 20 (loopN Try.prog 5 12) (S1 n m g h f c s (.lit (.int .i64 13))) (kG 2 [0, 1, 5, 6, 9, 11, 12] [0, 1, 5, 6, 11] none none) = some (.node (fcmp .lss .f32 (area c (0 + 13)) (some 0)) (.leaf (.ret, E1 n m g h f c (fop .add .f32 s (area c (0 + 13))))) (.leaf (.nrm, S1 n m g h f c (fop .add .f32 s (area c (0 + 13))) (.int .i64 14))), true) := by kernel_rfl
theorem ra14 (n m : Nat) (g h : Nat → Int) (f c : Nat → Option Nat) (s : Option Nat) : evC JS Try.prog (callF Try.prog extK 20 8) noL 20 (loopN Try.prog 5 12) (S1 n m g h f c s (.lit (.int .i64 14))) (kG 2 [0, 1, 5, 6, 9, 11, 12] [0, 1, 5, 6, 11] none none) = some (.node (fcmp .lss .f32 (area c (0 + 14)) (some 0)) (.leaf (.ret, E1 n m g h f c (fop .add .f32 s (area c (0 + 14))))) (.leaf (.nrm, S1 n m g h f c (fop .add .f32 s (area c (0 + 14))) (.int .i64 15))), true) := by kernel_rfl
theorem ra15 (n m : Nat) (g h : Nat → Int) (f c : Nat → Option Nat) (s : Option Nat) : evC JS Try.prog (callF Try.prog extK 20 8) noL 20 (loopN Try.prog 5 12) (S1 n m g h f c s (.lit (.int .i64 15))) (kG 2 [0, 1, 5, 6, 9, 11, 12] [0, 1, 5, 6, 11] none none) = some (.node (fcmp .lss .f32 (area c (0 + 15)) (some 0)) (.leaf (.ret, E1 n m g h f c (fop .add .f32 s (area c (0 + 15))))) (.leaf (.nrm, S1 n m g h f c (fop .add .f32 s (area c (0 + 15))) (.int .i64 16))), true) := by kernel_rfl
theorem ra16 (n m : Nat) (g h : Nat → Int) (f c : Nat → Option Nat) (s : Option Nat) : evC JS Try.prog (callF Try.prog extK 20 8) noL 20 (loopN Try.prog 5 12) (S1 n m g h f c s (.lit (.int .i64 16))) (kG 2 [0, 1, 5, 6, 9, 11, 12] [0, 1, 5, 6, 11] none none) = some (.leaf (.ext 0, E1 n m g h f c s), true) := by kernel_rfl
theorem rb0 (n m : Nat) (g h : Nat → Int) (f c : Nat → Option Nat) (q : Nat → Bool) : evC JS Try.prog (callF Try.prog extK 20 8) noL 20 (loopN Try.prog 5 22) (S2 n m g h f c q (fu q 0) (.lit (.int .i64 0))) (kG 2 [0, 1, 5, 6, 13, 14, 15, 16] [0, 1, 5, 6, 13, 14, 15] none none) = some (.node (q 0) (.leaf (.nrm, S2 n m g h f c q (fx q 0 (some 1065353216)) (.int .i64 1))) (.leaf (.nrm, S2 n m g h f c q (fx q 0 (some 0)) (.int .i64 1))), true) := by kernel_rfl
theorem rb1 (n m : Nat) (g h : Nat → Int) (f c : Nat → Option Nat) (q : Nat → Bool) : evC JS Try.prog (callF Try.prog extK 20 8) noL 20 (loopN Try.prog 5 22) (S2 n m g h f c q (fu q 1) (.lit (.int .i64 1))) (kG 2 [0, 1, 5, 6, 13, 14, 15, 16] [0, 1, 5, 6, 13, 14, 15] none none) = some (.node (q 1) (.leaf (.nrm, S2 n m g h f c q (fx q 1 (some 1065353216)) (.int .i64 2))) (.leaf (.nrm, S2 n m g h f c q (fx q 1 (some 0)) (.int .i64 2))), true) := by kernel_rfl
theorem rb2 (n m : Nat) (g h : Nat → Int) (f c : Nat → Option Nat) (q : Nat → Bool) : evC JS Try.prog (callF Try.prog extK 20 8) noL 20 (loopN Try.prog 5 22) (S2 n m g h f c q (fu q 2) (.lit (.int .i64 2))) (kG 2 [0, 1, 5, 6, 13, 14, 15, 16] [0, 1, 5, 6, 13, 14, 15] none none) = some (.node (q 2) (.leaf (.nrm, S2 n m g h f c q (fx q 2 (some 1065353216)) (.int .i64 3))) (.leaf (.nrm, S2 n m g h f c q (fx q 2 (some 0)) (.int .i64 3))), true) := by kernel_rfl
theorem rb3 (n m : Nat) (g h : Nat → Int) (f c : Nat → Option Nat) (q : Nat → Bool) : evC JS Try.prog (callF Try.prog extK 20 8) noL 20 (loopN Try.prog 5 22) (S2 n m g h f c q (fu q 3) (.lit (.int .i64 3))) (kG 2 [0, 1, 5, 6, 13, 14, 15, 16] [0, 1, 5, 6, 13, 14, 15] none none) = some (.node (q 3) (.leaf (.nrm, S2 n m g h f c q (fx q 3 (some 1065353216)) (.int .i64 4))) (.leaf (.nrm, S2 n m g h f c q (fx q 3 (some 0)) (.int .i64 4))), true) := by kernel_rfl
theorem rb4 (n m : Nat) (g h : Nat → Int) (f c : Nat → Option Nat) (q : Nat → Bool) : evC JS Try.prog (callF Try.prog extK 20 8) noL 20 (loopN Try.prog 5 22) (S2 n m g h f c q (fu q 4) (.lit (.int .i64 4))) (kG 2 [0, 1, 5, 6, 13, 14, 15, 16] [0, 1, 5, 6, 13, 14, 15] none none) = some (.leaf (.ext 2, E2 n m g h f c q (fu q 4)), true) := by kernel_rfl
theorem rc0 (n m : Nat) (g h : Nat → Int) (f c : Nat → Option Nat) (q : Nat → Bool) (F so pf a a' d b : Nat → Option Nat) : evC JS Try.prog (callF Try.prog extK 20 8) noL 20 (loopN Try.prog 5 41) (S3 (H3 n m g h f c q F so pf a a' d b) (.lit (.int .i64 0))) (kG 2 [23, 27, 29] [] none none) = some (.node (bd a' b 0) (.leaf (.ret, E3 (H3 n m g h f c q F so pf a a' d b))) (.leaf (.nrm, S3 (H3 n m g h f c q F so pf a a' d b) (.int .i64 1))), true) := by kernel_rfl
theorem rc1 (n m : Nat) (g h : Nat → Int) (f c : Nat → Option Nat) (q : Nat → Bool) (F so pf a a' d b : Nat → Option Nat) : evC JS Try.prog (callF Try.prog extK 20 8) noL 20 (loopN Try.prog 5 41) (S3 (H3 n m g h f c q F so pf a a' d b) (.lit (.int .i64 1))) (kG 2 [23, 27, 29] [] none none) = some (.node (bd a' b 1) (.leaf (.ret, E3 (H3 n m g h f c q F so pf a a' d b))) (.leaf (.nrm, S3 (H3 n m g h f c q F so pf a a' d b) (.int .i64 2))), true) := by kernel_rfl
theorem rc2 (n m : Nat) (g h : Nat → Int) (f c : Nat → Option Nat) (q : Nat → Bool) (F so pf a a' d b : Nat → Option Nat) : evC JS Try.prog (callF Try.prog extK 20 8) noL 20 (loopN Try.prog 5 41) (S3 (H3 n m g h f c q F so pf a a' d b) (.lit (.int .i64 2))) (kG 2 [23, 27, 29] [] none none) = some (.node (bd a' b 2) (.leaf (.ret, E3 (H3 n m g h f c q F so pf a a' d b))) (.leaf (.nrm, S3 (H3 n m g h f c q F so pf a a' d b) (.int .i64 3))), true) := by kernel_rfl
theorem rc3 (n m : Nat) (g h : Nat → Int) (f c : Nat → Option Nat) (q : Nat → Bool) (F so pf a a' d b : Nat → Option Nat) : evC JS Try.prog (callF Try.prog extK 20 8) noL 20 (loopN Try.prog 5 41) (S3 (H3 n m g h f c q F so pf a a' d b) (.lit (.int .i64 3))) (kG 2 [23, 27, 29] [] none none) = some (.node (bd a' b 3) (.leaf (.ret, E3 (H3 n m g h f c q F so pf a a' d b))) (.leaf (.nrm, S3 (H3 n m g h f c q F so pf a a' d b) (.int .i64 4))), true) := by kernel_rfl
theorem rc4 (n m : Nat) (g h : Nat → Int) (f c : Nat → Option Nat) (q : Nat → Bool) (F so pf a a' d b : Nat → Option Nat) : evC JS Try.prog (callF Try.prog extK 20 8) noL 20 (loopN Try.prog 5 41) (S3 (H3 n m g h f c q F so pf a a' d b) (.lit (.int .i64 4))) (kG 2 [23, 27, 29] [] none none) = some (.node (bd a' b 4) (.leaf (.ret, E3 (H3 n m g h f c q F so pf a a' d b))) (.leaf (.nrm, S3 (H3 n m g h f c q F so pf a a' d b) (.int .i64 5))), true) := by kernel_rfl
theorem rc5 (n m : Nat) (g h : Nat → Int) (f c : Nat → Option Nat) (q : Nat → Bool) (F so pf a a' d b : Nat → Option Nat) : evC JS Try.prog (callF Try.prog extK 20 8) noL 20 (loopN Try.prog 5 41) (S3 (H3 n m g h f c q F so pf a a' d b) (.lit (.int .i64 5))) (kG 2 [23, 27, 29] [] none none) = some (.node (bd a' b 5) (.leaf (.ret, E3 (H3 n m g h f c q F so pf a a' d b))) (.leaf (.nrm, S3 (H3 n m g h f c q F so pf a a' d b) (.int .i64 6))), true) := by kernel_rfl
theorem rc6 (n m : Nat) (g h : Nat → Int) (f c : Nat → Option Nat) (q : Nat → Bool) (F so pf a a' d b : Nat → Option Nat) : evC JS Try.prog (callF Try.prog extK 20 8) noL 20 (loopN Try.prog 5 41) (S3 (H3 n m g h f c q F so pf a a' d b) (.lit (.int .i64 6))) (kG 2 [23, 27, 29] [] none none) = some (.node (bd a' b 6) (.leaf (.ret, E3 (H3 n m g h f c q F so pf a a' d b))) (.leaf (.nrm, S3 (H3 n m g h f c q F so pf a a' d b) (.int .i64 7))), true) := by kernel_rfl
theorem rc7 (n m : Nat) (g h : Nat → Int) (f c : Nat → Option Nat) (q : Nat → Bool) (F so pf a a' d b : Nat → Option Nat) : evC JS Try.prog (callF Try.prog extK 20 8) noL 20 (loopN Try.prog 5 41) (S3 (H3 n m g h f c q F so pf a a' d b) (.lit (.int .i64 7))) (kG 2 [23, 27, 29] [] none none) = some (.node (bd a' b 7) (.leaf (.ret, E3 (H3 n m g h f c q F so pf a a' d b))) (.leaf (.nrm, S3 (H3 n m g h f c q F so pf a a' d b) (.int .i64 8))), true) := by kernel_rfl
theorem rc8 (n m : Nat) (g h : Nat → Int) (f c : Nat → Option Nat) (q : Nat → Bool) (F so pf a a' d b : Nat → Option Nat) : evC JS Try.prog (callF Try.prog extK 20 8) noL 20 (loopN Try.prog 5 41) (S3 (H3 n m g h f c q F so pf a a' d b) (.lit (.int .i64 8))) (kG 2 [23, 27, 29] [] none none) = some (.node (bd a' b 8) (.leaf (.ret, E3 (H3 n m g h f c q F so pf a a' d b))) (.leaf (.nrm, S3 (H3 n m g h f c q F so pf a a' d b) (.int .i64 9))), true) := by kernel_rfl
theorem rc9 (n m : Nat) (g h : Nat → Int) (f c : Nat → Option Nat) (q : Nat → Bool) (F so pf a a' d b : Nat → Option Nat) : evC JS Try.prog (callF Try.prog extK 20 8) noL 20 (loopN Try.prog 5 41) (S3 (H3 n m g h f c q F so pf a a' d b) (.lit (.int .i64 9))) (kG 2 [23, 27, 29] [] none none) = some (.node (bd a' b 9) (.leaf (.ret, E3 (H3 n m g h f c q F so pf a a' d b))) (.leaf (.nrm, S3 (H3 n m g h f c q F so pf a a' d b) (.int .i64 10))), true) := by kernel_rfl
theorem rc10 (n m : Nat) (g h : Nat → Int) (f c : Nat → Option Nat) (q : Nat → Bool) (F so pf a a' d b : Nat → Option Nat) : evC JS Try.prog (callF Try.prog extK 20 8) noL 20 (loopN Try.prog 5 41) (S3 (H3 n m g h f c q F so pf a a' d b) (.lit (.int .i64 10))) (kG 2 [23, 27, 29] [] none none) = some (.node (bd a' b 10) (.leaf (.ret, E3 (H3 n m g h f c q F so pf a a' d b))) (.leaf (.nrm, S3 (H3 n m g h f c q F so pf a a' d b) (.int .i64 11))), true) := by kernel_rfl
theorem rc11 (n m : Nat) (g h : Nat → Int) (f c : Nat → Option Nat) (q : Nat → Bool) (F so pf a a' d b : Nat → Option Nat) : evC JS Try.prog (callF Try.prog extK 20 8) noL 20 (loopN Try.prog 5 41) (S3 (H3 n m g h f c q F so pf a a' d b) (.lit (.int .i64 11))) (kG 2 [23, 27, 29] [] none none) = some (.node (bd a' b 11) (.leaf (.ret, E3 (H3 n m g h f c q F so pf a a' d b))) (.leaf (.nrm, S3 (H3 n m g h f c q F so pf a a' d b) (.int .i64 12))), true) := by kernel_rfl
theorem rc12 (n m : Nat) (g h : Nat → Int) (f c : Nat → Option Nat) (q : Nat → Bool) (F so pf a a' d b : Nat → Option Nat) : evC JS Try.prog (callF Try.prog extK 20 8) noL 20 (loopN Try.prog 5 41) (S3 (H3 n m g h f c q F so pf a a' d b) (.lit (.int .i64 12))) (kG 2 [23, 27, 29] [] none none) = some (.node (bd a' b 12) (.leaf (.ret, E3 (H3 n m g h f c q F so pf a a' d b))) (.leaf (.nrm, S3 (H3 n m g h f c q F so pf a a' d b) (.int .i64 13))), true) := by kernel_rfl
theorem rc13 (n m : Nat) (g h : Nat → Int) (f c : Nat → Option Nat) (q : Nat → Bool) (F so pf a a' d b : Nat → Option Nat) : evC JS Try.prog (callF Try.prog extK 20 8) noL 20 (loopN Try.prog 5 41) (S3 (H3 n m g h f c q F so pf a a' d b) (.lit (.int .i64 13))) (kG 2 [23, 27, 29] [] none none) = some (.node (bd a' b 13) (.leaf (.ret, E3 (H3 n m g h f c q F so pf a a' d b))) (.leaf (.nrm, S3 (H3 n m g h f c q F so pf a a' d b) (.int .i64 14))), true) := by kernel_rfl
theorem rc14 (n m : Nat) (g h : Nat → Int) (f c : Nat → Option Nat) (q : Nat → Bool) (F so pf a a' d b : Nat → Option Nat) : evC JS Try.prog (callF Try.prog extK 20 8) noL 20 (loopN Try.prog 5 41) (S3 (H3 n m g h f c q F so pf a a' d b) (.lit (.int .i64 14))) (kG 2 [23, 27, 29] [] none none) = some (.node (bd a' b 14) (.leaf (.ret, E3 (H3 n m g h f c q F so pf a a' d b))) (.leaf (.nrm, S3 (H3 n m g h f c q F so pf a a' d b) (.int .i64 15))), true) := by kernel_rfl
theorem rc15 (n m : Nat) (g h : Nat → Int) (f c : Nat → Option Nat) (q : Nat → Bool) (F so pf a a' d b : Nat → Option Nat) : evC JS Try.prog (callF Try.prog extK 20 8) noL 20 (loopN Try.prog 5 41) (S3 (H3 n m g h f c q F so pf a a' d b) (.lit (.int .i64 15))) (kG 2 [23, 27, 29] [] none none) = some (.node (bd a' b 15) (.leaf (.ret, E3 (H3 n m g h f c q F so pf a a' d b))) (.leaf (.nrm, S3 (H3 n m g h f c q F so pf a a' d b) (.int .i64 16))), true) := by kernel_rfl
theorem rc16 (n m : Nat) (g h : Nat → Int) (f c : Nat → Option Nat) (q : Nat → Bool) (F so pf a a' d b : Nat → Option Nat) : evC JS Try.prog (callF Try.prog extK 20 8) noL 20 (loopN Try.prog 5 41) (S3 (H3 n m g h f c q F so pf a a' d b) (.lit (.int .i64 16))) (kG 2 [23, 27, 29] [] none none) = some (.leaf (.ext 4, E3 (H3 n m g h f c q F so pf a a' d b)), true) := by kernel_rfl
end Go.Proofs.Ytpnjimpiphbcfaa.Y5
set_option linter.unusedVariables false
set_option linter.unusedSimpArgs false
set_option exponentiation.threshold 3000
set_option maxRecDepth 100000
namespace Go.Proofs.Ytpnjimpiphbcfaa.Y6
open Go Go.Sx Go.Sx.R0 Go.Sx.C5 Go.Sx.C1 Go.Sx.Fl Go.Sx.Ink Ieee Go.Proofs.Ytpnjimpiphbcfaa.J1 Go.Proofs.Ytpnjimpiphbcfaa.J2 Go.Proofs.Ytpnjimpiphbcfaa.J4 Go.Proofs.Ytpnjimpiphbcfaa.J5 Go.Proofs.Ytpnjimpiphbcfaa.V5 Go.Proofs.Ytpnjimpiphbcfaa.X5 Go.Proofs.Ytpnjimpiphbcfaa.Y5

-- the loops
theorem loop1 (n m : Nat) (g h : Nat → Int) (f c : Nat → Option Nat) (hc : ∀ k, k < 16 → fcmp .lss .f32 (area c (0 + k)) (some 0) = false) : LoopOk Try.prog 2 (loopN Try.prog 5 12) (S1 n m g h f c (some 0) (.int .i64 0)) (.leaf (.ext 0, E1 n m g h f c (sumN (area c) 16))) := by
  have key := loop_all (callF_ok sxApart sxMixed extK_ok (N := 20) 8) sxMixed (body := loopN Try.prog 5 12) (L := noL) (N := 20) (B := 2) (fun _ _ _ _ h => by cases h) [0, 1, 5, 6, 9, 11, 12] [0, 1, 5, 6, 11] none none
    (fun k => S1 n m g h f c (sumN (area c) k) (.lit (.int .i64 (Int.ofNat k)))) 16 (.ext 0, E1 n m g h f c (sumN (area c) 16)) (fun h => by cases h)
    (fun k hk => by
      have hk' := hc k hk
      rcases k with _ | _ | _ | _ | _ | _ | _ | _ | _ | _ | _ | _ | _ | _ | _ | _ | k
      · exact ⟨_, ra0 n m g h f c _, by show XLe (Tr.get (.node (fcmp .lss .f32 (area c (0 + 0)) (some 0)) _ _)) _; rw [show fcmp .lss .f32 (area c (0 + 0)) (some 0) = false from hk']; exact ⟨rfl, rfl, HLe.refl _⟩⟩
      · exact ⟨_, ra1 n m g h f c _, by show XLe (Tr.get (.node (fcmp .lss .f32 (area c (0 + 1)) (some 0)) _ _)) _; rw [show fcmp .lss .f32 (area c (0 + 1)) (some 0) = false from hk']; exact ⟨rfl, rfl, HLe.refl _⟩⟩
      · exact ⟨_, ra2 n m g h f c _, by show XLe (Tr.get (.node (fcmp .lss .f32 (area c (0 + 2)) (some 0)) _ _)) _; rw [show fcmp .lss .f32 (area c (0 + 2)) (some 0) = false from hk']; exact ⟨rfl, rfl, HLe.refl _⟩⟩
      · exact ⟨_, ra3 n m g h f c _, by show XLe (Tr.get (.node (fcmp .lss .f32 (area c (0 + 3)) (some 0)) _ _)) _; rw [show fcmp .lss .f32 (area c (0 + 3)) (some 0) = false from hk']; exact ⟨rfl, rfl, HLe.refl _⟩⟩
      · exact ⟨_, ra4 n m g h f c _, by show XLe (Tr.get (.node (fcmp .lss .f32 (area c (0 + 4)) (some 0)) _ _)) _; rw [show fcmp .lss .f32 (area c (0 + 4)) (some 0) = false from hk']; exact ⟨rfl, rfl, HLe.refl _⟩⟩
      · exact ⟨_, ra5 n m g h f c _, by show XLe (Tr.get (.node (fcmp .lss .f32 (area c (0 + 5)) (some 0)) _ _)) _; rw [show fcmp .lss .f32 (area c (0 + 5)) (some 0) = false from hk']; exact ⟨rfl, rfl, HLe.refl _⟩⟩
      · exact ⟨_, ra6 n m g h f c _, by show XLe (Tr.get (.node (fcmp .lss .f32 (area c (0 + 6)) (some 0)) _ _)) _; rw [show fcmp .lss .f32 (area c (0 + 6)) (some 0) = false from hk']; exact ⟨rfl, rfl, HLe.refl _⟩⟩
      · exact ⟨_, ra7 n m g h f c _, by show XLe (Tr.get (.node (fcmp .lss .f32 (area c (0 + 7)) (some 0)) _ _)) _; rw [show fcmp .lss .f32 (area c (0 + 7)) (some 0) = false from hk']; exact ⟨rfl, rfl, HLe.refl _⟩⟩
      · exact ⟨_, ra8 n m g h f c _, by show XLe (Tr.get (.node (fcmp .lss .f32 (area c (0 + 8)) (some 0)) _ _)) _; rw [show fcmp .lss .f32 (area c (0 + 8)) (some 0) = false from hk']; exact ⟨rfl, rfl, HLe.refl _⟩⟩
      · exact ⟨_, ra9 n m g h f c _, by show XLe (Tr.get (.node (fcmp .lss .f32 (area c (0 + 9)) (some 0)) _ _)) _; rw [show fcmp .lss .f32 (area c (0 + 9)) (some 0) = false from hk']; exact ⟨rfl, rfl, HLe.refl _⟩⟩
      · exact ⟨_, ra10 n m g h f c _, by show XLe (Tr.get (.node (fcmp .lss .f32 (area c (0 + 10)) (some 0)) _ _)) _; rw [show fcmp .lss .f32 (area c (0 + 10)) (some 0) = false from hk']; exact ⟨rfl, rfl, HLe.refl _⟩⟩
      · exact ⟨_, ra11 n m g h f c _, by show XLe (Tr.get (.node (fcmp .lss .f32 (area c (0 + 11)) (some 0)) _ _)) _; rw [show fcmp .lss .f32 (area c (0 + 11)) (some 0) = false from hk']; exact ⟨rfl, rfl, HLe.refl _⟩⟩
      · exact ⟨_, ra12 n m g h f c _, by show XLe (Tr.get (.node (fcmp .lss .f32 (area c (0 + 12)) (some 0)) _ _)) _; rw [show fcmp .lss .f32 (area c (0 + 12)) (some 0) = false from hk']; exact ⟨rfl, rfl, HLe.refl _⟩⟩
      · exact ⟨_, ra13 n m g h f c _, by show XLe (Tr.get (.node (fcmp .lss .f32 (area c (0 + 13)) (some 0)) _ _)) _; rw [show fcmp .lss .f32 (area c (0 + 13)) (some 0) = false from hk']; exact ⟨rfl, rfl, HLe.refl _⟩⟩
      · exact ⟨_, ra14 n m g h f c _, by show XLe (Tr.get (.node (fcmp .lss .f32 (area c (0 + 14)) (some 0)) _ _)) _; rw [show fcmp .lss .f32 (area c (0 + 14)) (some 0) = false from hk']; exact ⟨rfl, rfl, HLe.refl _⟩⟩
      · exact ⟨_, ra15 n m g h f c _, by show XLe (Tr.get (.node (fcmp .lss .f32 (area c (0 + 15)) (some 0)) _ _)) _; rw [show fcmp .lss .f32 (area c (0 + 15)) (some 0) = false from hk']; exact ⟨rfl, rfl, HLe.refl _⟩⟩
      · omega)
    ⟨_, ra16 n m g h f c _, XLe.refl _⟩
  exact key.from ⟨rfl, HLe.refl _⟩
theorem loop2 (n m : Nat) (g h : Nat → Int) (f c : Nat → Option Nat) (q : Nat → Bool) : LoopOk Try.prog 2 (loopN Try.prog 5 22) (S2 n m g h f c q (fu q 0) (.int .i64 0)) (.leaf (.ext 2, E2 n m g h f c q (fu q 4))) := by
  have key := loop_all (callF_ok sxApart sxMixed extK_ok (N := 20) 8) sxMixed (body := loopN Try.prog 5 22) (L := noL) (N := 20) (B := 2) (fun _ _ _ _ h => by cases h) [0, 1, 5, 6, 13, 14, 15, 16] [0, 1, 5, 6, 13, 14, 15] none none
    (fun k => S2 n m g h f c q (fu q k) (.lit (.int .i64 (Int.ofNat k)))) 4 (.ext 2, E2 n m g h f c q (fu q 4)) (fun h => by cases h)
    (fun k hk => by
      rcases k with _ | _ | _ | _ | k
      · refine ⟨_, rb0 n m g h f c q, ?_⟩
        have e1 : q 0 = true → fx q 0 (some 1065353216) = fu q 1 := fun hq => funext fun j => by
          unfold fx fu
          by_cases hj : j = 0
          · subst hj; rw [hq]; rfl
          · rw [beq_ne hj]; by_cases h2 : j < 0
            · rw [blt_lt h2, blt_lt (show j < 1 by omega)]; rfl
            · rw [blt_ge (show 0 ≤ j by omega), blt_ge (show 1 ≤ j by omega)]; rfl
        have e0 : q 0 = false → fx q 0 (some 0) = fu q 1 := fun hq => funext fun j => by
          unfold fx fu
          by_cases hj : j = 0
          · subst hj; rw [hq]; rfl
          · rw [beq_ne hj]; by_cases h2 : j < 0
            · rw [blt_lt h2, blt_lt (show j < 1 by omega)]; rfl
            · rw [blt_ge (show 0 ≤ j by omega), blt_ge (show 1 ≤ j by omega)]; rfl
        cases hq : q 0
        · show XLe (.nrm, S2 n m g h f c q (fx q 0 (some 0)) (.int .i64 1)) _
          rw [e0 hq]; exact ⟨rfl, rfl, HLe.refl _⟩
        · show XLe (.nrm, S2 n m g h f c q (fx q 0 (some 1065353216)) (.int .i64 1)) _
          rw [e1 hq]; exact ⟨rfl, rfl, HLe.refl _⟩
      · refine ⟨_, rb1 n m g h f c q, ?_⟩
        have e1 : q 1 = true → fx q 1 (some 1065353216) = fu q 2 := fun hq => funext fun j => by
          unfold fx fu
          by_cases hj : j = 1
          · subst hj; rw [hq]; rfl
          · rw [beq_ne hj]; by_cases h2 : j < 1
            · rw [blt_lt h2, blt_lt (show j < 2 by omega)]; rfl
            · rw [blt_ge (show 1 ≤ j by omega), blt_ge (show 2 ≤ j by omega)]; rfl
        have e0 : q 1 = false → fx q 1 (some 0) = fu q 2 := fun hq => funext fun j => by
          unfold fx fu
          by_cases hj : j = 1
          · subst hj; rw [hq]; rfl
          · rw [beq_ne hj]; by_cases h2 : j < 1
            · rw [blt_lt h2, blt_lt (show j < 2 by omega)]; rfl
            · rw [blt_ge (show 1 ≤ j by omega), blt_ge (show 2 ≤ j by omega)]; rfl
        cases hq : q 1
        · show XLe (.nrm, S2 n m g h f c q (fx q 1 (some 0)) (.int .i64 2)) _
          rw [e0 hq]; exact ⟨rfl, rfl, HLe.refl _⟩
        · show XLe (.nrm, S2 n m g h f c q (fx q 1 (some 1065353216)) (.int .i64 2)) _
          rw [e1 hq]; exact ⟨rfl, rfl, HLe.refl _⟩
      · refine ⟨_, rb2 n m g h f c q, ?_⟩
        have e1 : q 2 = true → fx q 2 (some 1065353216) = fu q 3 := fun hq => funext fun j => by
          unfold fx fu
          by_cases hj : j = 2
          · subst hj; rw [hq]; rfl
          · rw [beq_ne hj]; by_cases h2 : j < 2
            · rw [blt_lt h2, blt_lt (show j < 3 by omega)]; rfl
            · rw [blt_ge (show 2 ≤ j by omega), blt_ge (show 3 ≤ j by omega)]; rfl
        have e0 : q 2 = false → fx q 2 (some 0) = fu q 3 := fun hq => funext fun j => by
          unfold fx fu
          by_cases hj : j = 2
          · subst hj; rw [hq]; rfl
          · rw [beq_ne hj]; by_cases h2 : j < 2
            · rw [blt_lt h2, blt_lt (show j < 3 by omega)]; rfl
            · rw [blt_ge (show 2 ≤ j by omega), blt_ge (show 3 ≤ j by omega)]; rfl
        cases hq : q 2
        · show XLe (.nrm, S2 n m g h f c q (fx q 2 (some 0)) (.int .i64 3)) _
          rw [e0 hq]; exact ⟨rfl, rfl, HLe.refl _⟩
        · show XLe (.nrm, S2 n m g h f c q (fx q 2 (some 1065353216)) (.int .i64 3)) _
          rw [e1 hq]; exact ⟨rfl, rfl, HLe.refl _⟩
      · refine ⟨_, rb3 n m g h f c q, ?_⟩
        have e1 : q 3 = true → fx q 3 (some 1065353216) = fu q 4 := fun hq => funext fun j => by
          unfold fx fu
          by_cases hj : j = 3
          · subst hj; rw [hq]; rfl
          · rw [beq_ne hj]; by_cases h2 : j < 3
            · rw [blt_lt h2, blt_lt (show j < 4 by omega)]; rfl
            · rw [blt_ge (show 3 ≤ j by omega), blt_ge (show 4 ≤ j by omega)]; rfl
        have e0 : q 3 = false → fx q 3 (some 0) = fu q 4 := fun hq => funext fun j => by
          unfold fx fu
          by_cases hj : j = 3
          · subst hj; rw [hq]; rfl
          · rw [beq_ne hj]; by_cases h2 : j < 3
            · rw [blt_lt h2, blt_lt (show j < 4 by omega)]; rfl
            · rw [blt_ge (show 3 ≤ j by omega), blt_ge (show 4 ≤ j by omega)]; rfl
        cases hq : q 3
        · show XLe (.nrm, S2 n m g h f c q (fx q 3 (some 0)) (.int .i64 4)) _
          rw [e0 hq]; exact ⟨rfl, rfl, HLe.refl _⟩
        · show XLe (.nrm, S2 n m g h f c q (fx q 3 (some 1065353216)) (.int .i64 4)) _
          rw [e1 hq]; exact ⟨rfl, rfl, HLe.refl _⟩
      · omega)
    ⟨_, rb4 n m g h f c q, XLe.refl _⟩
  exact key.from ⟨rfl, HLe.refl _⟩
theorem loop3 (n m : Nat) (g h : Nat → Int) (f c : Nat → Option Nat) (q : Nat → Bool) (F so pf a a' d b : Nat → Option Nat) (hb : ∀ k, k < 16 → bd a' b k = false) : LoopOk Try.prog 2 (loopN Try.prog 5 41) (S3 (H3 n m g h f c q F so pf a a' d b) (.int .i64 0)) (.leaf (.ext 4, E3 (H3 n m g h f c q F so pf a a' d b))) := by
  have key := loop_all (callF_ok sxApart sxMixed extK_ok (N := 20) 8) sxMixed (body := loopN Try.prog 5 41) (L := noL) (N := 20) (B := 2) (fun _ _ _ _ h => by cases h) [23, 27, 29] [] none none
    (fun k => S3 (H3 n m g h f c q F so pf a a' d b) (.lit (.int .i64 (Int.ofNat k)))) 16 (.ext 4, E3 (H3 n m g h f c q F so pf a a' d b)) (fun h => by cases h)
    (fun k hk => by
      have hk' := hb k hk
      rcases k with _ | _ | _ | _ | _ | _ | _ | _ | _ | _ | _ | _ | _ | _ | _ | _ | k
      · exact ⟨_, rc0 n m g h f c q F so pf a a' d b, by show XLe (Tr.get (.node (bd a' b 0) _ _)) _; rw [show bd a' b 0 = false from hk']; exact ⟨rfl, rfl, HLe.refl _⟩⟩
      · exact ⟨_, rc1 n m g h f c q F so pf a a' d b, by show XLe (Tr.get (.node (bd a' b 1) _ _)) _; rw [show bd a' b 1 = false from hk']; exact ⟨rfl, rfl, HLe.refl _⟩⟩
      · exact ⟨_, rc2 n m g h f c q F so pf a a' d b, by show XLe (Tr.get (.node (bd a' b 2) _ _)) _; rw [show bd a' b 2 = false from hk']; exact ⟨rfl, rfl, HLe.refl _⟩⟩
      · exact ⟨_, rc3 n m g h f c q F so pf a a' d b, by show XLe (Tr.get (.node (bd a' b 3) _ _)) _; rw [show bd a' b 3 = false from hk']; exact ⟨rfl, rfl, HLe.refl _⟩⟩
      · exact ⟨_, rc4 n m g h f c q F so pf a a' d b, by show XLe (Tr.get (.node (bd a' b 4) _ _)) _; rw [show bd a' b 4 = false from hk']; exact ⟨rfl, rfl, HLe.refl _⟩⟩
      · exact ⟨_, rc5 n m g h f c q F so pf a a' d b, by show XLe (Tr.get (.node (bd a' b 5) _ _)) _; rw [show bd a' b 5 = false from hk']; exact ⟨rfl, rfl, HLe.refl _⟩⟩
      · exact ⟨_, rc6 n m g h f c q F so pf a a' d b, by show XLe (Tr.get (.node (bd a' b 6) _ _)) _; rw [show bd a' b 6 = false from hk']; exact ⟨rfl, rfl, HLe.refl _⟩⟩
      · exact ⟨_, rc7 n m g h f c q F so pf a a' d b, by show XLe (Tr.get (.node (bd a' b 7) _ _)) _; rw [show bd a' b 7 = false from hk']; exact ⟨rfl, rfl, HLe.refl _⟩⟩
      · exact ⟨_, rc8 n m g h f c q F so pf a a' d b, by show XLe (Tr.get (.node (bd a' b 8) _ _)) _; rw [show bd a' b 8 = false from hk']; exact ⟨rfl, rfl, HLe.refl _⟩⟩
      · exact ⟨_, rc9 n m g h f c q F so pf a a' d b, by show XLe (Tr.get (.node (bd a' b 9) _ _)) _; rw [show bd a' b 9 = false from hk']; exact ⟨rfl, rfl, HLe.refl _⟩⟩
      · exact ⟨_, rc10 n m g h f c q F so pf a a' d b, by show XLe (Tr.get (.node (bd a' b 10) _ _)) _; rw [show bd a' b 10 = false from hk']; exact ⟨rfl, rfl, HLe.refl _⟩⟩
      · exact ⟨_, rc11 n m g h f c q F so pf a a' d b, by show XLe (Tr.get (.node (bd a' b 11) _ _)) _; rw [show bd a' b 11 = false from hk']; exact ⟨rfl, rfl, HLe.refl _⟩⟩
      · exact ⟨_, rc12 n m g h f c q F so pf a a' d b, by show XLe (Tr.get (.node (bd a' b 12) _ _)) _; rw [show bd a' b 12 = false from hk']; exact ⟨rfl, rfl, HLe.refl _⟩⟩
      · exact ⟨_, rc13 n m g h f c q F so pf a a' d b, by show XLe (Tr.get (.node (bd a' b 13) _ _)) _; rw [show bd a' b 13 = false from hk']; exact ⟨rfl, rfl, HLe.refl _⟩⟩
      · exact ⟨_, rc14 n m g h f c q F so pf a a' d b, by show XLe (Tr.get (.node (bd a' b 14) _ _)) _; rw [show bd a' b 14 = false from hk']; exact ⟨rfl, rfl, HLe.refl _⟩⟩
      · exact ⟨_, rc15 n m g h f c q F so pf a a' d b, by show XLe (Tr.get (.node (bd a' b 15) _ _)) _; rw [show bd a' b 15 = false from hk']; exact ⟨rfl, rfl, HLe.refl _⟩⟩
      · omega)
    ⟨_, rc16 n m g h f c q F so pf a a' d b, XLe.refl _⟩
  exact key.from ⟨rfl, HLe.refl _⟩
-- what is picked
theorem eP16 (n : Nat) (g : Nat → Int) : evF Try.prog extK noL 20 8 7 [.slc 0 0 n, .lit (.int .i64 16)] [.rows false n 1 (ur g)] = some (.leaf (.int .i64 (xp n g 16 0 0), none), andB (andB (andB (andB (oj n 0) true) true) true) true) := by kernel_rfl
noncomputable def runP2 (n m : Nat) (g h : Nat → Int) (nn i : Nat) : List AV → List Blk → Option Lf := famK J7.selP fun b => bif b == 16 then J7.runPk m h 16 (.int .i64 (Int.ofNat nn)) else J7.runPk n g 4 (.lit (.int .i64 (Int.ofNat i)))
theorem pickOk (n m : Nat) (g h : Nat → Int) {nn i : Nat} (h1 : xp m h 16 0 0 = Int.ofNat nn) (h2 : xp n g 4 0 0 = Int.ofNat i) : SumOk Try.prog 7 (runP2 n m g h nn i) := famK_ok fun b => by
  have k1 : SumOk Try.prog 7 (J7.runPk m h 16 (.int .i64 (Int.ofNat nn))) := sum_atH sxApart sxMixed extK_ok noL (N := 20) (d := 8) fun _ => by
    have e := eP16 m h
    rw [oj_true, h1] at e
    exact ⟨noL_all, _, e, LLe.refl _⟩
  have k2 : SumOk Try.prog 7 (J7.runPk n g 4 (.lit (.int .i64 (Int.ofNat i)))) := J7.pk4 n g (by rw [h2]; rfl)
  cases (b == 16) with
  | true => exact k1
  | false => exact k2
-- the law
noncomputable def e4 (c : Nat → Option Nat) : Nat → Option Nat := c4 (c 0) (c 1) (c 2) (c 3)
noncomputable def dc (c : Nat → Option Nat) (i k : Nat) : Option Nat := bif Nat.beq k i then fop .quo .f32 (fop .add .f32 (c i) (some 1065353216)) (some 1073741824) else c k
noncomputable def so (f : Nat → Option Nat) (nn : Nat) : Nat → Option Nat := ov f (kb nn 0) (kb nn 1) (kb nn 2) (kb nn 3)
noncomputable def pp (f c : Nat → Option Nat) : Nat → Option Nat := pr f (e4 c) (rF f)
noncomputable def LP (n m : Nat) (g h : Nat → Int) (f c : Nat → Option Nat) (nn i : Nat) : LoopOr :=
  loopAt 12 [0, 1, 5, 6, 9, 11, 12] (S1 n m g h f c (some 0) (.int .i64 0)) (.leaf (.ext 0, E1 n m g h f c (sumN (area c) 16)))
  (loopAt 22 [0, 1, 5, 6, 13, 14, 15, 16] (S2 n m g h f c (kb nn) (fu (kb nn) 0) (.int .i64 0)) (.leaf (.ext 2, E2 n m g h f c (kb nn) (fu (kb nn) 4)))
  (loopAt 41 [23, 27, 29] (S3 (H3 n m g h f c (kb nn) (fu (kb nn) 4) (so f nn) (pp f (fu (kb nn) 4)) (pp f c) (pp f c) (dc c i) (pp f (dc c i))) (.int .i64 0)) (.leaf (.ext 4, E3 (H3 n m g h f c (kb nn) (fu (kb nn) 4) (so f nn) (pp f (fu (kb nn) 4)) (pp f c) (pp f c) (dc c i) (pp f (dc c i))))) noL))
noncomputable def lawK (n m : Nat) (g h : Nat → Int) (f c : Nat → Option Nat) (nn i : Nat) : CallerT := addK 7 (runP2 n m g h nn i) (addK 16 (J7.runPs n g) (addK 17 (runCv m h) (addK 32 (runAr c) (addK 33 (runAr c) (addK 34 (runVp f) (addK 35 (runVc c)
  (addK 38 (runFC (pp f (fu (kb nn) 4)) (so f nn)) (addK 23 (runSC (pp f c)) (addK 22 (runOv f (kb nn 0) (kb nn 1) (kb nn 2) (kb nn 3)) (addK 29 (selRun (runPG f)) (addK 39 (selRun (runPG f))
  (addK 24 (selRun J6.runN) (addK 36 (runKO nn) (addK 37 (runNK (kb nn 0) (kb nn 1) (kb nn 2) (kb nn 3)) extK))))))))))))))
def nt (b : Bool) : Bool := cond b false true
noncomputable def e16 (A : Nat → Option Nat) : Bool := andB (fcmp .eql .f32 (A (0 + 0)) (A (0 + 0))) (andB (fcmp .eql .f32 (A (0 + 1)) (A (0 + 1))) (andB (fcmp .eql .f32 (A (0 + 2)) (A (0 + 2))) (andB (fcmp .eql .f32 (A (0 + 3)) (A (0 + 3))) (andB (fcmp .eql .f32 (A (0 + 4)) (A (0 + 4))) (andB (fcmp .eql .f32 (A (0 + 5)) (A (0 + 5))) (andB (fcmp .eql .f32 (A (0 + 6)) (A (0 + 6))) (andB (fcmp .eql .f32 (A (0 + 7)) (A (0 + 7))) (andB (fcmp .eql .f32 (A (0 + 8)) (A (0 + 8))) (andB (fcmp .eql .f32 (A (0 + 9)) (A (0 + 9))) (andB (fcmp .eql .f32 (A (0 + 10)) (A (0 + 10))) (andB (fcmp .eql .f32 (A (0 + 11)) (A (0 + 11))) (andB (fcmp .eql .f32 (A (0 + 12)) (A (0 + 12))) (andB (fcmp .eql .f32 (A (0 + 13)) (A (0 + 13))) (andB (fcmp .eql .f32 (A (0 + 14)) (A (0 + 14))) (andB (fcmp .eql .f32 (A (0 + 15)) (A (0 + 15))) (true))))))))))))))))
def big (n m : Nat) : Bool := cond (decide ((n : Int) > 4096)) true (decide ((m : Int) > 4096))
noncomputable def zx (nn : Nat) : Bool := Int.ofNat (Pr.num (kb nn 0) (kb nn 1) (kb nn 2) (kb nn 3)) == Int.ofNat nn
noncomputable def V (b E N z : Bool) : Bool := cond b true (cond (impB true (impB true (nt E))) false (cond (nt N) false (cond (impB true (andB (andB (nt z) true) true)) false true)))
noncomputable def O (b E N z o1 o2 o3 o4 o5 o6 l1 qN p16 o9 l2 oo u1 o10 o7 u2 u3 o8 p4 u4 l3 : Bool) : Bool := impB (!b) (andB o1 (andB o2 (andB o3 (andB o4 (andB (impB (nt (nt E)) (andB o5 true)) (andB (impB (nt (impB true (nt E))) (andB o6 true)) (impB (!impB true (impB true (nt E)))
  (andB l1 (andB qN (impB (!nt N) (andB p16 (andB o9 (andB l2 (andB oo (andB u1 (andB (andB (andB o10 (andB p16 true)) true) (andB (impB (nt (andB (andB (nt z) true) true)) (andB o7 true)) (impB (!impB true (andB (andB (nt z) true) true))
    (andB u2 (andB u3 (andB (andB (andB o8 true) true) (impB (!nt true) (andB p4 (andB u4 (impB (!false) (andB l3 true))))))))))))))))))))))))))
noncomputable def okG (f c : Nat → Option Nat) : Bool := okPG f (.agg (pcs f)) (c 0) (c 1) (c 2) (c 3)
theorem eLaw0 (n m : Nat) (g h : Nat → Int) (nn : Nat) : evF Try.prog (lawK n m g h (prs n g) (cvr m h) nn 0) (LP n m g h (prs n g) (cvr m h) nn 0) 20 8 5 [.slc 0 0 n, .slc 1 0 m] [.rows false n 1 (ur g), .rows false m 1 (ur h)] =
  some (.leaf (.bool (Y6.V (big n m) (e16 (area (cvr m h))) (J6.nr (sumN (area (cvr m h)) 16) (some 1065353216) tk) (zx nn)), none),
   O (big n m) (e16 (area (cvr m h))) (J6.nr (sumN (area (cvr m h)) 16) (some 1065353216) tk) (zx nn) (J7.okPs n g) (J7.okPs m h) (okAt [.agg (Q5.cv (cvr m h))]) (okAt [.agg (Q5.cv (cvr m h))]) (okAt [.agg (pcs (prs n g))]) (okAt [.agg (Q5.cv (cvr m h))])
    (deqS (S1 n m g h (prs n g) (cvr m h) (some 0) (.int .i64 0)) (S1 n m g h (prs n g) (cvr m h) (some 0) (.int .i64 0))) (J6.obN (fop .sub .f32 (sumN (area (cvr m h)) 16) (some 1065353216))) (J7.okPk m h 16) (okAt [.int .i64 (Int.ofNat nn)])
    (deqS (S2 n m g h (prs n g) (cvr m h) (kb nn) (fu (kb nn) 0) (.int .i64 0)) (S2 n m g h (prs n g) (cvr m h) (kb nn) (fu (kb nn) 0) (.int .i64 0))) (okAt [.agg (pcs (prs n g)), .agg (bk (kb nn 0) (kb nn 1) (kb nn 2) (kb nn 3))]) (okG (prs n g) (fu (kb nn) 4)) (okAt [.agg (bk (kb nn 0) (kb nn 1) (kb nn 2) (kb nn 3))])
    (okAt [.agg (cF (pp (prs n g) (fu (kb nn) 4))), .agg (cF (so (prs n g) nn)), .flt .f32 tk]) (okG (prs n g) (cvr m h)) (okG (prs n g) (cvr m h)) (okAt [.agg (cF (pp (prs n g) (cvr m h))), .agg (cF (pp (prs n g) (cvr m h)))]) (J7.okPk n g 4) (okG (prs n g) (dc (cvr m h) 0))
    (deqS (S3 (H3 n m g h (prs n g) (cvr m h) (kb nn) (fu (kb nn) 4) (so (prs n g) nn) (pp (prs n g) (fu (kb nn) 4)) (pp (prs n g) (cvr m h)) (pp (prs n g) (cvr m h)) (dc (cvr m h) 0) (pp (prs n g) (dc (cvr m h) 0))) (.int .i64 0)) (S3 (H3 n m g h (prs n g) (cvr m h) (kb nn) (fu (kb nn) 4) (so (prs n g) nn) (pp (prs n g) (fu (kb nn) 4)) (pp (prs n g) (cvr m h)) (pp (prs n g) (cvr m h)) (dc (cvr m h) 0) (pp (prs n g) (dc (cvr m h) 0))) (.int .i64 0)))) := by kernel_rfl
theorem eLaw1 (n m : Nat) (g h : Nat → Int) (nn : Nat) : evF Try.prog (lawK n m g h (prs n g) (cvr m h) nn 1) (LP n m g h (prs n g) (cvr m h) nn 1) 20 8 5 [.slc 0 0 n, .slc 1 0 m] [.rows false n 1 (ur g), .rows false m 1 (ur h)] =
  some (.leaf (.bool (Y6.V (big n m) (e16 (area (cvr m h))) (J6.nr (sumN (area (cvr m h)) 16) (some 1065353216) tk) (zx nn)), none),
   O (big n m) (e16 (area (cvr m h))) (J6.nr (sumN (area (cvr m h)) 16) (some 1065353216) tk) (zx nn) (J7.okPs n g) (J7.okPs m h) (okAt [.agg (Q5.cv (cvr m h))]) (okAt [.agg (Q5.cv (cvr m h))]) (okAt [.agg (pcs (prs n g))]) (okAt [.agg (Q5.cv (cvr m h))])
    (deqS (S1 n m g h (prs n g) (cvr m h) (some 0) (.int .i64 0)) (S1 n m g h (prs n g) (cvr m h) (some 0) (.int .i64 0))) (J6.obN (fop .sub .f32 (sumN (area (cvr m h)) 16) (some 1065353216))) (J7.okPk m h 16) (okAt [.int .i64 (Int.ofNat nn)])
    (deqS (S2 n m g h (prs n g) (cvr m h) (kb nn) (fu (kb nn) 0) (.int .i64 0)) (S2 n m g h (prs n g) (cvr m h) (kb nn) (fu (kb nn) 0) (.int .i64 0))) (okAt [.agg (pcs (prs n g)), .agg (bk (kb nn 0) (kb nn 1) (kb nn 2) (kb nn 3))]) (okG (prs n g) (fu (kb nn) 4)) (okAt [.agg (bk (kb nn 0) (kb nn 1) (kb nn 2) (kb nn 3))])
    (okAt [.agg (cF (pp (prs n g) (fu (kb nn) 4))), .agg (cF (so (prs n g) nn)), .flt .f32 tk]) (okG (prs n g) (cvr m h)) (okG (prs n g) (cvr m h)) (okAt [.agg (cF (pp (prs n g) (cvr m h))), .agg (cF (pp (prs n g) (cvr m h)))]) (J7.okPk n g 4) (okG (prs n g) (dc (cvr m h) 1))
    (deqS (S3 (H3 n m g h (prs n g) (cvr m h) (kb nn) (fu (kb nn) 4) (so (prs n g) nn) (pp (prs n g) (fu (kb nn) 4)) (pp (prs n g) (cvr m h)) (pp (prs n g) (cvr m h)) (dc (cvr m h) 1) (pp (prs n g) (dc (cvr m h) 1))) (.int .i64 0)) (S3 (H3 n m g h (prs n g) (cvr m h) (kb nn) (fu (kb nn) 4) (so (prs n g) nn) (pp (prs n g) (fu (kb nn) 4)) (pp (prs n g) (cvr m h)) (pp (prs n g) (cvr m h)) (dc (cvr m h) 1) (pp (prs n g) (dc (cvr m h) 1))) (.int .i64 0)))) := by kernel_rfl
theorem eLaw2 (n m : Nat) (g h : Nat → Int) (nn : Nat) : evF Try.prog (lawK n m g h (prs n g) (cvr m h) nn 2) (LP n m g h (prs n g) (cvr m h) nn 2) 20 8 5 [.slc 0 0 n, .slc 1 0 m] [.rows false n 1 (ur g), .rows false m 1 (ur h)] =
  some (.leaf (.bool (Y6.V (big n m) (e16 (area (cvr m h))) (J6.nr (sumN (area (cvr m h)) 16) (some 1065353216) tk) (zx nn)), none),
   O (big n m) (e16 (area (cvr m h))) (J6.nr (sumN (area (cvr m h)) 16) (some 1065353216) tk) (zx nn) (J7.okPs n g) (J7.okPs m h) (okAt [.agg (Q5.cv (cvr m h))]) (okAt [.agg (Q5.cv (cvr m h))]) (okAt [.agg (pcs (prs n g))]) (okAt [.agg (Q5.cv (cvr m h))])
    (deqS (S1 n m g h (prs n g) (cvr m h) (some 0) (.int .i64 0)) (S1 n m g h (prs n g) (cvr m h) (some 0) (.int .i64 0))) (J6.obN (fop .sub .f32 (sumN (area (cvr m h)) 16) (some 1065353216))) (J7.okPk m h 16) (okAt [.int .i64 (Int.ofNat nn)])
    (deqS (S2 n m g h (prs n g) (cvr m h) (kb nn) (fu (kb nn) 0) (.int .i64 0)) (S2 n m g h (prs n g) (cvr m h) (kb nn) (fu (kb nn) 0) (.int .i64 0))) (okAt [.agg (pcs (prs n g)), .agg (bk (kb nn 0) (kb nn 1) (kb nn 2) (kb nn 3))]) (okG (prs n g) (fu (kb nn) 4)) (okAt [.agg (bk (kb nn 0) (kb nn 1) (kb nn 2) (kb nn 3))])
    (okAt [.agg (cF (pp (prs n g) (fu (kb nn) 4))), .agg (cF (so (prs n g) nn)), .flt .f32 tk]) (okG (prs n g) (cvr m h)) (okG (prs n g) (cvr m h)) (okAt [.agg (cF (pp (prs n g) (cvr m h))), .agg (cF (pp (prs n g) (cvr m h)))]) (J7.okPk n g 4) (okG (prs n g) (dc (cvr m h) 2))
    (deqS (S3 (H3 n m g h (prs n g) (cvr m h) (kb nn) (fu (kb nn) 4) (so (prs n g) nn) (pp (prs n g) (fu (kb nn) 4)) (pp (prs n g) (cvr m h)) (pp (prs n g) (cvr m h)) (dc (cvr m h) 2) (pp (prs n g) (dc (cvr m h) 2))) (.int .i64 0)) (S3 (H3 n m g h (prs n g) (cvr m h) (kb nn) (fu (kb nn) 4) (so (prs n g) nn) (pp (prs n g) (fu (kb nn) 4)) (pp (prs n g) (cvr m h)) (pp (prs n g) (cvr m h)) (dc (cvr m h) 2) (pp (prs n g) (dc (cvr m h) 2))) (.int .i64 0)))) := by kernel_rfl
theorem eLaw3 (n m : Nat) (g h : Nat → Int) (nn : Nat) : evF Try.prog (lawK n m g h (prs n g) (cvr m h) nn 3) (LP n m g h (prs n g) (cvr m h) nn 3) 20 8 5 [.slc 0 0 n, .slc 1 0 m] [.rows false n 1 (ur g), .rows false m 1 (ur h)] =
  some (.leaf (.bool (Y6.V (big n m) (e16 (area (cvr m h))) (J6.nr (sumN (area (cvr m h)) 16) (some 1065353216) tk) (zx nn)), none),
   O (big n m) (e16 (area (cvr m h))) (J6.nr (sumN (area (cvr m h)) 16) (some 1065353216) tk) (zx nn) (J7.okPs n g) (J7.okPs m h) (okAt [.agg (Q5.cv (cvr m h))]) (okAt [.agg (Q5.cv (cvr m h))]) (okAt [.agg (pcs (prs n g))]) (okAt [.agg (Q5.cv (cvr m h))])
    (deqS (S1 n m g h (prs n g) (cvr m h) (some 0) (.int .i64 0)) (S1 n m g h (prs n g) (cvr m h) (some 0) (.int .i64 0))) (J6.obN (fop .sub .f32 (sumN (area (cvr m h)) 16) (some 1065353216))) (J7.okPk m h 16) (okAt [.int .i64 (Int.ofNat nn)])
    (deqS (S2 n m g h (prs n g) (cvr m h) (kb nn) (fu (kb nn) 0) (.int .i64 0)) (S2 n m g h (prs n g) (cvr m h) (kb nn) (fu (kb nn) 0) (.int .i64 0))) (okAt [.agg (pcs (prs n g)), .agg (bk (kb nn 0) (kb nn 1) (kb nn 2) (kb nn 3))]) (okG (prs n g) (fu (kb nn) 4)) (okAt [.agg (bk (kb nn 0) (kb nn 1) (kb nn 2) (kb nn 3))])
    (okAt [.agg (cF (pp (prs n g) (fu (kb nn) 4))), .agg (cF (so (prs n g) nn)), .flt .f32 tk]) (okG (prs n g) (cvr m h)) (okG (prs n g) (cvr m h)) (okAt [.agg (cF (pp (prs n g) (cvr m h))), .agg (cF (pp (prs n g) (cvr m h)))]) (J7.okPk n g 4) (okG (prs n g) (dc (cvr m h) 3))
    (deqS (S3 (H3 n m g h (prs n g) (cvr m h) (kb nn) (fu (kb nn) 4) (so (prs n g) nn) (pp (prs n g) (fu (kb nn) 4)) (pp (prs n g) (cvr m h)) (pp (prs n g) (cvr m h)) (dc (cvr m h) 3) (pp (prs n g) (dc (cvr m h) 3))) (.int .i64 0)) (S3 (H3 n m g h (prs n g) (cvr m h) (kb nn) (fu (kb nn) 4) (so (prs n g) nn) (pp (prs n g) (fu (kb nn) 4)) (pp (prs n g) (cvr m h)) (pp (prs n g) (cvr m h)) (dc (cvr m h) 3) (pp (prs n g) (dc (cvr m h) 3))) (.int .i64 0)))) := by kernel_rfl
end Go.Proofs.Ytpnjimpiphbcfaa.Y6
set_option linter.unusedVariables false
set_option linter.unusedSimpArgs false
set_option exponentiation.threshold 3000
set_option maxRecDepth 100000
namespace Go.Proofs.Ytpnjimpiphbcfaa.Y7
open Go Go.Sx Go.Sx.R0 Go.Sx.C5 Go.Sx.C1 Go.Sx.Fl Go.Sx.Ink Go.Sx.Pr Ieee Go.Proofs.Ytpnjimpiphbcfaa.J1 Go.Proofs.Ytpnjimpiphbcfaa.J2 Go.Proofs.Ytpnjimpiphbcfaa.J3 Go.Proofs.Ytpnjimpiphbcfaa.J4 Go.Proofs.Ytpnjimpiphbcfaa.J5 Go.Proofs.Ytpnjimpiphbcfaa.V5 Go.Proofs.Ytpnjimpiphbcfaa.X5 Go.Proofs.Ytpnjimpiphbcfaa.Y5 Go.Proofs.Ytpnjimpiphbcfaa.Y6

-- the grid
def gm (j κ : Nat) : Nat := min 16384 (256 * κ + j * κ * (64 - κ))
theorem gm_le (j κ : Nat) : gm j κ ≤ 16384 := Nat.min_le_left _ _
def chkY (j : Nat) : Bool := (List.range 65).all fun κ => match val (J6.growR (grR w16 (Int.ofNat j)) (grR w64 (Int.ofNat κ))) with | some A => Nat.beq A (gm j κ * 2 ^ 1060) | none => false
theorem cy0 : chkY 0 = true := by decide +kernel
theorem cy1 : chkY 1 = true := by decide +kernel
theorem cy2 : chkY 2 = true := by decide +kernel
theorem cy3 : chkY 3 = true := by decide +kernel
theorem cy4 : chkY 4 = true := by decide +kernel
theorem cy5 : chkY 5 = true := by decide +kernel
theorem cy6 : chkY 6 = true := by decide +kernel
theorem cy7 : chkY 7 = true := by decide +kernel
theorem cy8 : chkY 8 = true := by decide +kernel

theorem gm_NV {j κ : Nat} (hj : j ≤ 8) (hκ : κ ≤ 64) : NV (grow (gr w16 (Int.ofNat j)) (gr w64 (Int.ofNat κ))) (gm j κ * 2 ^ 1060) := by
  have h : chkY j = true := by
    rcases j with _ | _ | _ | _ | _ | _ | _ | _ | _ | j
    · exact cy0
    · exact cy1
    · exact cy2
    · exact cy3
    · exact cy4
    · exact cy5
    · exact cy6
    · exact cy7
    · exact cy8
    · omega
  unfold chkY at h
  rw [List.all_eq_true] at h
  have h := h κ (List.mem_range.2 (by omega))
  rw [J6.grow_R, gr_eq, gr_eq]
  split at h
  · rename_i A hA
    rw [← Nat.eq_of_beq_eq_true h]
    exact NV_val hA
  · cases h
def chkZ : Bool := (List.range 33).all fun k => decide (grR w32 (Int.ofNat k) = grR w64 (Int.ofNat (2 * k))) && decide (J6.opR .quo (J6.opR .add (grR w32 (Int.ofNat k)) (some 1065353216)) (some 1073741824) = grR w64 (Int.ofNat (k + 32)))
theorem cz : chkZ = true := by decide +kernel
theorem cz_of {k : Nat} (hk : k ≤ 32) : gr w32 (Int.ofNat k) = gr w64 (Int.ofNat (2 * k)) ∧ fop .quo .f32 (fop .add .f32 (gr w32 (Int.ofNat k)) (some 1065353216)) (some 1073741824) = gr w64 (Int.ofNat (k + 32)) := by
  have h := cz
  unfold chkZ at h
  rw [List.all_eq_true] at h
  have h := h k (List.mem_range.2 (by omega))
  simp only [Bool.and_eq_true, decide_eq_true_eq] at h
  rw [gr_eq, gr_eq, gr_eq, fop_eq]
  exact h
def chkM : Bool := (List.range 9).all fun j => (List.range 33).all fun k => Nat.ble (gm j (2 * k)) (gm j (k + 32))
theorem cm : chkM = true := by decide +kernel
theorem gm_mono {j k : Nat} (hj : j ≤ 8) (hk : k ≤ 32) : gm j (2 * k) ≤ gm j (k + 32) := by
  have h := cm
  unfold chkM at h
  rw [List.all_eq_true] at h
  have h := h j (List.mem_range.2 (by omega))
  rw [List.all_eq_true] at h
  exact Nat.le_of_ble_eq_true (h k (List.mem_range.2 (by omega)))
theorem z64 : gr w64 (Int.ofNat 0) = some 0 ∧ gr w64 (Int.ofNat 64) = some 1065353216 := by rw [gr_eq, gr_eq]; decide +kernel
/-- a cover of sixty-fourths -/
def Grid (c : Nat → Option Nat) (κ : Nat → Nat) : Prop := ∀ i, i < 4 → c i = gr w64 (Int.ofNat (κ i)) ∧ κ i ≤ 64
theorem w64_LE {κ : Nat} (h : κ ≤ 64) : LE 1 (gr w64 (Int.ofNat κ)) := by
  refine ⟨_, chk_of c64 (k := κ) (by omega), ?_⟩
  have : (2 : Nat) ^ 1074 = 64 * 2 ^ 1068 := by rw [show (1074 : Nat) = 6 + 1068 from rfl, Nat.pow_add]
  rw [Nat.one_mul, this]
  exact Nat.mul_le_mul_right _ h
theorem Grid.sh {c : Nat → Option Nat} {κ : Nat → Nat} (h : Grid c κ) : ShC c := fun i hi => by
  obtain ⟨e, k⟩ := h i hi
  rw [e]; exact w64_LE k
theorem e4_eq {c : Nat → Option Nat} {i : Nat} (hi : i < 4) : e4 c i = c i := by
  rcases i with _ | _ | _ | _ | i
  · rfl
  · rfl
  · rfl
  · rfl
  · omega
theorem Grid.e4 {c : Nat → Option Nat} {κ : Nat → Nat} (h : Grid c κ) : Grid (Y6.e4 c) κ := fun i hi => by rw [e4_eq hi]; exact h i hi
theorem Grid.grown {c : Nat → Option Nat} {κ : Nat → Nat} (h : Grid c κ) {f : Nat → Option Nat} {G : Nat} (hG : G ≤ 8) (hf : f 80 = gr w16 (Int.ofNat G)) : Grown (C5.gr (f 80) c) fun i => gm G (κ i) := ⟨fun i hi => by
    obtain ⟨e, k⟩ := h i hi
    show NV (grow (f 80) (c i)) _
    rw [hf, e]
    exact gm_NV hG k, fun i hi => gm_le _ _⟩
theorem Grid.raw {c : Nat → Option Nat} {κ : Nat → Nat} (h : Grid c κ) : Grown c fun i => 256 * κ i := ⟨fun i hi => by
    obtain ⟨e, k⟩ := h i hi
    rw [e]
    have := chk_of c64 (k := κ i) (by omega)
    have e2 : κ i * 2 ^ 1068 = 256 * κ i * 2 ^ 1060 := by
      rw [pw 1068 8 1060, show (2 : Nat) ^ 8 = 256 from rfl, ← Nat.mul_assoc, Nat.mul_comm (κ i) 256]
    rw [← e2]
    exact this, fun i hi => by have := (h i hi).2; show 256 * κ i ≤ 16384; omega⟩
theorem cvr_grid {m : Nat} {h : Nat → Int} (hh : ∀ i, i < m → 0 ≤ h i ∧ h i ≤ 255) : ∃ k : Nat → Nat, (∀ i, k i ≤ 32) ∧ ∀ i, cvr m h i = gr w32 (Int.ofNat (k i)) := by
  have : ∀ i, ∃ k : Nat, k ≤ 32 ∧ cvr m h i = gr w32 (Int.ofNat k) := fun i => by
    obtain ⟨k, hk, ek⟩ := xp_lt hh (m := 33) (by omega) (0 + i) (yk m h 0 0 i)
    refine ⟨k, by omega, ?_⟩
    unfold cvr
    rw [show xp m h 33 (0 + i) (yk m h 0 0 i) = Int.ofNat k from ek]
  exact ⟨fun i => (this i).choose, fun i => (this i).choose_spec.1, fun i => (this i).choose_spec.2⟩
-- areas add up
theorem sum_a {S A z E F y v : Nat} (h : S ≤ E + y ∧ E ≤ S + y) (k : A ≤ F + 6 * v ∧ F ≤ A + 6 * v) (g1 : z ≤ S + A + 4 * v) (g2 : S + A ≤ z + 4 * v) : z ≤ E + F + (y + 10 * v) ∧ E + F ≤ z + (y + 10 * v) := by omega
theorem sum_b {S A E F y v : Nat} (h : S ≤ E + y ∧ E ≤ S + y) (k : A ≤ F + 6 * v ∧ F ≤ A + 6 * v) (hU : E + F ≤ 16777216 * v) (hk : y ≤ 160 * v) (hv : 0 < v) : S + A < 16777216 * (4 * v) := by omega
theorem areas_sum {c : Nat → Option Nat} {κ : Nat → Nat} (hc : Grown c κ) : ∀ n, n < 16 → ∃ S, NV (sumN (area c) (n + 1)) S ∧ nw (10 * (n + 1)) S (esum (al κ) (fun _ => 1) n * 2 ^ 1018)
  | 0, _ => by
    obtain ⟨a1, a2⟩ := areas_e hc 0
    have z : NV (some 0) 0 := by have := NV_zero; rwa [Nat.zero_mul] at this
    have h := z.add a1 (by rw [Nat.zero_add]; exact a1.rep.2)
    rw [Nat.zero_add, a1.rep.1] at h
    refine ⟨_, h, ?_⟩
    show nw 10 _ (al κ 0 * 1 * 2 ^ 1018)
    rw [Nat.mul_one]
    unfold nw at *
    omega
  | n + 1, hn => by
    have hv := ve_pos
    obtain ⟨S, s1, s2⟩ := areas_sum hc n (by omega)
    obtain ⟨a1, a2⟩ := areas_e hc (n + 1)
    have ht := esum_top hc.le (R := fun _ => 1) (K := 1) (fun _ _ => Nat.le_refl _) hn
    have e : esum (al κ) (fun _ => 1) (n + 1) = esum (al κ) (fun _ => 1) n + al κ (n + 1) * 1 := rfl
    rw [e, Nat.mul_one] at ht
    rw [e, Nat.mul_one, Nat.add_mul]
    have hU : (esum (al κ) (fun _ => 1) n + al κ (n + 1)) * 2 ^ 1018 ≤ 16777216 * ve := by
      rw [← U_ve, pw 1074 56 1018, c56_eq]
      exact Nat.mul_le_mul_right _ (by omega)
    rw [Nat.add_mul] at hU
    have hk : 10 * (n + 1) * ve ≤ 160 * ve := Nat.mul_le_mul_right _ (by omega)
    have hk2 : 10 * (n + 1 + 1) * ve = 10 * (n + 1) * ve + 10 * ve := by rw [← Nat.add_mul]; congr 1
    unfold nw at *
    have hs : S + vN (area c (n + 1)) < 2 ^ 24 * 2 ^ 1052 := by
      rw [Pr.v4, show (2 : Nat) ^ 24 = 16777216 from rfl]
      exact sum_b s2 a2 hU hk hv
    obtain ⟨g1, g2, g3⟩ := rd_e hs (by omega) (by omega)
    rw [Pr.v4] at g1 g2
    refine ⟨rd (S + vN (area c (n + 1))), ?_, ?_⟩
    · show NV (fop .add .f32 (sumN (area c) (n + 1)) (area c (0 + (n + 1)))) _
      rw [Nat.zero_add]
      exact s1.add a1 g3
    · rw [hk2]
      exact sum_a s2 a2 g1 g2
theorem sum_one {c : Nat → Option Nat} {κ : Nat → Nat} (hc : Grown c κ) : J6.nr (sumN (area c) 16) (some 1065353216) tk = true ∧ J6.obN (fop .sub .f32 (sumN (area c) 16) (some 1065353216)) = true := by
  obtain ⟨S, s1, s2⟩ := areas_sum hc 15 (by omega)
  rw [esum_L4, L4_const hc.le, Nat.mul_one, ← Nat.pow_add] at s2
  have one : NV (some 1065353216) (2 ^ (56 + 1018)) := by
    have := NV_one
    rwa [Nat.one_mul] at this
  exact ⟨nr_true s1 one (by unfold nw at *; omega), (near_e s1 one).2⟩
theorem area_no {c : Nat → Option Nat} {κ : Nat → Nat} (hc : Grown c κ) (n : Nat) : fcmp .lss .f32 (area c n) (some 0) = false ∧ fcmp .eql .f32 (area c n) (area c n) = true := by
  obtain ⟨a1, _⟩ := areas_e hc n
  have z : NV (some 0) 0 := by have := NV_zero; rwa [Nat.zero_mul] at this
  rw [(fcmp_NV a1 z).2.1, (fcmp_NV a1 a1).2.2.2.2.1]
  exact ⟨decide_eq_false (by omega), decide_eq_true rfl⟩
theorem e16_true {c : Nat → Option Nat} {κ : Nat → Nat} (hc : Grown c κ) : e16 (area c) = true := by
  unfold e16
  rw [(area_no hc (0 + 0)).2, (area_no hc (0 + 1)).2, (area_no hc (0 + 2)).2, (area_no hc (0 + 3)).2, (area_no hc (0 + 4)).2, (area_no hc (0 + 5)).2, (area_no hc (0 + 6)).2, (area_no hc (0 + 7)).2, (area_no hc (0 + 8)).2, (area_no hc (0 + 9)).2, (area_no hc (0 + 10)).2, (area_no hc (0 + 11)).2, (area_no hc (0 + 12)).2, (area_no hc (0 + 13)).2, (area_no hc (0 + 14)).2, (area_no hc (0 + 15)).2]
  rfl
theorem zx_true {nn : Nat} (h : nn < 16) : zx nn = true := by
  rcases nn with _ | _ | _ | _ | _ | _ | _ | _ | _ | _ | _ | _ | _ | _ | _ | _ | n
  · rfl
  · rfl
  · rfl
  · rfl
  · rfl
  · rfl
  · rfl
  · rfl
  · rfl
  · rfl
  · rfl
  · rfl
  · rfl
  · rfl
  · rfl
  · rfl
  · omega
-- prints compared
theorem tk_NV' : NV tk (13743895 * 2 ^ 1037) := tk_ve.1
theorem top_NV : NV (some 1065354055) (8389447 * 2 ^ 1051) := NV_val (by decide +kernel)
theorem bd_no {a b : Nat → Option Nat} {k A B : Nat} (ha : NV (a (0 + k)) A) (hb : NV (b (0 + k)) B) (hm : B ≤ A + 1353 * ve) (hA : A ≤ 16777216 * ve + 700 * ve) : bd a b k = false := by
  have hv := ve_pos
  have z : NV (some 0) 0 := by have := NV_zero; rwa [Nat.zero_mul] at this
  have e51 : (2 : Nat) ^ 1051 = 2 * ve := by unfold ve; rw [show (1051 : Nat) = 1 + 1050 from rfl, Nat.pow_add]
  have ht := tk_ve.2
  have hs : A + 13743895 * 2 ^ 1037 < 2 ^ 24 * 2 ^ 1051 := by
    rw [e51, show (2 : Nat) ^ 24 = 16777216 from rfl]
    omega
  obtain ⟨g1, g2, g3⟩ := rd_e hs (by omega) (by omega)
  rw [e51] at g2
  have hsum := ha.add tk_NV' g3
  unfold bd
  have t2 := top_NV
  rw [e51] at t2
  rw [(fcmp_NV hb hsum).1, (fcmp_NV ha z).2.1, (fcmp_NV ha t2).1, decide_eq_false (show ¬ B > rd (A + 13743895 * 2 ^ 1037) by omega), decide_eq_false (show ¬ A < 0 by omega), decide_eq_false (show ¬ A > 8389447 * (2 * ve) by omega)]; rfl
theorem more_no {f c d : Nat → Option Nat} {κ δ : Nat → Nat} {G : Nat} (hf : Sh f) (hG : G ≤ 8) (e80 : f 80 = gr w16 (Int.ofNat G)) (hc : Grid c κ) (hd : Grid d δ) {i : Nat} (hi : i < 4) (ho : ∀ j, j ≠ i → δ j = κ j) (hm : gm G (κ i) ≤ gm G (δ i)) {k : Nat} (hk : k < 16) : bd (pp f c) (pp f d) k = false := by
  obtain ⟨o, o', h1, h2, h3, h4, _⟩ := print_more hf.p (hc.e4.grown hG e80) (hd.e4.grown hG e80) hi (fun j hj => by show gm G (δ j) = gm G (κ j); rw [ho j hj]) hm hk
  exact bd_no (a := pp f c) (b := pp f d) (A := o) (B := o') (by rw [Nat.zero_add]; exact h1) (by rw [Nat.zero_add]; exact h2) h3 h4
theorem full_near {f : Nat → Option Nat} {G nn : Nat} (hf : Sh f) (hG : G ≤ 8) (e80 : f 80 = gr w16 (Int.ofNat G)) {v : Nat} (hv : v < 16) : J6.nr (pp f (fu (kb nn) 4) v) (so f nn v) tk = true ∧ J6.obN (fop .sub .f32 (pp f (fu (kb nn) 4) v) (so f nn v)) = true := by
  have hg : Grid (fu (kb nn) 4) fun i => bif kb nn i then 64 else 0 := fun i hi => by
    unfold fu
    rw [blt_lt hi]
    show (bif true then bif kb nn i then some 1065353216 else some 0 else some 0) = gr w64 (Int.ofNat (bif kb nn i then 64 else 0)) ∧ (bif kb nn i then 64 else 0) ≤ 64
    cases kb nn i
    · exact ⟨z64.1.symm, Nat.zero_le _⟩
    · exact ⟨z64.2.symm, Nat.le_refl _⟩
  have hgr := hg.e4.grown hG e80
  have e : ∀ i, gm G (bif kb nn i then 64 else 0) = bif kb nn i then 16384 else 0 := fun i => by
    cases kb nn i
    · show min 16384 (256 * 0 + G * 0 * (64 - 0)) = 0
      simp
    · show min 16384 (256 * 64 + G * 64 * (64 - 64)) = 16384
      simp
  obtain ⟨o, h1, h2⟩ := print_full hf.p hgr (e 0) (e 1) (e 2) (e 3) hv
  obtain ⟨o1, _⟩ := ov_NV hf.p hv (kb nn 0) (kb nn 1) (kb nn 2) (kb nn 3)
  have h1' : NV (pp f (fu (kb nn) 4) v) o := h1
  have o1' : NV (so f nn v) _ := o1
  exact ⟨nr_true h1' o1' h2, (near_e h1' o1').2⟩
end Go.Proofs.Ytpnjimpiphbcfaa.Y7
