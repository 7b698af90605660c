/- Texts of one claim, put together. -/
import Derived.Test.YtpnjimpiphbcfaaG2
import Derived.Test.YtpnjimpiphbcfaaSxT5
set_option linter.unusedVariables false
set_option linter.unusedSimpArgs false
set_option exponentiation.threshold 3000
set_option maxRecDepth 100000
namespace Go.Proofs.Ytpnjimpiphbcfaa.J7
open Go Go.Sx Go.Sx.R0 Go.Sx.C5 Go.Sx.C1 Go.Sx.Fl Go.Sx.Ink Ieee Go.Proofs.Ytpnjimpiphbcfaa.J1 Go.Proofs.Ytpnjimpiphbcfaa.J4 Go.Proofs.Ytpnjimpiphbcfaa.J5 Go.Proofs.Ytpnjimpiphbcfaa.J6 Go.Proofs.Ytpnjimpiphbcfaa.V5 Go.Proofs.Ytpnjimpiphbcfaa.T5

-- what is picked
theorem eP9 (n : Nat) (g : Nat → Int) : evF Try.prog extK noL 20 8 7 [.slc 0 0 n, .lit (.int .i64 9)] [.rows false n 1 (ur g)] = some (.leaf (.int .i64 (xp n g 9 0 0), none), andB (andB (andB (andB (oj n 0) true) true) true) true) := by kernel_rfl
theorem eP33 (n : Nat) (g : Nat → Int) : evF Try.prog extK noL 20 8 7 [.slc 0 0 n, .lit (.int .i64 33)] [.rows false n 1 (ur g)] = some (.leaf (.int .i64 (xp n g 33 0 0), none), andB (andB (andB (andB (oj n 0) true) true) true) true) := by kernel_rfl
theorem eP4 (n : Nat) (g : Nat → Int) : evF Try.prog extK noL 20 8 7 [.slc 0 0 n, .lit (.int .i64 4)] [.rows false n 1 (ur g)] = some (.leaf (.int .i64 (xp n g 4 0 0), none), andB (andB (andB (andB (oj n 0) true) true) true) true) := by kernel_rfl
noncomputable def runPk (n : Nat) (g : Nat → Int) (m : Int) (v : AV) : List AV → List Blk → Option Lf := selRun (runAtH [.slc 0 0 n, .lit (.int .i64 m)] [.rows false n 1 (ur g)] (.leaf (v, none)) true)
noncomputable def okPk (n : Nat) (g : Nat → Int) (m : Int) : Bool := andB (deq [.slc 0 0 n, .lit (.int .i64 m)] [.slc 0 0 n, .lit (.int .i64 m)]) (andB (deqH [.rows false n 1 (ur g)] [.rows false n 1 (ur g)]) true)
theorem okPk_true (n : Nat) (g : Nat → Int) (m : Int) : okPk n g m = true := by unfold okPk; rw [deq_self, deqH_self]; rfl
theorem pk9 (n : Nat) (g : Nat → Int) {v : AV} (h : delitD v = .int .i64 (xp n g 9 0 0)) : SumOk Try.prog 7 (runPk n g 9 v) := sum_atH sxApart sxMixed extK_ok noL (N := 20) (d := 8) fun _ => by
  have e := eP9 n g
  rw [oj_true] at e
  exact ⟨noL_all, _, e, LLe.of h.symm rfl rfl⟩
theorem pk33 (n : Nat) (g : Nat → Int) {v : AV} (h : delitD v = .int .i64 (xp n g 33 0 0)) : SumOk Try.prog 7 (runPk n g 33 v) := sum_atH sxApart sxMixed extK_ok noL (N := 20) (d := 8) fun _ => by
  have e := eP33 n g
  rw [oj_true] at e
  exact ⟨noL_all, _, e, LLe.of h.symm rfl rfl⟩
theorem pk4 (n : Nat) (g : Nat → Int) {v : AV} (h : delitD v = .int .i64 (xp n g 4 0 0)) : SumOk Try.prog 7 (runPk n g 4 v) := sum_atH sxApart sxMixed extK_ok noL (N := 20) (d := 8) fun _ => by
  have e := eP4 n g
  rw [oj_true] at e
  exact ⟨noL_all, _, e, LLe.of h.symm rfl rfl⟩
def selP : List AV → Option Int
  | [_, .lit (.int .i64 m)] => some m
  | _ => none
noncomputable def runP3 (n m : Nat) (g h : Nat → Int) (G a : Int) (i : Nat) : List AV → List Blk → Option Lf := famK selP fun b => bif b == 9 then runPk n g 9 (.int .i64 G) else bif b == 33 then runPk m h 33 (.int .i64 a) else runPk m h 4 (.lit (.int .i64 (Int.ofNat i)))
theorem pickOk (n m : Nat) (g h : Nat → Int) {G a : Int} {i : Nat} (h1 : xp n g 9 0 0 = G) (h2 : xp m h 33 0 0 = a) (h3 : xp m h 4 0 0 = Int.ofNat i) : SumOk Try.prog 7 (runP3 n m g h G a i) := famK_ok fun b => by
  have k1 : SumOk Try.prog 7 (runPk n g 9 (.int .i64 G)) := pk9 n g (by rw [h1]; rfl)
  have k2 : SumOk Try.prog 7 (runPk m h 33 (.int .i64 a)) := pk33 m h (by rw [h2]; rfl)
  have k3 : SumOk Try.prog 7 (runPk m h 4 (.lit (.int .i64 (Int.ofNat i)))) := pk4 m h (by rw [h3]; rfl)
  cases (b == 9) with
  | true => exact k1
  | false =>
    cases (b == 33) with
    | true => exact k2
    | false => exact k3
-- the press that is drawn
noncomputable def runPs (n : Nat) (g : Nat → Int) : List AV → List Blk → Option Lf := selRun (runAtH [.slc 0 0 n] [.rows false n 1 (ur g)] (.leaf (.agg (pcs (prs n g)), none)) true)
noncomputable def okPs (n : Nat) (g : Nat → Int) : Bool := andB (deq [.slc 0 0 n] [.slc 0 0 n]) (andB (deqH [.rows false n 1 (ur g)] [.rows false n 1 (ur g)]) true)
theorem okPs_true (n : Nat) (g : Nat → Int) : okPs n g = true := by unfold okPs; rw [deq_self, deqH_self]; rfl
theorem pressOk (n : Nat) (g : Nat → Int) : SumOk Try.prog 16 (runPs n g) := sum_atH sxApart sxMixed (addK_ok (drawnOk n g) extK_ok) noL (N := 20) (d := 8) fun _ => by
  have e := ePr n g
  rw [okS_self (by omega)] at e
  exact ⟨noL_all, _, e, LLe.refl _⟩
theorem prs_Sh {n : Nat} {g : Nat → Int} (hg : ∀ i, i < n → 0 ≤ g i ∧ g i ≤ 255) : Sh (prs n g) := by
  obtain ⟨d⟩ := prs_drawn hg
  refine ⟨d.share, ?_⟩
  rw [d.gain]
  refine ⟨_, chk_of c16 (k := d.G) (by have := d.hG; omega), ?_⟩
  have : (2 : Nat) ^ 1074 = 16 * 2 ^ 1070 := by rw [show (1074 : Nat) = 4 + 1070 from rfl, Nat.pow_add]
  rw [Nat.one_mul, this]
  exact Nat.mul_le_mul_right _ (by have := d.hG; omega)
noncomputable def cvI (i : Nat) (a : Option Nat) (k : Nat) : Option Nat := bif Nat.beq k i then a else some 0
noncomputable def qg (k : Int) : Option Nat := gr w32 k
noncomputable def prF (n : Nat) (g : Nat → Int) (i : Nat) (a : Int) : Nat → Option Nat := pr (prs n g) (cvI i (qg a)) (rF (prs n g))
noncomputable def lawK (n m : Nat) (g h : Nat → Int) (G a : Int) (i : Nat) : CallerT := addK 24 (selRun J6.runN) (addK 7 (runP3 n m g h G a i) (addK 25 (selRun (run2 grow)) (addK 26 (selRun (run2 grow)) (addK 27 (selRun (run2 cb))
  (addK 16 (runPs n g) (addK 28 (runCG (prs n g) (cvI i (qg a))) (addK 29 (runPC (prs n g) (cvI i (qg a))) (addK 30 (runCS (prs n g) (prF n g i a) i) (addK 31 (runCS (prs n g) (prF n g i a) i) extK)))))))))
def big (n m : Nat) : Bool := cond (decide ((n : Int) > 4096)) true (decide ((m : Int) > 4096))
noncomputable def p1 (G a : Option Nat) : Bool := bif andB (bif andB (bif bif bif false then true else fcmp .neq .f32 (grow G a) (grow G a) then true else fcmp .lss .f32 (grow G a) a then true else fcmp .gtr .f32 (grow G a) one) true then true else fcmp .neq .f32 (grow G (some 0)) (some 0)) true then true else fcmp .neq .f32 (grow G one) one
noncomputable def p2 (G a : Option Nat) : Bool := bif bif andB (bif nr (grow G (cb G a)) a (some 953267991) then false else true) (fcmp .gtr .f32 a (some 0)) then true else fcmp .lss .f32 (cb G a) (some 0) then true else fcmp .gtr .f32 (cb G a) one
noncomputable def p3 (v a x : Option Nat) (e : Int) : Bool := bif impB (e == e) (andB (bif false then true else fcmp .lss .f32 v a) true) then true else fcmp .neq .f32 x x
noncomputable def p4 (x : Option Nat) (e : Int) : Bool := bif e == 4 then true else andB (andB (e == 0) (fcmp .geq .f32 x (some 0))) (fcmp .leq .f32 x one)
def V (b P1 P2 P3 P4 : Bool) : Bool := bif b then true else bif P1 then false else bif P2 then false else bif P3 then false else P4
def O (b P1 P2 k1 k2 a1 a2 a3 a4 c1 c2 c3 d1 d2 d3 d4 d5 d6 : Bool) : Bool := impB (!b) (andB k1 (andB k2 (andB a1 (andB a2 (andB a3 (andB a4 (impB (!P1) (andB c1 (andB c2 (andB (andB (andB c3 true) true) (impB (!P2) (andB d1 (andB d2 (andB d3 (andB d4 (andB d5 (andB d6 true)))))))))))))))))
noncomputable def vv (n : Nat) (g : Nat → Int) (i : Nat) (a : Int) : Option Nat := grow (prs n g 80) (cvI i (qg a) i)
noncomputable def okCG (f c : Nat → Option Nat) : Bool := okPC f c
theorem eLaw0 (n m : Nat) (g h : Nat → Int) (G a : Int) : evF Try.prog (lawK n m g h G a 0) noL 20 8 4 [.slc 0 0 n, .slc 1 0 m] [.rows false n 1 (ur g), .rows false m 1 (ur h)] =
  some (.leaf (.bool (J7.V (big n m) (p1 (qg G) (qg a)) (p2 (qg G) (qg a)) (p3 (vv n g 0 a) (qg a) (vx (prs n g) (prF n g 0 a) 0) (ve (prs n g) (prF n g 0 a) 0)) (p4 (vx (prs n g) (prF n g 0 a) 0) (ve (prs n g) (prF n g 0 a) 0))), none),
    O (big n m) (p1 (qg G) (qg a)) (p2 (qg G) (qg a)) (okPk n g 9) (okPk m h 33) (andB (sh (qg G)) (sh (qg a))) (andB (sh (qg G)) (sh (qg a))) (andB (sh (qg G)) (sh (some 0))) (andB (sh (qg G)) (sh one)) (andB (sh (qg G)) (sh (qg a))) (andB (sh (qg G)) (sh (cb (qg G) (qg a)))) (obN (fop .sub .f32 (grow (qg G) (cb (qg G) (qg a))) (qg a)))
      (okPs n g) (okPk m h 4) (okCG (prs n g) (cvI 0 (qg a))) (okPC (prs n g) (cvI 0 (qg a))) (okCS (prs n g) (prF n g 0 a) 0) (okCS (prs n g) (prF n g 0 a) 0)) := by kernel_rfl
theorem eLaw1 (n m : Nat) (g h : Nat → Int) (G a : Int) : evF Try.prog (lawK n m g h G a 1) noL 20 8 4 [.slc 0 0 n, .slc 1 0 m] [.rows false n 1 (ur g), .rows false m 1 (ur h)] =
  some (.leaf (.bool (J7.V (big n m) (p1 (qg G) (qg a)) (p2 (qg G) (qg a)) (p3 (vv n g 1 a) (qg a) (vx (prs n g) (prF n g 1 a) 1) (ve (prs n g) (prF n g 1 a) 1)) (p4 (vx (prs n g) (prF n g 1 a) 1) (ve (prs n g) (prF n g 1 a) 1))), none),
    O (big n m) (p1 (qg G) (qg a)) (p2 (qg G) (qg a)) (okPk n g 9) (okPk m h 33) (andB (sh (qg G)) (sh (qg a))) (andB (sh (qg G)) (sh (qg a))) (andB (sh (qg G)) (sh (some 0))) (andB (sh (qg G)) (sh one)) (andB (sh (qg G)) (sh (qg a))) (andB (sh (qg G)) (sh (cb (qg G) (qg a)))) (obN (fop .sub .f32 (grow (qg G) (cb (qg G) (qg a))) (qg a)))
      (okPs n g) (okPk m h 4) (okCG (prs n g) (cvI 1 (qg a))) (okPC (prs n g) (cvI 1 (qg a))) (okCS (prs n g) (prF n g 1 a) 1) (okCS (prs n g) (prF n g 1 a) 1)) := by kernel_rfl
theorem eLaw2 (n m : Nat) (g h : Nat → Int) (G a : Int) : evF Try.prog (lawK n m g h G a 2) noL 20 8 4 [.slc 0 0 n, .slc 1 0 m] [.rows false n 1 (ur g), .rows false m 1 (ur h)] =
  some (.leaf (.bool (J7.V (big n m) (p1 (qg G) (qg a)) (p2 (qg G) (qg a)) (p3 (vv n g 2 a) (qg a) (vx (prs n g) (prF n g 2 a) 2) (ve (prs n g) (prF n g 2 a) 2)) (p4 (vx (prs n g) (prF n g 2 a) 2) (ve (prs n g) (prF n g 2 a) 2))), none),
    O (big n m) (p1 (qg G) (qg a)) (p2 (qg G) (qg a)) (okPk n g 9) (okPk m h 33) (andB (sh (qg G)) (sh (qg a))) (andB (sh (qg G)) (sh (qg a))) (andB (sh (qg G)) (sh (some 0))) (andB (sh (qg G)) (sh one)) (andB (sh (qg G)) (sh (qg a))) (andB (sh (qg G)) (sh (cb (qg G) (qg a)))) (obN (fop .sub .f32 (grow (qg G) (cb (qg G) (qg a))) (qg a)))
      (okPs n g) (okPk m h 4) (okCG (prs n g) (cvI 2 (qg a))) (okPC (prs n g) (cvI 2 (qg a))) (okCS (prs n g) (prF n g 2 a) 2) (okCS (prs n g) (prF n g 2 a) 2)) := by kernel_rfl
theorem eLaw3 (n m : Nat) (g h : Nat → Int) (G a : Int) : evF Try.prog (lawK n m g h G a 3) noL 20 8 4 [.slc 0 0 n, .slc 1 0 m] [.rows false n 1 (ur g), .rows false m 1 (ur h)] =
  some (.leaf (.bool (J7.V (big n m) (p1 (qg G) (qg a)) (p2 (qg G) (qg a)) (p3 (vv n g 3 a) (qg a) (vx (prs n g) (prF n g 3 a) 3) (ve (prs n g) (prF n g 3 a) 3)) (p4 (vx (prs n g) (prF n g 3 a) 3) (ve (prs n g) (prF n g 3 a) 3))), none),
    O (big n m) (p1 (qg G) (qg a)) (p2 (qg G) (qg a)) (okPk n g 9) (okPk m h 33) (andB (sh (qg G)) (sh (qg a))) (andB (sh (qg G)) (sh (qg a))) (andB (sh (qg G)) (sh (some 0))) (andB (sh (qg G)) (sh one)) (andB (sh (qg G)) (sh (qg a))) (andB (sh (qg G)) (sh (cb (qg G) (qg a)))) (obN (fop .sub .f32 (grow (qg G) (cb (qg G) (qg a))) (qg a)))
      (okPs n g) (okPk m h 4) (okCG (prs n g) (cvI 3 (qg a))) (okPC (prs n g) (cvI 3 (qg a))) (okCS (prs n g) (prF n g 3 a) 3) (okCS (prs n g) (prF n g 3 a) 3)) := by kernel_rfl
end Go.Proofs.Ytpnjimpiphbcfaa.J7
set_option linter.unusedVariables false
set_option linter.unusedSimpArgs false
set_option exponentiation.threshold 3000
set_option maxRecDepth 100000
namespace Go.Proofs.Ytpnjimpiphbcfaa.J8
open Go Go.Sx Go.Sx.R0 Go.Sx.C5 Go.Sx.C1 Go.Sx.Fl Go.Sx.Ink Ieee Go.Proofs.Ytpnjimpiphbcfaa.J1 Go.Proofs.Ytpnjimpiphbcfaa.J3 Go.Proofs.Ytpnjimpiphbcfaa.J4 Go.Proofs.Ytpnjimpiphbcfaa.J5 Go.Proofs.Ytpnjimpiphbcfaa.J6 Go.Proofs.Ytpnjimpiphbcfaa.V5 Go.Proofs.Ytpnjimpiphbcfaa.T5 Go.Proofs.Ytpnjimpiphbcfaa.J7

theorem fcmp_key6 {x y : Nat} (hx : Wd x) (hy : Wd y) : fcmp .geq .f32 (some x) (some y) = decide (key x ≥ key y) ∧ fcmp .leq .f32 (some x) (some y) = decide (key x ≤ key y) ∧ fcmp .neq .f32 (some x) (some y) = !decide (key x = key y) := by
  rw [fcmp_eq]
  simp only [fcmpReal, order_key hx hy]
  rw [cmp_gt, cmp_eq, cmp_lt]
  refine ⟨?_, ?_, ?_⟩
  · by_cases h : key x > key y
    · rw [decide_eq_true h, decide_eq_true (show key x ≥ key y by omega)]; rfl
    · rw [decide_eq_false h, Bool.false_or, decide_eq_decide]; omega
  · by_cases h : key x < key y
    · rw [decide_eq_true h, decide_eq_true (show key x ≤ key y by omega)]; rfl
    · rw [decide_eq_false h, Bool.false_or, decide_eq_decide]; omega
  · have := cmp_eq (key x) (key y)
    show (!(some (compare (key x) (key y)) == some Ordering.eq)) = _
    rw [this]
theorem wd0 : Wd 0 := ⟨by decide, by decide +kernel⟩
theorem wd1 : Wd 1065353216 := ⟨by decide, by decide +kernel⟩
theorem k0 : key 0 = 0 := by decide
theorem k1 : key 1065353216 = 1065353216 := by decide
theorem in01 {z : Nat} (hz : Wd z) (h0 : 0 ≤ key z) (h1 : key z ≤ 1065353216) : fcmp .geq .f32 (some z) (some 0) = true ∧ fcmp .leq .f32 (some z) one = true ∧ fcmp .neq .f32 (some z) (some z) = false := by
  rw [(fcmp_key6 hz wd0).1, (fcmp_key6 hz wd1).2.1, (fcmp_key6 hz hz).2.2, k0, k1, decide_eq_true h0, decide_eq_true h1, decide_eq_true rfl]
  exact ⟨rfl, rfl, rfl⟩
theorem hilo {z : Nat} (hz : Wd z) : ∃ x, hi (lo (some z)) = some x ∧ Wd x ∧ 0 ≤ key x ∧ key x ≤ 1065353216 := by
  have l : ∃ x, lo (some z) = some x ∧ Wd x ∧ 0 ≤ key x := by
    unfold lo
    rw [(fcmp_key hz wd0).1, k0]
    by_cases h : key z < 0
    · rw [decide_eq_true h]; exact ⟨0, rfl, wd0, by rw [k0]; omega⟩
    · rw [decide_eq_false h]; exact ⟨z, rfl, hz, by omega⟩
  obtain ⟨x, e, hx, h0⟩ := l
  rw [e]
  unfold hi
  rw [(fcmp_key hx wd1).2, k1]
  by_cases h : key x > 1065353216
  · rw [decide_eq_true h]; exact ⟨_, rfl, wd1, by rw [k1]; omega, by rw [k1]; omega⟩
  · rw [decide_eq_false h]; exact ⟨x, rfl, hx, h0, by omega⟩
theorem seen_ok (f m : Nat → Option Nat) (n : Nat) : p4 (vx f m n) (ve f m n) = true ∧ fcmp .neq .f32 (vx f m n) (vx f m n) = false := by
  unfold vx ve
  cases hb : bad f m n with
  | true =>
    have := in01 wd0 (by rw [k0]; omega) (by rw [k0]; omega)
    exact ⟨rfl, this.2.2⟩
  | false =>
    unfold bad at hb
    have hq : fcmp .neq .f32 (qu f m n) (qu f m n) = false := by
      cases h : fcmp .eql .f32 (bel f n) (some 0) with
      | true => rw [h] at hb; cases hb
      | false => rw [h] at hb; exact hb
    have hw : ∀ z, qu f m n = some z → Wd z := fun z h => fop_wd h
    cases h : qu f m n with
    | none =>
      rw [h, fcmp_eq] at hq
      exact absurd hq (by decide)
    | some z =>
      obtain ⟨x, e, hx, h0, h1⟩ := hilo (hw z h)
      obtain ⟨a1, a2, a3⟩ := in01 hx h0 h1
      show p4 (hi (lo (some z))) 0 = true ∧ fcmp .neq .f32 (hi (lo (some z))) (hi (lo (some z))) = false
      rw [e]
      unfold p4
      rw [a1, a2]
      exact ⟨rfl, a3⟩
def chkW : Bool := (List.range 9).all fun j => (List.range 33).all fun k => !cmpR .lss (growR (grR w16 (Int.ofNat j)) (grR w32 (Int.ofNat k))) (grR w32 (Int.ofNat k))
theorem cW : chkW = true := by decide +kernel
theorem cW_of {j k : Nat} (hj : j ≤ 8) (hk : k ≤ 32) : fcmp .lss .f32 (grow (gr w16 (Int.ofNat j)) (gr w32 (Int.ofNat k))) (gr w32 (Int.ofNat k)) = false := by
  have h := cW
  unfold chkW at h
  rw [List.all_eq_true] at h
  have h := h j (List.mem_range.2 (by omega))
  rw [List.all_eq_true] at h
  have h := h k (List.mem_range.2 (by omega))
  rw [grow_R, gr_eq, gr_eq, fcmp_eq]
  simpa [cmpR] using h
theorem okG_of {j k : Nat} (hj : j ≤ 8) (hk : k ≤ 32) : okG (gr w32 (Int.ofNat j)) (gr w32 (Int.ofNat k)) = true := by
  have h : chkG j = true := by
    rcases j with _ | _ | _ | _ | _ | _ | _ | _ | _ | j
    · exact cg0
    · exact cg1
    · exact cg2
    · exact cg3
    · exact cg4
    · exact cg5
    · exact cg6
    · exact cg7
    · exact cg8
    · omega
  unfold chkG at h
  rw [List.all_eq_true] at h
  have h := h k (List.mem_range.2 (by omega))
  rw [gr_eq, gr_eq]
  exact h
theorem okG_p {g a : Option Nat} (h : okG g a = true) : sh g = true ∧ sh a = true ∧ p1 g a = false ∧ p2 g a = false ∧ sh (cb g a) = true ∧ obN (fop .sub .f32 (grow g (cb g a)) a) = true := by
  unfold okG at h
  simp only [Bool.and_eq_true, Bool.not_eq_true', Bool.or_eq_true] at h
  obtain ⟨⟨⟨⟨⟨⟨⟨⟨⟨⟨⟨h1, h2⟩, h3⟩, h4⟩, h5⟩, h6⟩, h7⟩, h8⟩, h9⟩, h10⟩, h11⟩, h12⟩ := h
  have e : cb g a = cbR g a 20 (some 0) one := cbf_R g a 20 _ _
  refine ⟨by rw [sh_R]; exact h1, by rw [sh_R]; exact h2, ?_, ?_, by rw [sh_R, e]; exact h8, by rw [obN_R, grow_R, e]; exact h9⟩
  · unfold p1
    rw [grow_R, grow_R, grow_R, fcmp_eq]
    unfold cmpR at h3 h4 h5 h6 h7
    rw [h3, h4, h5, h6, h7]; rfl
  · unfold p2
    rw [nr_R, grow_R, e, fcmp_eq]
    unfold cmpR at h10 h11 h12
    rw [h11, h12]
    rcases h10 with h | h
    · rw [h]; cases fcmpReal .gtr .f32 a (some 0) <;> rfl
    · rw [h]; cases nrR (growR g (cbR g a 20 (some 0) one)) a (some 953267991) <;> rfl
theorem qg_LE {k : Nat} (hk : k ≤ 32) : LE 1 (qg (Int.ofNat k)) := by
  refine ⟨_, chk_of c32' (k := k) (by omega), ?_⟩
  have : (2 : Nat) ^ 1074 = 32 * 2 ^ 1069 := by rw [show (1074 : Nat) = 5 + 1069 from rfl, Nat.pow_add]
  rw [Nat.one_mul, this]
  exact Nat.mul_le_mul_right _ hk
theorem zero_LE : LE 1 (some 0) := ⟨0, by have := NV_zero; rwa [Nat.zero_mul] at this, Nat.zero_le _⟩
theorem cvI_Sh {i k : Nat} (hk : k ≤ 32) : ShC (cvI i (qg (Int.ofNat k))) := fun j _ => by
  unfold cvI
  cases Nat.beq j i
  · exact zero_LE
  · exact qg_LE hk
end Go.Proofs.Ytpnjimpiphbcfaa.J8
