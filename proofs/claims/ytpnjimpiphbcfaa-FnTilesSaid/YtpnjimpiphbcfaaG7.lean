/- Texts of one claim, put together. -/
import Derived.Test.YtpnjimpiphbcfaaG6
import Derived.Test.YtpnjimpiphbcfaaG5
set_option linter.unusedVariables false
set_option linter.unusedSimpArgs false
set_option exponentiation.threshold 3000
set_option maxRecDepth 100000
namespace Go.Proofs.Ytpnjimpiphbcfaa.K9
open Go Go.Sx Go.Sx.R0 Go.Sx.C5 Go.Sx.C1 Go.Sx.Fl Go.Sx.Ink Ieee Go.Proofs.Ytpnjimpiphbcfaa.J1 Go.Proofs.Ytpnjimpiphbcfaa.J2 Go.Proofs.Ytpnjimpiphbcfaa.J4 Go.Proofs.Ytpnjimpiphbcfaa.J5 Go.Proofs.Ytpnjimpiphbcfaa.V5 Go.Proofs.Ytpnjimpiphbcfaa.O5 Go.Proofs.Ytpnjimpiphbcfaa.X5 Go.Proofs.Ytpnjimpiphbcfaa.K5 Go.Proofs.Ytpnjimpiphbcfaa.K6 Go.Proofs.Ytpnjimpiphbcfaa.K7 Go.Proofs.Ytpnjimpiphbcfaa.K8

theorem eP17 (n : Nat) (g : Nat → Int) : evF Try.prog extK noL 20 8 7 [.slc 0 0 n, .lit (.int .i64 17)] [.rows false n 1 (ur g)] = some (.leaf (.int .i64 (xp n g 17 0 0), none), andB (andB (andB (andB (oj n 0) true) true) true) true) := by kernel_rfl
theorem pickOk (n : Nat) (g : Nat → Int) {l : Nat} (h : xp n g 17 0 0 = Int.ofNat l) : SumOk Try.prog 7 (J7.runPk n g 17 (.int .i64 (Int.ofNat l))) := sum_atH sxApart sxMixed extK_ok noL (N := 20) (d := 8) fun _ => by
  have e := eP17 n g
  rw [oj_true, h] at e
  exact ⟨noL_all, _, e, LLe.refl _⟩
def t1 (l i : Nat) : Bool := bif Nat.blt i 16 then tl l i else false
def tu4 (U : Nat → Bool) : Nat → Bool := tu (tu (tu (tu U)))
noncomputable def HR (n m : Nat) (g h : Nat → Int) (l : Nat) (U : Nat → Bool) (f c : Nat → Option Nat) : List Blk := appH (HB n m g h l (b16 (nb 16))) [.one true (b16 U), .one true (b16 (tu U)), .one true (b16 (tu4 U)), .one true (pcs f), .one true (Q5.cv c), .one true (bl (tcv c)), .one true (bl (tcv c)), .one true (cF (av f (tcv c))), .one true (cF (av f (tcv c))), .one true (cF (av f (t1 l))), .one true (cF (ov f false false false false)), .one true (cF (ov f true false false false))]
noncomputable def LT (n m : Nat) (g h : Nat → Int) (l : Nat) (U : Nat → Bool) (f c : Nat → Option Nat) : LoopOr :=
  loopAt 10 [0, 1, 5, 6, 10] (SA n m g h l (.int .i64 0)) (.leaf (.ext 0, EA n m g h l))
  (loopAt 17 [0, 1, 5, 6, 13, 14] (SB n m g h l (b16 (nb 0)) (.int .i64 0)) (.leaf (.ext 2, EB n m g h l (b16 (nb 16))))
  (loopAt 45 [5, 31, 33, 35, 37] (SD l (HR n m g h l U f c) (.int .i64 0)) (.leaf (.ext 6, ED (HD (av f (t1 l)) (ov f false false false false) (ov f true false false false)))) noL))
noncomputable def lawK (n m : Nat) (g h : Nat → Int) (l : Nat) (U : Nat → Bool) (f c : Nat → Option Nat) : CallerT := addK 7 (J7.runPk n g 17 (.int .i64 (Int.ofNat l))) (addK 8 (selRun runTl) (addK 9 (selRun runTl) (addK 10 (selRun runLv) (addK 11 (selRun runOu) (addK 13 (runPT m h)
  (addK 14 (selRun runTu) (addK 15 (selRun runTu) (addK 16 (J7.runPs m h) (addK 17 (runCv m h) (addK 18 (runTOf c) (addK 19 (runTOf c) (addK 20 (selRun (runTC f)) (addK 21 (selRun (runTC f))
  (addK 22 (selRun (runOvC f)) (addK 23 (runSC (av f (tcv c))) extK)))))))))))))))
def nt (b : Bool) : Bool := cond b false true
def big (n m : Nat) : Bool := cond (decide ((n : Int) > 4096)) true (decide ((m : Int) > 4096))
def q64 (W : Nat → Bool) : Bool := andB (q16 (fun i => W (i + 0)) (fun i => W (i + 0))) (andB (q16 (fun i => W (i + 16)) (fun i => W (i + 16))) (andB (q16 (fun i => W (i + 32)) (fun i => W (i + 32))) (andB (q16 (fun i => W (i + 48)) (fun i => W (i + 48))) true)))
def V (b z0 tt z1 d ub ou1 ou2 w : Bool) : Bool := cond b true (cond (impB z0 (nt tt)) false (cond (impB ou2 (impB ou1 (impB z1 (impB ub (nt d))))) false (cond (nt w) false (cond (andB (andB (andB (nt true) true) true) true) false true))))
def O (b z0 tt z1 d ub ou1 ou2 w qp q8 q9 qa l1 l2 qPT t1 t2 t3 t4 t5 v1 v2 o1 o2 o3 qPC qc k1 k2 c1 c2 c3 p1 p2 sc l3 : Bool) : Bool :=
  impB (!b) (andB qp (andB q8 (andB q9 (andB (impB (nt (nt tt)) (andB qa true)) (impB (!impB z0 (nt tt)) (andB l1 (andB l2 (andB qPT (andB t1 (andB t2 (andB t3 (andB t4 (andB (andB t5 (andB (impB (nt (impB ub (nt d))) (andB v1 (andB v2 true))) (andB (impB (nt (impB z1 (impB ub (nt d)))) (andB o1 true)) (andB (impB (nt (impB ou1 (impB z1 (impB ub (nt d))))) (andB o2 (andB o3 true))) true))))
    (impB (!impB ou2 (impB ou1 (impB z1 (impB ub (nt d))))) (andB qPC (andB qc (andB k1 (andB k2 (impB (!nt w) (andB c1 (andB c2 (andB c3 (andB p1 (andB p2 (andB (andB (andB sc true) true) (impB (!andB (andB (andB (nt true) true) true) true) (andB l3 true)))))))))))))))))))))))))))
theorem eLaw (n m : Nat) (g h : Nat → Int) (l : Nat) : evF Try.prog (lawK n m g h l (uT m h) (prs m h) (cvr m h)) (LT n m g h l (uT m h) (prs m h) (cvr m h)) 20 8 3 [.slc 0 0 n, .slc 1 0 m] [.rows false n 1 (ur g), .rows false m 1 (ur h)] =
  some (.leaf (.bool (K9.V (big n m) (Int.ofNat (cn (tl l) 16) == Int.ofNat l) (q16 (tl l) (tl l)) (Int.ofNat (cn (tu (uT m h)) 16) == Int.ofNat (cn (uT m h) 16)) (q16 (tu (uT m h)) (tu (uT m h))) (q16 (tu4 (uT m h)) (uT m h)) (q16 (ou (uT m h) (uT m h)) (uT m h)) (q16 (ou (tl l) (uT m h)) (ou (uT m h) (tl l))) (q64 (tcv (cvr m h)))), none),
    O (big n m) (Int.ofNat (cn (tl l) 16) == Int.ofNat l) (q16 (tl l) (tl l)) (Int.ofNat (cn (tu (uT m h)) 16) == Int.ofNat (cn (uT m h) 16)) (q16 (tu (uT m h)) (tu (uT m h))) (q16 (tu4 (uT m h)) (uT m h)) (q16 (ou (uT m h) (uT m h)) (uT m h)) (q16 (ou (tl l) (uT m h)) (ou (uT m h) (tl l))) (q64 (tcv (cvr m h)))
      (J7.okPk n g 17) (Nat.ble l 16) (Nat.ble l 16) (okC [.agg (b16 (tl l))]) (deqS (SA n m g h l (.int .i64 0)) (SA n m g h l (.int .i64 0))) (deqS (SB n m g h l (b16 (nb 0)) (.int .i64 0)) (SB n m g h l (b16 (nb 0)) (.int .i64 0))) (J7.okPs m h)
      (okC [.agg (b16 (uT m h))]) (okC [.agg (b16 (tu (uT m h)))]) (okC [.agg (b16 (tu (tu (uT m h))))]) (okC [.agg (b16 (tu (tu (tu (uT m h)))))]) (okC [.agg (b16 (uT m h))]) (okC [.agg (b16 (tu (uT m h)))]) (okC [.agg (b16 (uT m h))])
      (okC [.agg (b16 (uT m h)), .agg (b16 (uT m h))]) (okC [.agg (b16 (tl l)), .agg (b16 (uT m h))]) (okC [.agg (b16 (uT m h)), .agg (b16 (tl l))]) (J7.okPs m h) (J7.okPs m h) (okAt [.agg (Q5.cv (cvr m h))]) (okAt [.agg (Q5.cv (cvr m h))])
      (okC [.agg (pcs (prs m h)), .agg (bl (tcv (cvr m h)))]) (okC [.agg (pcs (prs m h)), .agg (bl (tcv (cvr m h)))]) (okC [.agg (pcs (prs m h)), .agg (bl (t1 l))]) (okC [.agg (pcs (prs m h)), .agg (bk false false false false)]) (okC [.agg (pcs (prs m h)), .agg (bk true false false false)])
      (okAt [.agg (cF (av (prs m h) (tcv (cvr m h)))), .agg (cF (av (prs m h) (tcv (cvr m h))))]) (deqS (SD l (HR n m g h l (uT m h) (prs m h) (cvr m h)) (.int .i64 0)) (SD l (HR n m g h l (uT m h) (prs m h) (cvr m h)) (.int .i64 0)))) := by kernel_rfl
end Go.Proofs.Ytpnjimpiphbcfaa.K9
set_option linter.unusedVariables false
set_option linter.unusedSimpArgs false
set_option exponentiation.threshold 3000
set_option maxRecDepth 100000
namespace Go.Sx.Pr
open Go Go.Sx Go.Sx.Fl Go.Sx.C5 Go.Sx.Ink Ieee
/-- a sixteenth -/
theorem quo16 {a : Option Nat} {A : Nat} (ha : NV a A) : ∃ B, A = 16 * B ∧ NV (fop .quo .f32 a (some 1098907648)) (rd B) := by
  have hrep := ha.rep.2
  obtain ⟨x, s, rfl, ⟨m, i, h1, h2, rfl⟩, h3⟩ := ha
  have hx : single.read x = .number s m i := h1
  have hy : single.read 1098907648 = .number false 8388608 (-19) := by decide +kernel
  obtain ⟨p1, p2, p3⟩ := fin_place hx
  have hA : m * 2 ^ (i + 1074).toNat = 16 * (m * 2 ^ (i + 1070).toNat) := by
    rw [show (i + 1074).toNat = 4 + (i + 1070).toNat by omega, Nat.pow_add, Nat.mul_left_comm]
  refine ⟨m * 2 ^ (i + 1070).toNat, hA, ?_⟩
  rw [fop_eq]
  show NV (single.div x 1098907648) _
  unfold Format.div
  rw [hx, hy]
  unfold Datum.quotient
  simp only
  rw [if_neg (by decide)]
  simp only [Option.map_some]
  have hfb : single.fractionBits + 2 + Nat.log2 8388608 = 48 := by decide
  rw [hfb]
  have hml : m.log2 ≤ 23 := by
    by_cases h : m = 0
    · subst h; decide
    · have := (Nat.log2_lt h).2 p3; omega
  obtain ⟨r, hr⟩ : ∃ r, 48 - m.log2 = 23 + r := ⟨25 - m.log2, by omega⟩
  rw [hr, Nat.shiftLeft_eq]
  have e1 : m * 2 ^ (23 + r) = m * 2 ^ r * 8388608 := by
    rw [Nat.pow_add, Nat.mul_left_comm, Nat.mul_comm (2 ^ 23)]
  have e2 : m * 2 ^ (23 + r) / 8388608 = m * 2 ^ r := by rw [e1, Nat.mul_div_cancel _ (by decide)]
  have e3 : m * 2 ^ (23 + r) % 8388608 = 0 := by rw [e1, Nat.mul_mod_left]
  rw [e2, e3]
  have hpl : -1074 ≤ i - -19 - ((23 + r : Nat) : Int) - 1 := by omega
  have hv : (2 * (m * 2 ^ r) + (0 != 0 : Bool).toNat) * 2 ^ (i - -19 - ((23 + r : Nat) : Int) - 1 + 1074).toNat = m * 2 ^ (i + 1070).toNat := by
    have e4 : 2 * (m * 2 ^ r) + (0 != 0 : Bool).toNat = m * 2 ^ (r + 1) := by
      show 2 * (m * 2 ^ r) + 0 = _
      rw [Nat.pow_succ, Nat.add_zero, Nat.mul_comm 2, Nat.mul_assoc]
    rw [e4, Nat.mul_assoc, ← Nat.pow_add]
    congr 2
    omega
  have hf : g32 (m * 2 ^ (i + 1070).toNat) < single.infRung := Nat.lt_of_le_of_lt (gR_mono (by rw [hA]; omega)) hrep
  rw [← hv] at hf
  have hw := write32 (s ^^ false) _ _ hpl hf
  rw [hv] at hw
  refine ⟨_, _, rfl, hw, fun hs => ?_⟩
  have hs' : s = true := by cases s <;> simp_all
  have h0 := h3 hs'
  rw [hA] at h0
  have : m * 2 ^ (i + 1070).toNat = 0 := by omega
  rw [this]
  exact rd_zero
end Go.Sx.Pr

namespace Go.Proofs.Ytpnjimpiphbcfaa.KA
open Go Go.Sx Go.Sx.R0 Go.Sx.C5 Go.Sx.C1 Go.Sx.Fl Go.Sx.Ink Go.Sx.Pr Ieee Go.Proofs.Ytpnjimpiphbcfaa.J1 Go.Proofs.Ytpnjimpiphbcfaa.J2 Go.Proofs.Ytpnjimpiphbcfaa.J4 Go.Proofs.Ytpnjimpiphbcfaa.J5 Go.Proofs.Ytpnjimpiphbcfaa.V5 Go.Proofs.Ytpnjimpiphbcfaa.O5 Go.Proofs.Ytpnjimpiphbcfaa.X5 Go.Proofs.Ytpnjimpiphbcfaa.K5 Go.Proofs.Ytpnjimpiphbcfaa.K6 Go.Proofs.Ytpnjimpiphbcfaa.K7 Go.Proofs.Ytpnjimpiphbcfaa.K8 Go.Proofs.Ytpnjimpiphbcfaa.K9

theorem cn_tl {l : Nat} (h : l ≤ 16) : cn (tl l) 16 = l := by
  rcases l with _ | _ | _ | _ | _ | _ | _ | _ | _ | _ | _ | _ | _ | _ | _ | _ | _ | l
  · decide
  · decide
  · decide
  · decide
  · decide
  · decide
  · decide
  · decide
  · decide
  · decide
  · decide
  · decide
  · decide
  · decide
  · decide
  · decide
  · decide
  · omega
theorem cn_tu (U : Nat → Bool) : cn (tu U) 16 = cn U 16 := by
  simp only [cn, tu]
  simp
  omega
theorem q16_tu4 (U : Nat → Bool) : q16 (tu4 U) U = true := by
  have : q16 (tu4 U) U = q16 U U := rfl
  rw [this]
  exact q16_true fun _ => rfl
theorem q16_self (U : Nat → Bool) : q16 U U = true := q16_true fun _ => rfl
theorem q16_ou (U : Nat → Bool) : q16 (ou U U) U = true := q16_true fun i => by unfold ou; cases U i <;> rfl
theorem q16_oc (T U : Nat → Bool) : q16 (ou T U) (ou U T) = true := q16_true fun i => by unfold ou; cases U i <;> cases T i <;> rfl
theorem q64_true (W : Nat → Bool) : q64 W = true := by unfold q64; rw [q16_self, q16_self, q16_self, q16_self]; rfl
-- sums of sixteen places
theorem e55 : (2 : Nat) ^ 1055 = 32 * ve := by unfold ve; rw [show (1055 : Nat) = 5 + 1050 from rfl, Nat.pow_add]
theorem rd32 {X : Nat} (h : X < 16777216 * (32 * ve)) : nw 32 (rd X) X ∧ g32 X < single.infRung := by
  have h' : X < 2 ^ 24 * 2 ^ 1055 := by rw [e55]; exact h
  obtain ⟨h1, h2, h3⟩ := rd_e h' (by omega) (by omega)
  rw [e55] at h1 h2
  exact ⟨⟨h1, h2⟩, h3⟩
theorem rd2 {X : Nat} (h : X < 16777216 * (2 * ve)) : nw 2 (rd X) X := by
  have e : (2 : Nat) ^ 1051 = 2 * ve := by unfold ve; rw [show (1051 : Nat) = 1 + 1050 from rfl, Nat.pow_add]
  have h' : X < 2 ^ 24 * 2 ^ 1051 := by rw [e]; exact h
  obtain ⟨h1, h2, _⟩ := rd_e h' (by omega) (by omega)
  rw [e] at h1 h2
  exact ⟨h1, h2⟩
theorem op_tl (f : Nat → Option Nat) (l : Nat) {p : Nat} (hp : p < 16) (w : Nat) : op f (t1 l) p w = bif tl l p then ov f true false false false w else ov f false false false false w := by
  unfold op t1
  rw [Nat.zero_add, blt_lt hp, blt_ge (show 16 ≤ 16 + p by omega), blt_ge (show 16 ≤ 32 + p by omega), blt_ge (show 16 ≤ 48 + p by omega)]
  show ov f (tl l p) false false false w = _
  cases tl l p <;> rfl
theorem sum_p {S E X R y v U : Nat} (h : S ≤ E + y ∧ E ≤ S + y) (k : R ≤ S + X + 32 * v ∧ S + X ≤ R + 32 * v) : R ≤ E + X + (y + 32 * v) ∧ E + X ≤ R + (y + 32 * v) := by omega
theorem sum_q {S E X y v : Nat} (h : S ≤ E + y) (hy : y ≤ 512 * v) (hE : E + X ≤ 16 * (16777216 * v)) (hv : 0 < v) : S + X < 16777216 * (32 * v) := by omega
theorem ac_e {f : Nat → Option Nat} {l w P Q : Nat} (hp : NV (ov f false false false false w) P) (hq : NV (ov f true false false false w) Q) (hP : P ≤ 16777216 * ve) (hQ : Q ≤ 16777216 * ve) : ∀ p, p < 16 → ∃ S, NV (ac f (t1 l) (p + 1) w) S ∧ nw (32 * (p + 1)) S (cn (tl l) (p + 1) * Q + (p + 1 - cn (tl l) (p + 1)) * P)
  | 0, _ => by
    have e : ac f (t1 l) 1 w = op f (t1 l) 0 w := rfl
    rw [e, op_tl f l (by omega)]
    cases h : tl l 0
    · refine ⟨P, hp, ?_⟩
      have : cn (tl l) (0 + 1) = 0 := by show 0 + (tl l 0).toNat = 0; rw [h]; rfl
      rw [this]
      unfold nw; omega
    · refine ⟨Q, hq, ?_⟩
      have : cn (tl l) (0 + 1) = 1 := by show 0 + (tl l 0).toNat = 1; rw [h]; rfl
      rw [this]
      unfold nw; omega
  | p + 1, hp16 => by
    have hv := ve_pos
    obtain ⟨S, s1, s2⟩ := ac_e (l := l) hp hq hP hQ p (by omega)
    have e : ac f (t1 l) (p + 1 + 1) w = fop .add .f32 (ac f (t1 l) (p + 1) w) (op f (t1 l) (p + 1) w) := rfl
    have hc := cn_le (tl l) (p + 1)
    have hk : 32 * (p + 1) * ve ≤ 512 * ve := Nat.mul_le_mul_right _ (by omega)
    have hk2 : 32 * (p + 1 + 1) * ve = 32 * (p + 1) * ve + 32 * ve := by rw [← Nat.add_mul]; congr 1
    have hb1 : cn (tl l) (p + 1) * Q ≤ cn (tl l) (p + 1) * (16777216 * ve) := Nat.mul_le_mul_left _ hQ
    have hb2 : (p + 1 - cn (tl l) (p + 1)) * P ≤ (p + 1 - cn (tl l) (p + 1)) * (16777216 * ve) := Nat.mul_le_mul_left _ hP
    have hb3 : cn (tl l) (p + 1) * (16777216 * ve) + (p + 1 - cn (tl l) (p + 1)) * (16777216 * ve) ≤ 15 * (16777216 * ve) := by
      rw [← Nat.add_mul]
      exact Nat.mul_le_mul_right _ (by omega)
    rw [e, op_tl f l hp16]
    unfold nw at s2
    cases h : tl l (p + 1)
    · have ec : cn (tl l) (p + 1 + 1) = cn (tl l) (p + 1) := by show cn (tl l) (p + 1) + (tl l (p + 1)).toNat = _; rw [h]; rfl
      have hlt := sum_q (X := P) s2.1 hk (by omega) hv
      obtain ⟨r1, r2⟩ := rd32 hlt
      refine ⟨_, s1.add hp r2, ?_⟩
      have e2 : cn (tl l) (p + 1 + 1) * Q + (p + 1 + 1 - cn (tl l) (p + 1 + 1)) * P = cn (tl l) (p + 1) * Q + (p + 1 - cn (tl l) (p + 1)) * P + P := by
        rw [ec, show p + 1 + 1 - cn (tl l) (p + 1) = (p + 1 - cn (tl l) (p + 1)) + 1 by omega, Nat.add_mul _ 1, Nat.one_mul, Nat.add_assoc]
      rw [e2]
      unfold nw
      rw [hk2]
      exact sum_p (U := 0) s2 r1
    · have ec : cn (tl l) (p + 1 + 1) = cn (tl l) (p + 1) + 1 := by show cn (tl l) (p + 1) + (tl l (p + 1)).toNat = _; rw [h]; rfl
      have hlt := sum_q (X := Q) s2.1 hk (by omega) hv
      obtain ⟨r1, r2⟩ := rd32 hlt
      refine ⟨_, s1.add hq r2, ?_⟩
      have e2 : cn (tl l) (p + 1 + 1) * Q + (p + 1 + 1 - cn (tl l) (p + 1 + 1)) * P = cn (tl l) (p + 1) * Q + (p + 1 - cn (tl l) (p + 1)) * P + Q := by
        rw [ec, show p + 1 + 1 - (cn (tl l) (p + 1) + 1) = (p + 1 - cn (tl l) (p + 1)) by omega, Nat.add_mul _ 1, Nat.one_mul]
        omega
      rw [e2]
      unfold nw
      rw [hk2]
      exact sum_p (U := 0) s2 r1
theorem fofI_NV {k : Nat} (hk : k ≤ 16) : NV (fofI .f32 (Int.ofNat k)) (k * 2 ^ 1074) := by
  obtain ⟨x, h1, _, h3⟩ := fofI_num (Int.ofNat k)
  rw [h1]
  have h4 := h3 (by show k ≤ 2 ^ 24; have : (2 : Nat) ^ 24 = 16777216 := by decide
                    omega)
  have e : decide (Int.ofNat k < 0) = false := decide_eq_false (by simp only [Int.ofNat_eq_natCast]; omega)
  rw [e] at h4
  exact NV.of h4
theorem mul_k {o : Option Nat} {k Q : Nat} (hk : k ≤ 16) (hq : NV o Q) (hQ : Q ≤ 16777216 * ve) : NV (mu (fofI .f32 (Int.ofNat k)) o) (rd (k * Q)) ∧ nw 32 (rd (k * Q)) (k * Q) := by
  have hv := ve_pos
  obtain ⟨Z, hZ, hn⟩ := (fofI_NV hk).mul hq
  have e : Z = k * Q := by
    have : Z * 2 ^ 1074 = k * Q * 2 ^ 1074 := by rw [← hZ, Nat.mul_right_comm]
    exact Nat.eq_of_mul_eq_mul_right (Nat.two_pow_pos _) this
  have hlt : k * Q < 16777216 * (32 * ve) := by
    have := Nat.mul_le_mul hk hQ
    omega
  obtain ⟨r1, r2⟩ := rd32 hlt
  rw [e] at hn
  exact ⟨hn r2, r1⟩
theorem fin_m {S M E B B' R R' v : Nat} (hv : 0 < v) (hS : S = 16 * B) (hM : M = 16 * B') (h1 : S ≤ E + 512 * v ∧ E ≤ S + 512 * v) (h2 : M ≤ E + 96 * v ∧ E ≤ M + 96 * v) (r1 : R ≤ B + 2 * v ∧ B ≤ R + 2 * v) (r2 : R' ≤ B' + 2 * v ∧ B' ≤ R' + 2 * v) : R ≤ R' + 1600 * v ∧ R' ≤ R + 1600 * v := by omega
theorem sum_m2 {a b x y R v : Nat} (h1 : x ≤ a + 32 * v ∧ a ≤ x + 32 * v) (h2 : y ≤ b + 32 * v ∧ b ≤ y + 32 * v) (h3 : R ≤ x + y + 32 * v ∧ x + y ≤ R + 32 * v) : R ≤ a + b + 96 * v ∧ a + b ≤ R + 96 * v := by omega
theorem mean_near {f : Nat → Option Nat} (hf : Sh f) {l : Nat} (hl : l ≤ 16) {k : Nat} (hk : k < 16) :
    J6.nr (av f (t1 l) (0 + k)) (mn l (ov f true false false false) (ov f false false false false) k) tk = true ∧ J6.obN (fop .sub .f32 (av f (t1 l) (0 + k)) (mn l (ov f true false false false) (ov f false false false false) k)) = true := by
  have hv := ve_pos
  obtain ⟨p1, p2⟩ := ov_NV hf.p hk false false false false
  obtain ⟨q1, q2⟩ := ov_NV hf.p hk true false false false
  rw [U_ve] at p2 q2
  generalize oV f k false false false false = P at *
  generalize oV f k true false false false = Q at *
  obtain ⟨S, s1, s2⟩ := ac_e (l := l) p1 q1 p2 q2 15 (by omega)
  rw [show 15 + 1 = 16 from rfl, cn_tl hl] at s2
  obtain ⟨B, b1, b2⟩ := quo16 s1
  obtain ⟨m1, m2⟩ := mul_k hl q1 q2
  obtain ⟨m3, m4⟩ := mul_k (k := 16 - l) (by omega) p1 p2
  have hE : l * Q + (16 - l) * P ≤ 16 * (16777216 * ve) := by
    have a := Nat.mul_le_mul_left l q2
    have b := Nat.mul_le_mul_left (16 - l) p2
    have c : l * (16777216 * ve) + (16 - l) * (16777216 * ve) = 16 * (16777216 * ve) := by rw [← Nat.add_mul]; congr 1; omega
    omega
  have hlt : rd (l * Q) + rd ((16 - l) * P) < 16777216 * (32 * ve) := by
    have a := m2.1
    have b := m4.1
    omega
  obtain ⟨r1, r2⟩ := rd32 hlt
  have m5 := m1.add m3 r2
  obtain ⟨B', c1, c2⟩ := quo16 m5
  have ew : IntKind.i64.wrap (16 - Int.ofNat l) = Int.ofNat (16 - l) := by
    rw [wrap_i64 (by simp only [Int.ofNat_eq_natCast]; omega) (by simp only [Int.ofNat_eq_natCast]; omega)]
    simp only [Int.ofNat_eq_natCast]; omega
  have n1 : NV (av f (t1 l) (0 + k)) (rd B) := by rw [Nat.zero_add]; exact b2
  have n2 : NV (mn l (ov f true false false false) (ov f false false false false) k) (rd B') := by
    unfold mn
    rw [ew, Nat.zero_add]
    exact c2
  have h12 := sum_m2 m2 m4 r1
  have hB : B < 16777216 * (2 * ve) := by have := s2.1; omega
  have hB' : B' < 16777216 * (2 * ve) := by have := h12.1; omega
  have hw : nw 1600 (rd B) (rd B') := fin_m hv b1 c1 s2 h12 (rd2 hB) (rd2 hB')
  exact ⟨nr_true n1 n2 hw, (near_e n1 n2).2⟩
end Go.Proofs.Ytpnjimpiphbcfaa.KA
