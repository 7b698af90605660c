/- Ink of a grid: the plain law. -/
import Derived.Test.YtofheiggdbhbjaaSxI11
set_option linter.unusedVariables false
set_option linter.unusedSimpArgs false
set_option exponentiation.threshold 3000
set_option maxRecDepth 100000
namespace Go.Proofs.Ytofheiggdbhbjaa.I12
open Go Go.Sx Go.Sx.R0 Go.Sx.C5 Go.Sx.C1 Go.Sx.Fl Go.Sx.Ink Ieee Go.Proofs.Ytofheiggdbhbjaa.I8 Go.Proofs.Ytofheiggdbhbjaa.I9 Go.Proofs.Ytofheiggdbhbjaa.I10 Go.Proofs.Ytofheiggdbhbjaa.I11

theorem NV0 : NV (some 0) 0 := by have := NV_zero; rwa [Nat.zero_mul] at this
theorem one69 : NV (some 1065353216) (32 * 2 ^ 1069) := by have := one_NV; rwa [show 256 = 8 * 32 from rfl, ← h66] at this
theorem lss0 {o : Option Nat} {A : Nat} (h : NV o A) : fcmp .lss .f32 o (some 0) = false := by
  rw [(fcmp_NV h NV0).2.1]; exact decide_eq_false (by omega)
theorem gtr_no {o u : Option Nat} {A B : Nat} (h : NV o A) (k : NV u B) (hl : A ≤ B) : fcmp .gtr .f32 o u = false := by
  rw [(fcmp_NV h k).1]; exact decide_eq_false (by omega)
theorem eql_yes {o u : Option Nat} {A : Nat} (h : NV o A) (k : NV u A) : fcmp .eql .f32 o u = true := by
  rw [(fcmp_NV h k).2.2.2.2.1]; exact decide_eq_true rfl
theorem neq_no {o u : Option Nat} {A : Nat} (h : NV o A) (k : NV u A) : fcmp .neq .f32 o u = false := by
  rw [(fcmp_NV h k).2.2.2.2.2, decide_eq_true rfl]; rfl
theorem leq_eq {o u : Option Nat} {A B : Nat} (h : NV o A) (k : NV u B) : fcmp .leq .f32 o u = decide (A ≤ B) := (fcmp_NV h k).2.2.2.1
theorem geq_eq {o u : Option Nat} {A B : Nat} (h : NV o A) (k : NV u B) : fcmp .geq .f32 o u = decide (A ≥ B) := (fcmp_NV h k).2.2.1
theorem sh_NV {o : Option Nat} {A : Nat} (h : NV o A) (hA : A ≤ 32 * 2 ^ 1069) : sh o = true := by
  unfold sh
  rw [geq_eq h NV0, leq_eq h one69, decide_eq_true (by omega), decide_eq_true hA]; rfl
theorem cov_NV {a b c d : Option Nat} {A B C D : Nat} (ha : NV a A) (hb : NV b B) (hc : NV c C) (hd : NV d D) (h1 : A ≤ 32 * 2 ^ 1069) (h2 : B ≤ 32 * 2 ^ 1069) (h3 : C ≤ 32 * 2 ^ 1069) (h4 : D ≤ 32 * 2 ^ 1069) : cov a b c d = true := by
  unfold cov
  rw [sh_NV ha h1, sh_NV hb h2, sh_NV hc h3, sh_NV hd h4]; rfl
theorem k69 {k : Nat} (h : k ≤ 32) : k * 2 ^ 1069 ≤ 32 * 2 ^ 1069 := Nat.mul_le_mul_right _ h
theorem le69 (j k : Nat) : decide (j * 2 ^ 1069 ≤ k * 2 ^ 1069) = decide (j ≤ k) := by
  rw [decide_eq_decide]
  exact ⟨fun h => Nat.le_of_mul_le_mul_right h (Nat.two_pow_pos _), fun h => Nat.mul_le_mul_right _ h⟩
theorem sh_sv {s : Nat} (hs : s ≤ 8) : sh (sv s) = true := by
  refine sh_NV (sv_NV hs) ?_
  have h : (2 : Nat) ^ 1071 = 4 * 2 ^ 1069 := by rw [show (1071 : Nat) = 2 + 1069 from rfl, Nat.pow_add]
  rw [h, ← Nat.mul_assoc]
  exact Nat.mul_le_mul_right _ (by omega)
theorem sv0 : sv 0 = some 0 := by unfold sv; rw [gr_eq]; decide +kernel
theorem rg_lv {L : Nat} (hL : L ≤ 16) : rg (lv L) = true := by
  unfold rg
  have h4 : NV (some 1082130432) (16 * 2 ^ 1072) := NV_val (by decide +kernel)
  rw [geq_eq (lv_NV hL) NV0, leq_eq (lv_NV hL) h4, decide_eq_true (by omega), decide_eq_true (Nat.mul_le_mul_right _ hL)]; rfl
-- what limiting gives
structure Lim (k0 k1 k2 k3 L : Nat) (d0 d1 d2 d3 : Option Nat) where
  A : Nat
  B : Nat
  C : Nat
  D : Nat
  T : Nat
  a : NV d0 A
  b : NV d1 B
  c : NV d2 C
  d : NV d3 D
  ha : A ≤ k0 * 2 ^ 1069
  hb : B ≤ k1 * 2 ^ 1069
  hc : C ≤ k2 * 2 ^ 1069
  hd : D ≤ k3 * 2 ^ 1069
  t : NV (ink d0 d1 d2 d3) T
  ht : T ≤ L * 2 ^ 1072 + 9 * 2 ^ 1053
  few : k0 + k1 + k2 + k3 ≤ 8 * L → A = k0 * 2 ^ 1069 ∧ B = k1 * 2 ^ 1069 ∧ C = k2 * 2 ^ 1069 ∧ D = k3 * 2 ^ 1069
  blk : k3 ≤ 8 * L → D = k3 * 2 ^ 1069
  eS : LLe (TS (cv k0) (cv k1) (cv k2) (cv k3) (lv L)).get (lfD d0 d1 d2 d3)
  eI : LLe (TI (cv k0) (cv k1) (cv k2) (cv k3) (lv L)).get (lfD d0 d1 d2 d3)
theorem lim {k0 k1 k2 k3 L : Nat} (h0 : k0 ≤ 32) (h1 : k1 ≤ 32) (h2 : k2 ≤ 32) (h3 : k3 ≤ 32) (hL : L ≤ 16) : ∃ d0 d1 d2 d3, Nonempty (Lim k0 k1 k2 k3 L d0 d1 d2 d3) := by
  have hl := lv_NV hL
  rw [p69] at hl
  have hcov : cov (cv k0) (cv k1) (cv k2) (cv k3) = true := cov_NV (cv_NV h0) (cv_NV h1) (cv_NV h2) (cv_NV h3) (k69 h0) (k69 h1) (k69 h2) (k69 h3)
  have e1 : fcmp .leq .f32 (ink (cv k0) (cv k1) (cv k2) (cv k3)) (lv L) = decide (k0 + k1 + k2 + k3 ≤ 8 * L) := by rw [leq_eq (ink_NV h0 h1 h2 h3) hl, le69]
  have e2 : fcmp .geq .f32 (cv k3) (lv L) = decide (8 * L ≤ k3) := by
    rw [geq_eq (cv_NV h3) hl]
    exact le69 (8 * L) k3
  have tS : ∀ rest, (TR true true (cv k0) (cv k1) (cv k2) (cv k3) (lv L) rest).get = cond (decide (k0 + k1 + k2 + k3 ≤ 8 * L)) (.tup [.agg (List.map (AV.flt .f32) [cv k0, cv k1, cv k2, cv k3]), .lit (.int .i64 0)], none)
      (cond (decide (8 * L ≤ k3)) (.tup [.agg (List.map (AV.flt .f32) [some 0, some 0, some 0, lv L]), .lit (.int .i64 0)], none) rest.get) := fun rest => by
    unfold TR
    rw [e1, e2]
    cases decide (k0 + k1 + k2 + k3 ≤ 8 * L) <;> cases decide (8 * L ≤ k3) <;> rfl
  have gS : ∀ (d0 d1 d2 d3 : Option Nat), LLe (AV.tup [.agg (List.map (AV.flt .f32) [d0, d1, d2, d3]), .lit (.int .i64 0)], (none : Option (List Blk))) (lfD d0 d1 d2 d3) := fun d0 d1 d2 d3 => LLe.of rfl rfl rfl
  by_cases hs : k0 + k1 + k2 + k3 ≤ 8 * L
  · refine ⟨cv k0, cv k1, cv k2, cv k3, ⟨⟨_, _, _, _, _, cv_NV h0, cv_NV h1, cv_NV h2, cv_NV h3, Nat.le_refl _, Nat.le_refl _, Nat.le_refl _, Nat.le_refl _, ink_NV h0 h1 h2 h3, ?_, fun _ => ⟨rfl, rfl, rfl, rfl⟩, fun _ => rfl, ?_, ?_⟩⟩⟩
    · rw [p69]
      exact Nat.le_trans (Nat.mul_le_mul_right _ hs) (Nat.le_add_right _ _)
    · unfold TS; rw [hcov, rg_lv hL, tS, decide_eq_true hs]; exact gS _ _ _ _
    · unfold TI; rw [covI_cov, hcov, rg_lv hL, tS, decide_eq_true hs]; exact gS _ _ _ _
  · by_cases hb : 8 * L ≤ k3
    · have z : (0 : Nat) = 0 * 2 ^ 1069 := (Nat.zero_mul _).symm
      have n0 : NV (some 0) (0 * 2 ^ 1069) := by rw [Nat.zero_mul]; exact NV0
      have ht : NV (ink (some 0) (some 0) (some 0) (lv L)) ((0 + 0 + 0 + 8 * L) * 2 ^ 1069) := add_g (add_g (add_g n0 n0 (by omega) (by omega) (by omega)) n0 (by omega) (by omega) (by omega)) hl (by omega) (by omega) (by omega)
      refine ⟨some 0, some 0, some 0, lv L, ⟨⟨_, _, _, _, _, NV0, NV0, NV0, hl, Nat.zero_le _, Nat.zero_le _, Nat.zero_le _, Nat.mul_le_mul_right _ hb, ht, ?_, fun h => absurd h hs, fun h => ?_, ?_, ?_⟩⟩⟩
      · rw [p69, show 0 + 0 + 0 + 8 * L = 8 * L by omega]; exact Nat.le_add_right _ _
      · rw [show 8 * L = k3 by omega]
      · unfold TS; rw [hcov, rg_lv hL, tS, decide_eq_false hs, decide_eq_true hb]; exact gS _ _ _ _
      · unfold TI; rw [covI_cov, hcov, rg_lv hL, tS, decide_eq_false hs, decide_eq_true hb]; exact gS _ _ _ _
    · obtain ⟨A, B, C, T, a, b, c, ha, hb', hc, t, ht⟩ := lim3 h0 h1 h2 h3 hL (by omega) (by omega)
      refine ⟨lm (cv k0) (cv k0) (cv k1) (cv k2) (cv k3) (lv L), lm (cv k1) (cv k0) (cv k1) (cv k2) (cv k3) (lv L), lm (cv k2) (cv k0) (cv k1) (cv k2) (cv k3) (lv L), cv k3,
        ⟨⟨A, B, C, _, T, a, b, c, cv_NV h3, ha, hb', hc, Nat.le_refl _, t, ht, fun h => absurd h hs, fun _ => rfl, ?_, ?_⟩⟩⟩
      · unfold TS; rw [hcov, rg_lv hL, tS, decide_eq_false hs, decide_eq_false hb]; exact gS _ _ _ _
      · unfold TI; rw [covI_cov, hcov, rg_lv hL, tS, decide_eq_false hs, decide_eq_false hb]
        have hi : idx4 (lm (cv k0) (cv k0) (cv k1) (cv k2) (cv k3) (lv L)) (lm (cv k1) (cv k0) (cv k1) (cv k2) (cv k3) (lv L)) (lm (cv k2) (cv k0) (cv k1) (cv k2) (cv k3) (lv L)) (cv k3) = -1 := by
          unfold idx4
          rw [finS_NV (o := lm (cv k0) (cv k0) (cv k1) (cv k2) (cv k3) (lv L)) a, finS_NV (o := lm (cv k1) (cv k0) (cv k1) (cv k2) (cv k3) (lv L)) b, finS_NV (o := lm (cv k2) (cv k0) (cv k1) (cv k2) (cv k3) (lv L)) c, finS_NV (cv_NV h3)]; rfl
        rw [hi]
        exact gS _ _ _ _
theorem p1_no {k0 k1 k2 k3 L : Nat} {d0 d1 d2 d3 : Option Nat} (h0 : k0 ≤ 32) (h1 : k1 ≤ 32) (h2 : k2 ≤ 32) (h3 : k3 ≤ 32) (hL : L ≤ 16) (l : Lim k0 k1 k2 k3 L d0 d1 d2 d3) :
    p1 d0 d1 d2 d3 (cv k0) (cv k1) (cv k2) (cv k3) (lv L) (ink d0 d1 d2 d3) (ink (cv k0) (cv k1) (cv k2) (cv k3)) = false := by
  have hl := lv_NV hL
  rw [p69] at hl
  obtain ⟨X, x1, x2⟩ := lim_t hL
  have e0 : E4 d0 d1 d2 d3 d0 d1 d2 d3 = true := by unfold E4; rw [eql_yes l.a l.a, eql_yes l.b l.b, eql_yes l.c l.c, eql_yes l.d l.d]; rfl
  have e1 : fcmp .leq .f32 (ink (cv k0) (cv k1) (cv k2) (cv k3)) (lv L) = decide (k0 + k1 + k2 + k3 ≤ 8 * L) := by rw [leq_eq (ink_NV h0 h1 h2 h3) hl, le69]
  have e2 : fcmp .leq .f32 (cv k3) (lv L) = decide (k3 ≤ 8 * L) := by rw [leq_eq (cv_NV h3) hl, le69]
  unfold p1
  rw [e0, e1, e2, gtr_no l.t x1 (Nat.le_trans l.ht x2), gtr_no l.d (cv_NV h3) l.hd]
  have f1 : andB (decide (k0 + k1 + k2 + k3 ≤ 8 * L)) (nt (E4 d0 d1 d2 d3 (cv k0) (cv k1) (cv k2) (cv k3))) = false := by
    by_cases hs : k0 + k1 + k2 + k3 ≤ 8 * L
    · obtain ⟨r0, r1, r2, r3⟩ := l.few hs
      have a := l.a; have b := l.b; have c := l.c; have d := l.d
      rw [r0] at a; rw [r1] at b; rw [r2] at c; rw [r3] at d
      have : E4 d0 d1 d2 d3 (cv k0) (cv k1) (cv k2) (cv k3) = true := by unfold E4; rw [eql_yes a (cv_NV h0), eql_yes b (cv_NV h1), eql_yes c (cv_NV h2), eql_yes d (cv_NV h3)]; rfl
      rw [this, decide_eq_true hs]; rfl
    · rw [decide_eq_false hs]; cases E4 d0 d1 d2 d3 (cv k0) (cv k1) (cv k2) (cv k3) <;> rfl
  have f2 : andB (decide (k3 ≤ 8 * L)) (fcmp .neq .f32 d3 (cv k3)) = false := by
    by_cases hs : k3 ≤ 8 * L
    · have d := l.d
      rw [l.blk hs] at d
      rw [neq_no d (cv_NV h3), decide_eq_true hs]; rfl
    · rw [decide_eq_false hs]; cases fcmp .neq .f32 d3 (cv k3) <;> rfl
  rw [f1, f2]; rfl
theorem p2_no {k D : Nat} {d : Option Nat} (h : k ≤ 32) (hd : NV d D) (hD : D ≤ k * 2 ^ 1069) : p2 d (cv k) = false := by
  unfold p2
  rw [lss0 hd, gtr_no hd (cv_NV h) hD]; rfl
-- black put under
theorem bk_NV {f : Option Nat → Option Nat → Option Nat → Option Nat} {s k0 k1 k2 k3 q : Nat} (hs : s ≤ 8) (hq : q ≤ 32) (h3 : k3 ≤ 32) (hf : f (cv k0) (cv k1) (cv k2) = cv q) : NV (bk f (sv s) (cv k0) (cv k1) (cv k2) (cv k3)) (min 256 (8 * k3 + s * q) * 2 ^ 1066) := by
  unfold bk
  rw [hf]
  have h := add_NV hs hq h3
  show NV (cond (fcmp .gtr .f32 (fop .add .f32 (cv k3) (gv s q)) (some 1065353216)) (some 1065353216) (fop .add .f32 (cv k3) (gv s q))) _
  rw [(fcmp_NV h one_NV).1]
  by_cases hc : 8 * k3 + s * q > 256
  · rw [decide_eq_true (show (8 * k3 + s * q) * 2 ^ 1066 > 256 * 2 ^ 1066 from Nat.mul_lt_mul_of_pos_right hc (Nat.two_pow_pos _)), Nat.min_eq_left (by omega)]
    exact one_NV
  · rw [decide_eq_false (show ¬ (8 * k3 + s * q) * 2 ^ 1066 > 256 * 2 ^ 1066 from fun h' => hc (Nat.lt_of_mul_lt_mul_right h')), Nat.min_eq_right (by omega)]
    exact h
theorem ud_NV {f : Option Nat → Option Nat → Option Nat → Option Nat} {s k0 k1 k2 k q : Nat} (hs : s ≤ 8) (hq : q ≤ k) (h3 : k ≤ 32) (hf : f (cv k0) (cv k1) (cv k2) = cv q) : NV (ud f (sv s) (cv k0) (cv k1) (cv k2) (cv k)) ((8 * k - s * q) * 2 ^ 1066) := by
  unfold ud
  rw [hf]
  exact sub_NV hs hq h3
theorem same {f : Option Nat → Option Nat → Option Nat → Option Nat} {k0 k1 k2 k q : Nat} (hq : q ≤ k) (h3 : k ≤ 32) (hf : f (cv k0) (cv k1) (cv k2) = cv q) : NV (ud f (some 0) (cv k0) (cv k1) (cv k2) (cv k)) (k * 2 ^ 1069) := by
  rw [← sv0, h66]
  have := ud_NV (s := 0) (by omega) hq h3 hf
  rwa [Nat.zero_mul, Nat.sub_zero] at this
theorem sameB {f : Option Nat → Option Nat → Option Nat → Option Nat} {k0 k1 k2 k3 q : Nat} (hq : q ≤ 32) (h3 : k3 ≤ 32) (hf : f (cv k0) (cv k1) (cv k2) = cv q) : NV (bk f (some 0) (cv k0) (cv k1) (cv k2) (cv k3)) (k3 * 2 ^ 1069) := by
  rw [← sv0, h66]
  have := bk_NV (s := 0) (by omega) hq h3 hf
  rwa [Nat.zero_mul, Nat.add_zero, Nat.min_eq_right (by omega)] at this
theorem p3_no {k0 k1 k2 k3 s : Nat} (h0 : k0 ≤ 32) (h1 : k1 ≤ 32) (h2 : k2 ≤ 32) (h3 : k3 ≤ 32) (hs : s ≤ 8) :
    p3 (ud leI (some 0) (cv k0) (cv k1) (cv k2) (cv k0)) (ud leI (some 0) (cv k0) (cv k1) (cv k2) (cv k1)) (ud leI (some 0) (cv k0) (cv k1) (cv k2) (cv k2)) (bk leI (some 0) (cv k0) (cv k1) (cv k2) (cv k3)) (cv k0) (cv k1) (cv k2) (cv k3)
      (ud leI (sv s) (cv k0) (cv k1) (cv k2) (cv k0)) (ud leI (sv s) (cv k0) (cv k1) (cv k2) (cv k1)) (ud leI (sv s) (cv k0) (cv k1) (cv k2) (cv k2)) (bk leI (sv s) (cv k0) (cv k1) (cv k2) (cv k3))
      (ud I8.leS (sv s) (cv k0) (cv k1) (cv k2) (cv k0)) (ud I8.leS (sv s) (cv k0) (cv k1) (cv k2) (cv k1)) (ud I8.leS (sv s) (cv k0) (cv k1) (cv k2) (cv k2)) (bk I8.leS (sv s) (cv k0) (cv k1) (cv k2) (cv k3)) = false := by
  have hI := leI_cv h0 h1 h2
  have hS := leS_cv h0 h1 h2
  have q0 : min (min k0 k1) k2 ≤ k0 := by omega
  have q1 : min (min k0 k1) k2 ≤ k1 := by omega
  have q2 : min (min k0 k1) k2 ≤ k2 := by omega
  have q3 : min (min k0 k1) k2 ≤ 32 := by omega
  unfold p3
  have e1 : E4 (ud leI (some 0) (cv k0) (cv k1) (cv k2) (cv k0)) (ud leI (some 0) (cv k0) (cv k1) (cv k2) (cv k1)) (ud leI (some 0) (cv k0) (cv k1) (cv k2) (cv k2)) (bk leI (some 0) (cv k0) (cv k1) (cv k2) (cv k3)) (cv k0) (cv k1) (cv k2) (cv k3) = true := by
    unfold E4
    rw [eql_yes (same q0 h0 hI) (cv_NV h0), eql_yes (same q1 h1 hI) (cv_NV h1), eql_yes (same q2 h2 hI) (cv_NV h2), eql_yes (sameB q3 h3 hI) (cv_NV h3)]; rfl
  have e2 : E4 (ud leI (sv s) (cv k0) (cv k1) (cv k2) (cv k0)) (ud leI (sv s) (cv k0) (cv k1) (cv k2) (cv k1)) (ud leI (sv s) (cv k0) (cv k1) (cv k2) (cv k2)) (bk leI (sv s) (cv k0) (cv k1) (cv k2) (cv k3))
      (ud I8.leS (sv s) (cv k0) (cv k1) (cv k2) (cv k0)) (ud I8.leS (sv s) (cv k0) (cv k1) (cv k2) (cv k1)) (ud I8.leS (sv s) (cv k0) (cv k1) (cv k2) (cv k2)) (bk I8.leS (sv s) (cv k0) (cv k1) (cv k2) (cv k3)) = true := by
    unfold E4
    rw [eql_yes (ud_NV hs q0 h0 hI) (ud_NV hs q0 h0 hS), eql_yes (ud_NV hs q1 h1 hI) (ud_NV hs q1 h1 hS), eql_yes (ud_NV hs q2 h2 hI) (ud_NV hs q2 h2 hS), eql_yes (bk_NV hs q3 h3 hI) (bk_NV hs q3 h3 hS)]; rfl
  rw [e1, e2]; rfl
theorem p4_no {o : Option Nat} {A : Nat} (h : NV o A) : p4 o = false := by unfold p4; rw [lss0 h]; rfl
theorem nr_ud {k0 k1 k2 k s : Nat} (h0 : k0 ≤ 32) (h1 : k1 ≤ 32) (h2 : k2 ≤ 32) (hk : k ≤ 32) (hq : min (min k0 k1) k2 ≤ k) (hs : s ≤ 8) :
    nr (ud I8.leS (sv s) (cv k0) (cv k1) (cv k2) (cv k)) (fop .sub .f32 (cv k) (mu (sv s) (le (cv k0) (cv k1) (cv k2)))) (some 953267991) = true := by
  have hI := leI_cv h0 h1 h2
  refine pB_true ⟨_, ud_NV hs hq hk (leS_cv h0 h1 h2), ?_, rfl⟩
  exact ud_NV (f := le) hs hq hk hI
theorem nr_bk {k0 k1 k2 k3 s : Nat} (h0 : k0 ≤ 32) (h1 : k1 ≤ 32) (h2 : k2 ≤ 32) (h3 : k3 ≤ 32) (hs : s ≤ 8) :
    nr (bk I8.leS (sv s) (cv k0) (cv k1) (cv k2) (cv k3)) (fmin2 .f32 (some 1065353216) (fop .add .f32 (cv k3) (mu (sv s) (le (cv k0) (cv k1) (cv k2))))) (some 953267991) = true := by
  have hq : min (min k0 k1) k2 ≤ 32 := by omega
  refine pB_true ⟨_, bk_NV hs hq h3 (leS_cv h0 h1 h2), ?_, rfl⟩
  have hI : le (cv k0) (cv k1) (cv k2) = cv (min (min k0 k1) k2) := leI_cv h0 h1 h2
  rw [hI]
  have h := fmin_NV one_NV (add_NV hs hq h3)
  have e : min (256 * 2 ^ 1066) ((8 * k3 + s * min (min k0 k1) k2) * 2 ^ 1066) = min 256 (8 * k3 + s * min (min k0 k1) k2) * 2 ^ 1066 := by
    generalize 8 * k3 + s * min (min k0 k1) k2 = x
    rcases Nat.le_total 256 x with h | h
    · rw [Nat.min_eq_left h, Nat.min_eq_left (Nat.mul_le_mul_right _ h)]
    · rw [Nat.min_eq_right h, Nat.min_eq_right (Nat.mul_le_mul_right _ h)]
  rw [e] at h
  exact h
end Go.Proofs.Ytofheiggdbhbjaa.I12
