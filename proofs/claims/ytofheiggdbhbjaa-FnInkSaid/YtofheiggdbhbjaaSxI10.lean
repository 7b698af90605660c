/- Ink of a grid: contracts. -/
import Derived.Test.YtofheiggdbhbjaaSxI9
set_option linter.unusedVariables false
set_option linter.unusedSimpArgs false
set_option linter.unnecessarySimpa false
set_option exponentiation.threshold 3000
set_option maxRecDepth 100000
namespace Go.Proofs.Ytofheiggdbhbjaa.I10
open Go Go.Sx Go.Sx.R0 Go.Sx.C5 Go.Sx.C1 Go.Sx.Fl Go.Sx.Ink Ieee Go.Proofs.Ytofheiggdbhbjaa.I8 Go.Proofs.Ytofheiggdbhbjaa.I9

theorem order_NV {x y : Nat} {A B : Nat} (ha : NV (some x) A) (hb : NV (some y) B) : FloatKind.f32.format.order x y = some (compare (A : Int) (B : Int)) := by
  obtain ⟨x', s, hx, ⟨m, i, h1, h2, rfl⟩, h3⟩ := ha
  obtain ⟨y', t, hy, ⟨n, j, k1, k2, rfl⟩, k3⟩ := hb
  cases hx; cases hy
  have e1 : sg s * ((m * 2 ^ (i + 1074).toNat : Nat) : Int) = ((m * 2 ^ (i + 1074).toNat : Nat) : Int) := sg_neg h3
  have e2 : sg t * ((n * 2 ^ (j + 1074).toNat : Nat) : Int) = ((n * 2 ^ (j + 1074).toNat : Nat) : Int) := sg_neg k3
  rw [← e1, ← e2]
  unfold Format.order
  unfold FloatKind.decode at h1 k1
  rw [h1, k1]
  exact order_num s t m n i j h2 k2
theorem fmin_NV {o u : Option Nat} {A B : Nat} (ha : NV o A) (hb : NV u B) : NV (fmin2 .f32 o u) (min A B) := by
  have ha' := ha
  have hb' := hb
  obtain ⟨x, s, rfl, _⟩ := ha'
  obtain ⟨y, t, rfl, _⟩ := hb'
  have ho := order_NV ha hb
  rw [fmin2_eq]
  show NV (match FloatKind.f32.format.order x y with | none => none | some .lt => some x | some .gt => some y | some .eq => some (if (FloatKind.f32.decode x).neg then x else y)) _
  rw [ho]
  rcases Nat.lt_trichotomy A B with h | h | h
  · rw [show compare (A : Int) (B : Int) = .lt from by have := cmp_lt (A : Int) (B : Int); rw [decide_eq_true (by omega)] at this; simpa using this, Nat.min_eq_left (by omega)]
    exact ha
  · subst h
    rw [show compare (A : Int) (A : Int) = .eq from by have := cmp_eq (A : Int) (A : Int); rw [decide_eq_true rfl] at this; simpa using this, Nat.min_self]
    show NV (some (if (FloatKind.f32.decode x).neg then x else y)) A
    split
    · exact ha
    · exact hb
  · rw [show compare (A : Int) (B : Int) = .gt from by have := cmp_gt (A : Int) (B : Int); rw [decide_eq_true (by omega)] at this; simpa using this, Nat.min_eq_right (by omega)]
    exact hb
/-- the least of the grid -/
theorem leS_cv {a b c : Nat} (ha : a ≤ 32) (hb : b ≤ 32) (hc : c ≤ 32) : I8.leS (cv a) (cv b) (cv c) = cv (min (min a b) c) := by
  have hp : 0 < (2 : Nat) ^ 1069 := Nat.two_pow_pos _
  have two : ∀ i j : Nat, i ≤ 32 → j ≤ 32 → cond (fcmp .lss .f32 (cv j) (cv i)) (cv j) (cv i) = cv (min i j) := fun i j hi hj => by
    rw [(fcmp_NV (cv_NV hj) (cv_NV hi)).2.1]
    by_cases h : j < i
    · rw [decide_eq_true (show j * 2 ^ 1069 < i * 2 ^ 1069 from Nat.mul_lt_mul_of_pos_right h hp), Nat.min_eq_right (by omega)]; rfl
    · rw [decide_eq_false (show ¬ j * 2 ^ 1069 < i * 2 ^ 1069 from fun h' => h (Nat.lt_of_mul_lt_mul_right h')), Nat.min_eq_left (by omega)]; rfl
  unfold I8.leS
  rw [two a b ha hb, two _ c (by omega) hc]
def mchk : Bool := (List.range 33).all fun a => (List.range 33).all fun b => decide (fmin2Real .f32 (grR w32 (Int.ofNat a)) (grR w32 (Int.ofNat b)) = grR w32 (Int.ofNat (min a b)))
theorem mchk_t : mchk = true := by decide +kernel
theorem min_cv {a b : Nat} (ha : a ≤ 32) (hb : b ≤ 32) : fmin2 .f32 (cv a) (cv b) = cv (min a b) := by
  have h := mchk_t
  unfold mchk at h
  rw [List.all_eq_true] at h
  have h := h a (List.mem_range.2 (by omega))
  rw [List.all_eq_true] at h
  have h := of_decide_eq_true (h b (List.mem_range.2 (by omega)))
  unfold cv
  rw [gr_eq, gr_eq, gr_eq, fmin2_eq]
  exact h
theorem leI_cv {a b c : Nat} (ha : a ≤ 32) (hb : b ≤ 32) (hc : c ≤ 32) : leI (cv a) (cv b) (cv c) = cv (min (min a b) c) := by
  unfold leI
  rw [min_cv ha hb, min_cv (by omega) hc]
-- near: two that are worth the same
noncomputable def ab (x : Option Nat) : Option Nat := ffrom .f32 (bitsOp .and .u32 (fbits x) 2147483647)
noncomputable def obN (x : Option Nat) : Bool := andB (isS x) (andB (decide (0 ≤ bitsOp .and .u32 (fbits x) 2147483647) && decide (bitsOp .and .u32 (fbits x) 2147483647 < 4294967296)) true)
theorem eN (a b d : Option Nat) : evF Try.prog extK noL 20 8 12 [.flt .f32 a, .flt .f32 b, .flt .f32 d] [] = some (.leaf (.bool (fcmp .leq .f32 (ab (fop .sub .f32 a b)) d), none), andB (andB (obN (fop .sub .f32 a b)) true) true) := by kernel_rfl
theorem ab_zero {x : Nat} (hw : Wd x) (h : NV (some x) 0) : NV (ab (some x)) 0 ∧ obN (some x) = true := by
  have hk : key x = 0 := by
    obtain ⟨y, s, hy, hf, hs⟩ := h
    cases hy
    rcases wd_read hw with ⟨_, h2⟩ | ⟨_, h2⟩
    · obtain ⟨e1, e2⟩ := FinS_same hf h2
      have : rung x = 0 := by
        rcases Nat.eq_zero_or_pos (rung x) with h | h
        · exact h
        · have := valR_lt h; omega
      unfold key
      rw [this]
      simp
    · obtain ⟨m, i, h3, _⟩ := hf
      rw [h2] at h3; cases h3
  have e0 : bitsOp .and .u32 (fbits (some 0)) 2147483647 = 0 := by decide +kernel
  have e1 : bitsOp .and .u32 (fbits (some 2147483648)) 2147483647 = 0 := by decide +kernel
  have ez : ffrom .f32 0 = some 0 := by rw [ffrom_eq]; decide +kernel
  rcases key_zero hw.1 hk with rfl | rfl
  · refine ⟨?_, ?_⟩
    · unfold ab; rw [e0, ez]; have := NV_zero; rwa [Nat.zero_mul] at this
    · unfold obN; rw [e0]; rfl
  · refine ⟨?_, ?_⟩
    · unfold ab; rw [e1, ez]; have := NV_zero; rwa [Nat.zero_mul] at this
    · unfold obN; rw [e1]; rfl
noncomputable def runN : List AV → List Blk → Option Lf := fun args H => match args.map delit, H with
  | [.flt .f32 a, .flt .f32 b, .flt .f32 d], [] => some (.leaf (.bool true, none), pB (∃ A, NV a A ∧ NV b A ∧ d = some 953267991))
  | _, _ => none
theorem nearOk : SumOk Try.prog 12 (selRun runN) := sum_selG sxApart sxMixed fun args H t hr _ => by
  unfold runN at hr
  split at hr
  case h_2 => cases hr
  rename_i a b d hargs
  simp only [Option.some.injEq, Prod.mk.injEq] at hr
  obtain ⟨rfl, hr⟩ := hr
  obtain ⟨A, ha, hb, rfl⟩ := pB_of hr
  have h0 := same_sub ha hb
  have hw := fop_wdO .sub a b
  have h := eN a b (some 953267991)
  generalize fop .sub .f32 a b = o at *
  have h0' := h0
  obtain ⟨z, _, rfl, _⟩ := h0'
  obtain ⟨n1, n2⟩ := ab_zero (hw z rfl) h0
  rw [n2, (fcmp_NV n1 tk_NV).2.2.2.1, decide_eq_true (Nat.zero_le _)] at h
  exact ⟨extK, noL, 20, 8, _, _, extK_ok, noL_all, fun ρ vals hv => by rw [← hargs]; exact delits_rel hv, h, LLe.refl _⟩
-- the others
def lfD (a b c d : Option Nat) : AV × Option (List Blk) := (.tup [l4 a b c d, .int .i64 0], none)
noncomputable def runLm (a b c d l d0 d1 d2 d3 : Option Nat) : List AV → List Blk → Option Lf := selRun (runAtD [l4 a b c d, .flt .f32 l] [] (.leaf (lfD d0 d1 d2 d3)) true)
noncomputable def okLm (a b c d l : Option Nat) : Bool := andB (deq [l4 a b c d, .flt .f32 l] [l4 a b c d, .flt .f32 l]) (andB (deqH [] []) true)
theorem okLm_true (a b c d l : Option Nat) : okLm a b c d l = true := by unfold okLm; rw [deq_self, deqH_self]; rfl
theorem lmS {a b c d l d0 d1 d2 d3 : Option Nat} (h : LLe (TS a b c d l).get (lfD d0 d1 d2 d3)) : SumOk Try.prog 8 (runLm a b c d l d0 d1 d2 d3) := sum_atD sxApart sxMixed finK_ok noL (N := 20) (d := 8) fun _ => ⟨noL_all, _, eS a b c d l, h⟩
theorem lmI {a b c d l d0 d1 d2 d3 : Option Nat} (h : LLe (TI a b c d l).get (lfD d0 d1 d2 d3)) : SumOk Try.prog 7 (runLm a b c d l d0 d1 d2 d3) := sum_atD sxApart sxMixed finK_ok noL (N := 20) (d := 8) fun _ => ⟨noL_all, _, eI a b c d l, h⟩
noncomputable def runInk : List AV → List Blk → Option Lf := fun args H => match args, H with
  | [.agg [.flt .f32 a, .flt .f32 b, .flt .f32 c, .flt .f32 d]], [] => some (.leaf (.tup [.flt .f32 (ink a b c d), .int .i64 0], none), covI a b c d)
  | _, _ => none
theorem inkOk : SumOk Try.prog 9 (selRun runInk) := sum_sel sxApart sxMixed fun args H t hr => by
  unfold runInk at hr
  split at hr
  case h_2 => cases hr
  rename_i a b c d
  simp only [Option.some.injEq, Prod.mk.injEq] at hr
  obtain ⟨rfl, hr⟩ := hr
  refine ⟨finK, noL, 20, 8, _, finK_ok, noL_all, eInk a b c d, ?_⟩
  rw [hr]
  exact LLe.of rfl rfl rfl
noncomputable def runPb (le : Option Nat → Option Nat → Option Nat → Option Nat) : List AV → List Blk → Option Lf := fun args H => match args.map delit, H with
  | [.agg [.flt .f32 a, .flt .f32 b, .flt .f32 c, .flt .f32 d], .flt .f32 s], [] => some (.leaf (.tup [.agg (pb a b c d (mu s (le a b c))), .int .i64 0], none), andB (cov a b c d) (sh s))
  | _, _ => none
theorem pbI : SumOk Try.prog 10 (selRun (runPb leI)) := sum_selG sxApart sxMixed fun args H t hr _ => by
  unfold runPb at hr
  split at hr
  case h_2 => cases hr
  rename_i a b c d s hargs
  simp only [Option.some.injEq, Prod.mk.injEq] at hr
  obtain ⟨rfl, hr⟩ := hr
  obtain ⟨h1, h2⟩ := andB_true hr
  refine ⟨finK, noL, 20, 8, _, _, finK_ok, noL_all, fun ρ vals hv => by have := delits_rel hv; rw [hargs] at this; exact this, pI a b c d s, ?_⟩
  unfold TP
  rw [covI_cov, h1, h2]
  exact LLe.of rfl rfl rfl
theorem pbS : SumOk Try.prog 11 (selRun (runPb I8.leS)) := sum_selG sxApart sxMixed fun args H t hr _ => by
  unfold runPb at hr
  split at hr
  case h_2 => cases hr
  rename_i a b c d s hargs
  simp only [Option.some.injEq, Prod.mk.injEq] at hr
  obtain ⟨rfl, hr⟩ := hr
  obtain ⟨h1, h2⟩ := andB_true hr
  refine ⟨finK, noL, 20, 8, _, _, finK_ok, noL_all, fun ρ vals hv => by have := delits_rel hv; rw [hargs] at this; exact this, I8.pS a b c d s, ?_⟩
  unfold TPS pb
  rw [h1, h2]
  simp only [Tr.get, Bool.not_true, cond_false]
  cases fcmp .gtr .f32 (fop .add .f32 d (mu s (I8.leS a b c))) (some 1065353216) <;> exact LLe.of rfl rfl rfl
noncomputable def runCv (n : Nat) (g : Nat → Int) (a b c d : Option Nat) : List AV → List Blk → Option Lf := selRun (runAtH [.slc 0 0 n] [.rows false n 1 (ur g)] (.leaf (l4 a b c d, none)) true)
noncomputable def okCv (n : Nat) (g : Nat → Int) : Bool := andB (deq [.slc 0 0 n] [.slc 0 0 n]) (andB (deqH [.rows false n 1 (ur g)] [.rows false n 1 (ur g)]) true)
theorem okCv_true (n : Nat) (g : Nat → Int) : okCv n g = true := by unfold okCv; rw [deq_self, deqH_self]; rfl
theorem coverOk (n : Nat) (g : Nat → Int) : SumOk Try.prog 5 (runCv n g (gr w32 (xv n g 33 0)) (gr w32 (xv n g 33 1)) (gr w32 (xv n g 33 2)) (gr w32 (xv n g 33 3))) := sum_atH sxApart sxMixed extK_ok noL (N := 20) (d := 8) fun _ => by
  have h := eC n g
  rw [OC_true] at h
  refine ⟨noL_all, _, h, ?_⟩
  rw [TC_get]
  exact LLe.refl _
def selP : List AV → Option Int
  | [_, .lit (.int .i64 m)] => some m
  | _ => none
noncomputable def runPk (n : Nat) (g : Nat → Int) (m L : Int) : List AV → List Blk → Option Lf := selRun (runAtH [.slc 0 0 n, .lit (.int .i64 m)] [.rows false n 1 (ur g)] (.leaf (.int .i64 L, none)) true)
noncomputable def okPk (n : Nat) (g : Nat → Int) (m : Int) : Bool := andB (deq [.slc 0 0 n, .lit (.int .i64 m)] [.slc 0 0 n, .lit (.int .i64 m)]) (andB (deqH [.rows false n 1 (ur g)] [.rows false n 1 (ur g)]) true)
theorem okPk_true (n : Nat) (g : Nat → Int) (m : Int) : okPk n g m = true := by unfold okPk; rw [deq_self, deqH_self]; rfl
noncomputable def runP2 (n : Nat) (g : Nat → Int) (L s : Int) : List AV → List Blk → Option Lf := famK selP fun m => bif m == 17 then runPk n g 17 L else runPk n g 9 s
theorem pickOk (n : Nat) (g : Nat → Int) : SumOk Try.prog 6 (runP2 n g (xv n g 17 0) (xv n g 9 0)) := famK_ok fun m => by
  have h17 : SumOk Try.prog 6 (runPk n g 17 (xv n g 17 0)) := sum_atH sxApart sxMixed extK_ok noL (N := 20) (d := 8) fun _ => by
    have h := eP n g
    rw [oj_true] at h
    exact ⟨noL_all, _, h, LLe.refl _⟩
  have h9 : SumOk Try.prog 6 (runPk n g 9 (xv n g 9 0)) := sum_atH sxApart sxMixed extK_ok noL (N := 20) (d := 8) fun _ => by
    have h := eP9 n g
    rw [oj_true] at h
    exact ⟨noL_all, _, h, LLe.refl _⟩
  cases (m == 17) with
  | true => exact h17
  | false => exact h9
end Go.Proofs.Ytofheiggdbhbjaa.I10
