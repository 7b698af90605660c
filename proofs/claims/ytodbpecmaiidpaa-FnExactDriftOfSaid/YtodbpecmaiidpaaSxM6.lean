/- The means of counts: what the reference and the program compute of samples. -/
import Derived.Test.YtodbpecmaiidpaaSxV6
set_option linter.unusedVariables false
set_option linter.unusedSimpArgs false
set_option maxRecDepth 100000
namespace Go.Proofs.Ytodbpecmaiidpaa.M6
open Go.Sx Go.Sx.Fl Go.RowKit Go.Proofs.Ytodbpecmaiidpaa.S6 Go.Proofs.Ytodbpecmaiidpaa.V6

/-- the sum of a column -/
def tot (C : Nat → Nat → Int) (i : Nat) : Nat → Int
  | 0 => 0
  | k + 1 => IntKind.i64.wrap (tot C i k + IntKind.i64.wrap (C i k))
def z16 : List AV := List.replicate 16 (.int .i16 0)

def c16 (c : Nat → Int) : List AV := [.int .i16 (c 0), .int .i16 (c 1), .int .i16 (c 2), .int .i16 (c 3), .int .i16 (c 4), .int .i16 (c 5), .int .i16 (c 6), .int .i16 (c 7), .int .i16 (c 8), .int .i16 (c 9), .int .i16 (c 10), .int .i16 (c 11), .int .i16 (c 12), .int .i16 (c 13), .int .i16 (c 14), .int .i16 (c 15)]
def sOf (st : St) : Option (Nat × (Nat → Int)) := match delit (gt st.slots 4), blkOf st.heap 2 with
  | .int _ (.ofNat i), some (.one _ o) => some (i, fun j => getI (gt o j))
  | _, _ => none
-- the reference
def SM (n : Nat) (T : Nat → Int) (C : Nat → Nat → Int) (c : Nat → Int) (i : Nat) (s k : Int) : St := ⟨[.slc 0 0 n, .junk, .ptr 1 0 0, .ptr 2 0 0, .int .i64 (Int.ofNat i), .int .i64 s, .int .i64 k] ++ junks 31, [.rows false n 17 (sRow T C), .one true z16, .one true (c16 c)]⟩
def EM (n : Nat) (T : Nat → Int) (C : Nat → Nat → Int) (c : Nat → Int) (i : Nat) (s : Int) : St := ⟨[.slc 0 0 n, .junk, .ptr 1 0 0, .ptr 2 0 0, .lit (.int .i64 (Int.ofNat i)), .int .i64 s, .junk] ++ junks 31, [.rows false n 17 (sRow T C), .one true z16, .one true (c16 c)]⟩
def EM0 (n : Nat) (T : Nat → Int) (C : Nat → Nat → Int) (c : Nat → Int) (i : Nat) (s : Int) : St := ⟨[.slc 0 0 n, .junk, .ptr 1 0 0, .ptr 2 0 0, .int .i64 (Int.ofNat i), .int .i64 s, .junk] ++ junks 31, [.rows false n 17 (sRow T C), .one true z16, .one true (c16 c)]⟩
theorem stepM (n : Nat) (T : Nat → Int) (C : Nat → Nat → Int) (c : Nat → Int) (s : Int) (k : Nat) : ∀ i, i < 16 →
    evC JS Try.prog (callF Try.prog extK 20 8) noL 20 (loopN Try.prog 77 8) (SM n T C c i s (Int.ofNat k)) (kG 1 [0, 2, 3, 4, 5, 6] [0, 2, 3, 4, 5] none none) =
      some (.node (decide (Int.ofNat k < (n : Int))) (.leaf (.nrm, SM n T C c i (IntKind.i64.wrap (s + IntKind.i64.wrap (C i k))) (IntKind.i64.wrap (Int.ofNat k + 1)))) (.leaf (.ext 2, EM0 n T C c i s)),
        andB (impB (decide (Int.ofNat k < (n : Int))) (andB (inB (Int.ofNat k) n) (andB (Nat.blt k n) true))) true)
  | 0, _ => by kernel_rfl
  | 1, _ => by kernel_rfl
  | 2, _ => by kernel_rfl
  | 3, _ => by kernel_rfl
  | 4, _ => by kernel_rfl
  | 5, _ => by kernel_rfl
  | 6, _ => by kernel_rfl
  | 7, _ => by kernel_rfl
  | 8, _ => by kernel_rfl
  | 9, _ => by kernel_rfl
  | 10, _ => by kernel_rfl
  | 11, _ => by kernel_rfl
  | 12, _ => by kernel_rfl
  | 13, _ => by kernel_rfl
  | 14, _ => by kernel_rfl
  | 15, _ => by kernel_rfl
  | i + 16, h => absurd h (by omega)
theorem imp_ff (x : Bool) : andB (impB false x) true = true := by cases x <;> rfl
theorem loopM (n : Nat) (hn : n ≤ few) (T : Nat → Int) (C : Nat → Nat → Int) (c : Nat → Int) (i : Nat) (hi : i < 16) : LoopOk Try.prog 1 (loopN Try.prog 77 8) (SM n T C c i 0 0) (.leaf (.ext 2, EM n T C c i (tot C i n))) := by
  have hf : few = 1099511627776 := rfl
  have key := loop_all (callF_ok sxApart sxMixed extK_ok (N := 20) 8) sxMixed (body := loopN Try.prog 77 8) (L := noL) (N := 20) (B := 1) (fun _ _ _ _ h => by cases h) [0, 2, 3, 4, 5, 6] [0, 2, 3, 4, 5] none none
    (fun k => SM n T C c i (tot C i k) (Int.ofNat k)) n (.ext 2, EM0 n T C c i (tot C i n)) (fun h => by cases h)
    (fun k hk => by
      refine ⟨_, by rw [stepM n T C c _ k i hi, ofNat_lt, inB_nat hk, blt_lt hk, decide_eq_true hk]; rfl, rfl, ?_, HLe.refl _⟩
      simp only [Tr.get, cond_true, SM]
      rw [wrap_i64 (n := Int.ofNat k + 1) (by simp only [Int.ofNat_eq_natCast]; omega) (by simp only [Int.ofNat_eq_natCast]; omega)]
      rfl)
    (by
      refine ⟨_, by rw [stepM n T C c _ n i hi, ofNat_lt, decide_eq_false (Nat.lt_irrefl n), imp_ff], rfl, rfl, HLe.refl _⟩)
  exact key.lit rfl rfl rfl

-- the program
def SN (n : Nat) (T : Nat → Int) (C : Nat → Nat → Int) (c : Nat → Int) (i : Nat) (s k : Int) : St := ⟨[.slc 0 0 n, .junk, .ptr 1 0 0, .ptr 2 0 0, .int .i64 (Int.ofNat i), .int .i64 s, .junk, .junk, .junk, .int .i64 (Int.ofNat i), .junk, .junk, .slc 0 0 n, .int .i64 n, .int .i64 k] ++ junks 22, [.rows false n 17 (sRow T C), .one true z16, .one true (c16 c)]⟩
def EN (n : Nat) (T : Nat → Int) (C : Nat → Nat → Int) (c : Nat → Int) (i : Nat) (s : Int) : St := ⟨[.slc 0 0 n, .junk, .ptr 1 0 0, .ptr 2 0 0, .lit (.int .i64 (Int.ofNat i)), .int .i64 s, .junk, .junk, .junk, .lit (.int .i64 (Int.ofNat i))] ++ junks 27, [.rows false n 17 (sRow T C), .one true z16, .one true (c16 c)]⟩
def EN0 (n : Nat) (T : Nat → Int) (C : Nat → Nat → Int) (c : Nat → Int) (i : Nat) (s : Int) : St := ⟨[.slc 0 0 n, .junk, .ptr 1 0 0, .ptr 2 0 0, .int .i64 (Int.ofNat i), .int .i64 s, .junk, .junk, .junk, .int .i64 (Int.ofNat i)] ++ junks 27, [.rows false n 17 (sRow T C), .one true z16, .one true (c16 c)]⟩
theorem stepN (n : Nat) (T : Nat → Int) (C : Nat → Nat → Int) (c : Nat → Int) (s : Int) (k : Nat) : ∀ i, i < 16 →
    evC JS Try.prog (callF Try.prog extK 20 8) noL 20 (loopN Try.prog 79 8) (SN n T C c i s (Int.ofNat k)) (kG 1 [0, 2, 3, 4, 5, 9, 12, 13, 14] [0, 2, 3, 4, 5, 9] (some [0, 1, 2]) (some [0, 1, 2])) =
      some (.node (decide (Int.ofNat k < (n : Int))) (.leaf (.nrm, SN n T C c i (IntKind.i64.wrap (s + IntKind.i64.wrap (C i k))) (IntKind.i64.wrap (Int.ofNat k + 1)))) (.leaf (.ext 2, EN0 n T C c i s)),
        andB (impB (decide (Int.ofNat k < (n : Int))) (andB (inB (Int.ofNat k) n) (andB (Nat.blt k n) true))) true)
  | 0, _ => by kernel_rfl
  | 1, _ => by kernel_rfl
  | 2, _ => by kernel_rfl
  | 3, _ => by kernel_rfl
  | 4, _ => by kernel_rfl
  | 5, _ => by kernel_rfl
  | 6, _ => by kernel_rfl
  | 7, _ => by kernel_rfl
  | 8, _ => by kernel_rfl
  | 9, _ => by kernel_rfl
  | 10, _ => by kernel_rfl
  | 11, _ => by kernel_rfl
  | 12, _ => by kernel_rfl
  | 13, _ => by kernel_rfl
  | 14, _ => by kernel_rfl
  | 15, _ => by kernel_rfl
  | i + 16, h => absurd h (by omega)
theorem loopN' (n : Nat) (hn : n ≤ few) (T : Nat → Int) (C : Nat → Nat → Int) (c : Nat → Int) (i : Nat) (hi : i < 16) : LoopOk Try.prog 1 (loopN Try.prog 79 8) (SN n T C c i 0 0) (.leaf (.ext 2, EN n T C c i (tot C i n))) := by
  have hf : few = 1099511627776 := rfl
  have key := loop_all (callF_ok sxApart sxMixed extK_ok (N := 20) 8) sxMixed (body := loopN Try.prog 79 8) (L := noL) (N := 20) (B := 1) (fun _ _ _ _ h => by cases h) [0, 2, 3, 4, 5, 9, 12, 13, 14] [0, 2, 3, 4, 5, 9] (some [0, 1, 2]) (some [0, 1, 2])
    (fun k => SN n T C c i (tot C i k) (Int.ofNat k)) n (.ext 2, EN0 n T C c i (tot C i n)) (fun h => by cases h)
    (fun k hk => by
      refine ⟨_, by rw [stepN n T C c _ k i hi, ofNat_lt, inB_nat hk, blt_lt hk, decide_eq_true hk]; rfl, rfl, ?_, HLe.refl _⟩
      simp only [Tr.get, cond_true, SN]
      rw [wrap_i64 (n := Int.ofNat k + 1) (by simp only [Int.ofNat_eq_natCast]; omega) (by simp only [Int.ofNat_eq_natCast]; omega)]
      rfl)
    (by
      refine ⟨_, by rw [stepN n T C c _ n i hi, ofNat_lt, decide_eq_false (Nat.lt_irrefl n), imp_ff], rfl, rfl, HLe.refl _⟩)
  exact key.lit rfl rfl rfl

noncomputable def LM (n : Nat) (T : Nat → Int) (C : Nat → Nat → Int) : LoopOr := loopFam 8 [0, 2, 3, 4, 5, 6] sOf (fun x => SM n T C x.2 x.1 0 0) (fun x => .leaf (.ext 2, EM n T C x.2 x.1 (tot C x.1 n))) (fun x => Nat.blt x.1 16) noL
noncomputable def LN (n : Nat) (T : Nat → Int) (C : Nat → Nat → Int) : LoopOr := loopFam 8 [0, 2, 3, 4, 5, 9, 12, 13, 14] sOf (fun x => SN n T C x.2 x.1 0 0) (fun x => .leaf (.ext 2, EN n T C x.2 x.1 (tot C x.1 n))) (fun x => Nat.blt x.1 16) noL
theorem LM_ok (n : Nat) (hn : n ≤ few) (T : Nat → Int) (C : Nat → Nat → Int) : LOk Try.prog 1 77 (LM n T C) := loopFam_all (by decide +kernel) (fun x hx => loopM n hn T C x.2 x.1 (by simpa [Nat.blt_eq] using hx)) noL_all
theorem LN_ok (n : Nat) (hn : n ≤ few) (T : Nat → Int) (C : Nat → Nat → Int) : LOk Try.prog 1 79 (LN n T C) := loopFam_all (by decide +kernel) (fun x hx => loopN' n hn T C x.2 x.1 (by simpa [Nat.blt_eq] using hx)) noL_all
/-- the mean of a column -/
noncomputable def mn (n : Nat) (C : Nat → Nat → Int) (i : Nat) : Int := cS (fop .quo .f32 (fofI .f32 (tot C i n)) (fofI .f32 n))

def mnL (f : Nat → Int) : List AV := List.map (AV.int .i16) [f 0, f 1, f 2, f 3, f 4, f 5, f 6, f 7, f 8, f 9, f 10, f 11, f 12, f 13, f 14, f 15]
/-- what is there of the means behind some rounds -/
noncomputable def ci (n : Nat) (C : Nat → Nat → Int) (i j : Nat) : Int := bif Nat.blt j i then mn n C j else 0
def ch (q : Nat → Bool) : Nat → Nat → Bool
  | 0, _ => true
  | n + 1, i => andB (q i) (ch q n (i + 1))
theorem ch_true {q : Nat → Bool} : ∀ {n i : Nat}, (∀ j, j < i + n → q j = true) → ch q n i = true
  | 0, _, _ => rfl
  | n + 1, i, h => by
    unfold ch
    rw [h i (by omega), ch_true (n := n) (i := i + 1) (fun j hj => h j (by omega))]
    rfl
theorem meanS (n : Nat) (T : Nat → Int) (C : Nat → Nat → Int) : evF Try.prog cntK (LM n T C) 20 8 77 [.slc 0 0 n] (roH n T C) =
    some (.leaf (.agg (mnL (mn n C)), none), ch (fun i => andB (Nat.blt i 16) (deqS (SM n T C (ci n C i) i 0 0) (SM n T C (ci n C i) i 0 0))) 16 0) := by kernel_rfl
theorem meanI (n : Nat) (T : Nat → Int) (C : Nat → Nat → Int) : evF Try.prog cntK (LN n T C) 20 8 79 [.slc 0 0 n] (roH n T C) =
    some (.leaf (.agg (mnL (mn n C)), none), ch (fun i => andB (Nat.blt i 16) (deqS (SN n T C (ci n C i) i 0 0) (SN n T C (ci n C i) i 0 0))) 16 0) := by kernel_rfl
theorem ch16 (f : Nat → St) : ch (fun i => andB (Nat.blt i 16) (deqS (f i) (f i))) 16 0 = true := ch_true fun j hj => by
  rw [deqS_self, blt_lt (by omega)]; rfl
noncomputable def runMean (n : Nat) (T : Nat → Int) (C : Nat → Nat → Int) : List AV → List Blk → Option Lf := selRun (runAtH [.slc 0 0 n] (roH n T C) (.leaf (.agg (mnL (mn n C)), none)) (Nat.ble n few))
theorem sumMeanS (n : Nat) (T : Nat → Int) (C : Nat → Nat → Int) : SumOk Try.prog 77 (runMean n T C) := sum_atH sxApart sxMixed cntK_ok (LM n T C) (N := 20) (d := 8) fun hn => by
  rw [Nat.ble_eq] at hn
  refine ⟨LM_ok n hn T C, _, ?_, LLe.refl _⟩
  rw [meanS, ch16]
theorem sumMeanI (n : Nat) (T : Nat → Int) (C : Nat → Nat → Int) : SumOk Try.prog 79 (runMean n T C) := sum_atH sxApart sxMixed cntK_ok (LN n T C) (N := 20) (d := 8) fun hn => by
  rw [Nat.ble_eq] at hn
  refine ⟨LN_ok n hn T C, _, ?_, LLe.refl _⟩
  rw [meanI, ch16]
/-- the contracts together -/
noncomputable def mK (n : Nat) (T : Nat → Int) (C : Nat → Nat → Int) (K : CallerT) : CallerT := vK n T C (addK 77 (runMean n T C) (addK 79 (runMean n T C) K))
theorem mK_ok (n : Nat) (T : Nat → Int) (C : Nat → Nat → Int) {K : CallerT} (hK : CallerTOk Try.prog K) : CallerTOk Try.prog (mK n T C K) := vK_ok n T C (addK_ok (sumMeanS n T C) (addK_ok (sumMeanI n T C) hK))
noncomputable def okH (n : Nat) (T : Nat → Int) (C : Nat → Nat → Int) : Bool := andB (deq [.slc 0 0 n] [.slc 0 0 n]) (andB (deqH (roH n T C) (roH n T C)) (Nat.ble n few))
theorem okH_true {n : Nat} (hn : Nat.ble n few = true) (T : Nat → Int) (C : Nat → Nat → Int) : okH n T C = true := by unfold okH; rw [deq_self, deqH_self, hn]; rfl
/-- the code of samples, one of which there has to be -/
def sc (n : Nat) (T : Nat → Int) : Int := bif !vS n T then 1 else bif (n : Int) == 0 then 6 else 0
noncomputable def mcv (n : Nat) (T : Nat → Int) (C : Nat → Nat → Int) (i : Nat) : Int := bif sc n T == 0 then mn n C i else 0
noncomputable def runMC (n : Nat) (T : Nat → Int) (C : Nat → Nat → Int) : List AV → List Blk → Option Lf := selRun (runAtH [.slc 0 0 n] (roH n T C) (.leaf (.tup [.agg (mnL (mcv n T C)), .int .i64 (sc n T)], none)) (Nat.ble n few))
noncomputable def TMC (n : Nat) (T : Nat → Int) (C : Nat → Nat → Int) : Tr (AV × Option (List Blk)) := .node (sc n T != 0) (.leaf (.tup [.agg z16, .int .i64 (sc n T)], none)) (.leaf (.tup [.agg (mnL (mn n C)), .lit (.int .i64 0)], none))
theorem TMC_le (n : Nat) (T : Nat → Int) (C : Nat → Nat → Int) : LLe (TMC n T C).get (.tup [.agg (mnL (mcv n T C)), .int .i64 (sc n T)], none) := by
  unfold TMC mcv
  by_cases h : sc n T = 0
  · rw [h]; exact LLe.of rfl rfl rfl
  · have h1 : (sc n T == 0) = false := by simpa using h
    have h2 : (sc n T != 0) = true := by simpa using h
    rw [h1, h2]; exact LLe.of rfl rfl rfl
theorem obMC (x y : Bool) (a : Bool) (hx : x = true) (hy : y = true) : andB (andB x true) (impB (!a) (andB y true)) = true := by subst hx hy; cases a <;> rfl
theorem sumMCS (n : Nat) (T : Nat → Int) (C : Nat → Nat → Int) : SumOk Try.prog 41 (runMC n T C) := sum_atH sxApart sxMixed (mK_ok n T C cntK_ok) noL (N := 20) (d := 8) fun hn => by
  refine ⟨noL_all, TMC n T C, ?_, TMC_le n T C⟩
  have h : evF Try.prog (mK n T C cntK) noL 20 8 41 [.slc 0 0 n] (roH n T C) = some (TMC n T C, andB (andB (okH n T C) true) (impB (!(sc n T != 0)) (andB (okH n T C) true))) := by kernel_rfl
  rw [obMC _ _ _ (okH_true hn T C) (okH_true hn T C)] at h
  exact h
theorem sumMCI (n : Nat) (T : Nat → Int) (C : Nat → Nat → Int) : SumOk Try.prog 42 (runMC n T C) := sum_atH sxApart sxMixed (mK_ok n T C cntK_ok) noL (N := 20) (d := 8) fun hn => by
  refine ⟨noL_all, TMC n T C, ?_, TMC_le n T C⟩
  have h : evF Try.prog (mK n T C cntK) noL 20 8 42 [.slc 0 0 n] (roH n T C) = some (TMC n T C, andB (andB (okH n T C) true) (impB (!(sc n T != 0)) (andB (okH n T C) true))) := by kernel_rfl
  rw [obMC _ _ _ (okH_true hn T C) (okH_true hn T C)] at h
  exact h
/-- how the laws compare counts -/
def eqc : List Int → Bool
  | [] => true
  | x :: t => cond (x != x) false (eqc t)
theorem eqc_true : ∀ l, eqc l = true
  | [] => rfl
  | x :: t => by simp [eqc, eqc_true t]
noncomputable def okE (n : Nat) (T : Nat → Int) (C : Nat → Nat → Int) : Bool := andB (deq [.slc 0 0 n, .slc 1 0 n] [.slc 0 0 n, .slc 1 0 n]) (andB (deqH (roH2 n T C) (roH2 n T C)) (Nat.ble n few))
theorem okE_true {n : Nat} (hn : Nat.ble n few = true) (T : Nat → Int) (C : Nat → Nat → Int) : okE n T C = true := by unfold okE; rw [deq_self, deqH_self, hn]; rfl
def lv (n : Nat) : Bool := decide (lft n < 0)
theorem law_ob1 {l a q1 q2 q3 q4 : Bool} (h : l = true ∨ (q1 = true ∧ q2 = true ∧ q3 = true ∧ q4 = true)) : impB (!l) (andB q1 (andB q3 (andB q1 (andB q4 (impB a (andB q1 (andB q2 true))))))) = true := by
  rcases h with h | ⟨h1, h2, h3, h4⟩
  · subst h
    cases (andB q1 (andB q3 (andB q1 (andB q4 (impB a (andB q1 (andB q2 true))))))) <;> rfl
  · subst h1 h2 h3 h4
    cases l <;> cases a <;> rfl
theorem lv_or {n : Nat} (h : n ≤ 9223372036854775807) : lv n = true ∨ Nat.ble n few = true := by
  rcases lft_few h with h | h
  · exact .inl h
  · exact .inr (Nat.ble_eq_true_of_le h)
end Go.Proofs.Ytodbpecmaiidpaa.M6
