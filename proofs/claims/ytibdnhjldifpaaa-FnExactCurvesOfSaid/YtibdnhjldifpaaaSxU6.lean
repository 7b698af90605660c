/- Curves of samples: the loops of the reference and of the program. -/
import Derived.Test.YtibdnhjldifpaaaSxG6
import Derived.Test.YtibdnhjldifpaaaSxFm
set_option linter.unusedVariables false
set_option linter.unusedSimpArgs false
set_option maxRecDepth 100000
namespace Go.Proofs.Ytibdnhjldifpaaa.U6
open Go.Sx Go.Sx.C6 Go.RowKit Go.Proofs.Ytibdnhjldifpaaa.S6 Go.Proofs.Ytibdnhjldifpaaa.G6 Go.Proofs.Ytibdnhjldifpaaa.V6 Go.Proofs.Ytibdnhjldifpaaa.H6

def i16L (c : Nat → Int) : List AV := List.map (AV.int .i16) (w16 c)
def f32L (c : Nat → Option Nat) : List AV := List.map (AV.flt .f32) (k16 c)
def selC : List AV → Option ((Nat → Int) × Int)
  | [_, .agg [.int .i16 c0, .int .i16 c1, .int .i16 c2, .int .i16 c3, .int .i16 c4, .int .i16 c5, .int .i16 c6, .int .i16 c7, .int .i16 c8, .int .i16 c9, .int .i16 c10, .int .i16 c11, .int .i16 c12, .int .i16 c13, .int .i16 c14, .int .i16 c15], .int .i64 t] => some (fun i => [c0, c1, c2, c3, c4, c5, c6, c7, c8, c9, c10, c11, c12, c13, c14, c15].getD i 0, t)
  | _ => none
/-- a contract for a family of arguments -/
noncomputable def famK {X : Type} (sel : List AV → Option X) (run : X → List AV → List Blk → Option Lf) : List AV → List Blk → Option Lf := fun a H => match sel a with | some x => run x a H | none => none
theorem famK_ok {P : Program} {f : FuncId} {X : Type} {sel : List AV → Option X} {run : X → List AV → List Blk → Option Lf} (h : ∀ x, SumOk P f (run x)) : SumOk P f (famK sel run) := fun args H t hr => by
  unfold famK at hr
  split at hr
  · exact h _ _ _ _ hr
  · cases hr

-- one curve
noncomputable def ln (dd : Int → Int → Int) (g : Gg) (c : Nat → Int) (t : Int) (i : Nat) : Option Nat := lane dd (lamp g.d t) (c i) (g.b i) (g.k i) (g.w i)
noncomputable def pos (g : Gg) (t : Int) : Bool := fcmp .gtr .f32 (lamp g.d t) (some 0)
theorem lc1 (g : Gg) (c : Nat → Int) (t : Int) : evF Try.prog extK noL 20 8 63 [.ptr 0 0 0, .agg (i16L c), .int .i64 t] (gH g) = some (.leaf (.agg (f32L (ln d64 g c t)), none), true) := by kernel_rfl
noncomputable def runLc (g : Gg) : List AV → List Blk → Option Lf := famK selC fun x => selRun (runAtH [.ptr 0 0 0, .agg (i16L x.1), .int .i64 x.2] (gH g) (.leaf (.agg (f32L (ln d64 g x.1 x.2)), none)) true)
theorem sumLc (g : Gg) : SumOk Try.prog 63 (runLc g) := famK_ok fun x => sum_atH sxApart sxMixed extK_ok noL (N := 20) (d := 8) fun _ => ⟨noL_all, _, lc1 g x.1 x.2, LLe.refl _⟩
noncomputable def lcK (g : Gg) : CallerT := addK 63 (runLc g) extK
theorem lcK_ok (g : Gg) : CallerTOk Try.prog (lcK g) := addK_ok (sumLc g) extK_ok
noncomputable def okc (g : Gg) (c : Nat → Int) (t : Int) : Bool := andB (deq [.ptr 0 0 0, .agg (i16L c), .int .i64 t] [.ptr 0 0 0, .agg (i16L c), .int .i64 t]) (andB (deqH (gH g) (gH g)) true)
theorem okc_true (g : Gg) (c : Nat → Int) (t : Int) : okc g c t = true := by unfold okc; rw [deq_self, deqH_self]; rfl

def z16 : List AV := List.replicate 16 (.flt .f32 (some 0))
noncomputable def coT (g : Gg) (c : Nat → Int) (t : Int) : Tr (AV × Option (List Blk)) := .node (!gV g) (.leaf (.tup [.agg z16, .lit (.int .i64 1)], none)) (.node (!tr t) (.leaf (.tup [.agg z16, .lit (.int .i64 2)], none))
    (.node (!pos g t) (.leaf (.tup [.agg z16, .lit (.int .i64 4)], none)) (.leaf (.tup [.agg (f32L (ln d32 g c t)), .lit (.int .i64 0)], none))))
theorem co1 (g : Gg) (c : Nat → Int) (t : Int) : evF Try.prog (addK 44 (runGI g) extK) noL 20 8 42 [.agg (gF g), .agg (i16L c), .int .i64 t] [] = some (coT g c t, andB (andB (ogI g) true) true) := by kernel_rfl
noncomputable def runCo (g : Gg) : List AV → List Blk → Option Lf := famK selC fun x => selRun (runAtH [.agg (gF g), .agg (i16L x.1), .int .i64 x.2] [] (.node (pos g x.2) (.leaf (.tup [.agg (f32L (ln d32 g x.1 x.2)), .lit (.int .i64 0)], none)) (.leaf (.tup [.agg z16, .lit (.int .i64 4)], none))) (andB (gV g) (tr x.2)))
theorem sumCo (g : Gg) : SumOk Try.prog 42 (runCo g) := famK_ok fun x => sum_atH sxApart sxMixed (addK_ok (sumGI g) extK_ok) noL (N := 20) (d := 8) fun hg => by
  obtain ⟨h1, h2⟩ := andB_true hg
  refine ⟨noL_all, coT g x.1 x.2, by rw [co1, ogI_true]; rfl, ?_⟩
  unfold coT
  rw [h1, h2]
  cases pos g x.2 <;> exact LLe.of rfl rfl rfl
noncomputable def coK (g : Gg) : CallerT := addK 42 (runCo g) extK
theorem coK_ok (g : Gg) : CallerTOk Try.prog (coK g) := addK_ok (sumCo g) extK_ok
noncomputable def oko (g : Gg) (c : Nat → Int) (t : Int) : Bool := andB (deq [.agg (gF g), .agg (i16L c), .int .i64 t] [.agg (gF g), .agg (i16L c), .int .i64 t]) (andB (deqH [] []) (andB (gV g) (tr t)))
theorem oko_true {g : Gg} {c : Nat → Int} {t : Int} (h1 : gV g = true) (h2 : tr t = true) : oko g c t = true := by unfold oko; rw [deq_self, deqH_self, h1, h2]; rfl

-- the reference's first loop: the curves
def zB : Blk := .one true z16
def cvB (n : Nat) (cv : Nat → Nat → Option Nat) : Blk := .rows true n 16 (fun k => f32L (fun i => cv i k))
noncomputable def cv (dd : Int → Int → Int) (T : Nat → Int) (C : Nat → Nat → Int) (g : Gg) (i k : Nat) : Option Nat := ln dd g (fun i => C i k) (T k) i
def Sa (n : Nat) (T : Nat → Int) (C : Nat → Nat → Int) (g : Gg) (b : Blk) (m : Nat) (k : Int) : St := ⟨[.junk, .slc 0 0 n, .ptr 1 0 0, .junk, .ptr 2 0 0, .ptr 3 0 0, .int .i64 0, .slc 4 0 m, .int .i64 k] ++ junks 111, [.rows false n 17 (sRow T C), .one true (gF g), zB, zB, b]⟩
def Ea (c : Int) (n : Nat) (T : Nat → Int) (C : Nat → Nat → Int) (g : Gg) (b : Blk) (m : Nat) : St := ⟨[.junk, .slc 0 0 n, .ptr 1 0 0, .junk, .ptr 2 0 0, .ptr 3 0 0, .int .i64 c, .slc 4 0 m] ++ junks 112, [.rows false n 17 (sRow T C), .one true (gF g), zB, zB, b]⟩
noncomputable def apC (k : Nat) (f : Nat → Nat → Option Nat) : Blk := .rows true (k + 1) 16 (fun i => renVL (idxP [0, 1, 2, 3, 6]) (catF k (shF (fun j => f32L (fun i => f i j)) 0) (shF (fun j => bif Nat.blt j 1 then (((f32L (fun i => f i k)).drop (j * 16)).take 16) else z16) 0) i))
theorem apC_le (k : Nat) (f : Nat → Nat → Option Nat) : BLe (apC k f) (cvB (k + 1) f) := BLe.rows fun i hi => by
  have h0 : i - k = 0 := by omega
  simp only [catF, shF, h0]
  by_cases h : i < k
  · rw [blt_lt h]; rfl
  · have : i = k := by omega
    subst this
    rw [blt_ge (Nat.le_refl i)]; rfl
noncomputable def oa (n k : Nat) (p q : Bool) : Bool := andB (inB (Int.ofNat k) n) (andB (Nat.blt k n) (impB (!!p) (andB (andB (inB (Int.ofNat k) n) (andB (Nat.blt k n) (andB (inB (Int.ofNat k) n) (andB (Nat.blt k n) (andB q true))))) (andB (andB (andB (Nat.ble (0 + k) k) true) (Nat.ble (k + 1) few)) true))))
theorem oa_true {n k : Nat} (h : k < n) (hn : n ≤ few) (p : Bool) {q : Bool} (hq : q = true) : oa n k p q = true := by
  subst hq
  unfold oa
  rw [inB_nat h, blt_lt h, Nat.ble_eq_true_of_le (show 0 + k ≤ k by omega), Nat.ble_eq_true_of_le (show k + 1 ≤ few by omega)]
  cases p <;> rfl
theorem stepA (n : Nat) (T : Nat → Int) (C : Nat → Nat → Int) (g : Gg) (k : Nat) :
    evC JS Try.prog (callF Try.prog (lcK g) 20 8) noL 20 (loopN Try.prog 13 8) (Sa n T C g (cvB k (cv d64 T C g)) k (Int.ofNat k)) (kG 1 [1, 2, 4, 5, 6, 7, 8] [1, 2, 4, 5, 6, 7] (some [0, 1, 2, 3, 6]) none) =
      some (.node (decide (Int.ofNat k < (n : Int))) (.node (!pos g (T k)) (.leaf (.ret, Ea 4 n T C g (cvB k (cv d64 T C g)) k)) (.leaf (.nrm, Sa n T C g (apC k (cv d64 T C g)) (k + 1) (IntKind.i64.wrap (Int.ofNat k + 1))))) (.leaf (.ext 0, Ea 0 n T C g (cvB k (cv d64 T C g)) k)),
        andB (impB (decide (Int.ofNat k < (n : Int))) (oa n k (pos g (T k)) (okc g (fun i => C i k) (T k)))) true) := by kernel_rfl
def zR : Blk := .rows true 0 16 (fun i => bif Nat.blt i 0 then (([] : List AV).drop (i * 16)).take 16 else z16)
noncomputable def tA (n : Nat) (T : Nat → Int) (C : Nat → Nat → Int) (g : Gg) : Tr (AX × St) := .node (allB n fun k => pos g (T k)) (.leaf (.ext 0, Ea 0 n T C g (cvB n (cv d64 T C g)) n)) (.leaf (.ret, Ea 4 n T C g (cvB (fb (fun k => pos g (T k)) n) (cv d64 T C g)) (fb (fun k => pos g (T k)) n)))
theorem loopA (n : Nat) (hn : n ≤ few) (T : Nat → Int) (C : Nat → Nat → Int) (g : Gg) : LoopOk Try.prog 1 (loopN Try.prog 13 8) (Sa n T C g zR 0 0) (tA n T C g) := by
  have hf : few = 1099511627776 := rfl
  have key := loop_forE (callF_ok sxApart sxMixed (lcK_ok g) (N := 20) 8) sxMixed (body := loopN Try.prog 13 8) (L := noL) (N := 20) (B := 1) (fun _ _ _ _ h => by cases h) [1, 2, 4, 5, 6, 7, 8] [1, 2, 4, 5, 6, 7] (some [0, 1, 2, 3, 6]) none
    (fun k => Sa n T C g (cvB k (cv d64 T C g)) k (Int.ofNat k)) n (fun k => pos g (T k)) (fun k => (.ret, Ea 4 n T C g (cvB k (cv d64 T C g)) k)) (.ext 0, Ea 0 n T C g (cvB n (cv d64 T C g)) n) (fun _ h => by cases h) (fun h => by cases h)
    (fun k hk _ => by
      refine ⟨_, by rw [stepA, ofNat_lt, oa_true hk hn _ (okc_true _ _ _), decide_eq_true hk]; rfl, fun hp => ?_, fun hp => ?_⟩
      · rw [hp]
        refine ⟨rfl, ?_, ⟨BLe.refl _, BLe.refl _, BLe.refl _, BLe.refl _, apC_le _ _, trivial⟩⟩
        simp only [Tr.get, cond_true, cond_false, Bool.not_true, Sa]
        rw [wrap_i64 (n := Int.ofNat k + 1) (by simp only [Int.ofNat_eq_natCast]; omega) (by simp only [Int.ofNat_eq_natCast]; omega)]
        rfl
      · rw [hp]
        exact XLe.refl _)
    (fun _ => by
      refine ⟨_, by rw [stepA, ofNat_lt, decide_eq_false (Nat.lt_irrefl n), imp_ff], XLe.refl _⟩)
  exact key.from ⟨rfl, BLe.refl _, BLe.refl _, BLe.refl _, BLe.refl _, BLe.rows fun i hi => absurd hi (Nat.not_lt_zero i), trivial⟩

-- the reference's inner loop: a lane
noncomputable def lsS (f : Nat → Option Nat) : Nat → Option Nat
  | 0 => some 0
  | k + 1 => cond (Int.ofNat k == 0) (f k) (cond (fcmp .lss .f32 (f k) (lsS f k)) (f k) (lsS f k))
noncomputable def msS (f : Nat → Option Nat) : Nat → Option Nat
  | 0 => some 0
  | k + 1 => cond (Int.ofNat k == 0) (f k) (cond (fcmp .gtr .f32 (f k) (msS f k)) (f k) (msS f k))
def Sb (n : Nat) (T : Nat → Int) (C : Nat → Nat → Int) (g : Gg) (f : Nat → Nat → Option Nat) (mm ss : Nat → Option Nat) (i : Nat) (s l m : Option Nat) (k : Int) : St := ⟨[.junk, .slc 0 0 n, .ptr 1 0 0, .junk, .ptr 2 0 0, .ptr 3 0 0, .int .i64 0, .slc 4 0 n, .junk, .ptr 5 0 0, .ptr 6 0 0, .int .i64 (Int.ofNat i), .flt .f32 s, .flt .f32 l, .flt .f32 m, .int .i64 k] ++ junks 104, [.rows false n 17 (sRow T C), .one true (gF g), zB, zB, cvB n f, .one true (f32L mm), .one true (f32L ss)]⟩
def Eb0 (n : Nat) (T : Nat → Int) (C : Nat → Nat → Int) (g : Gg) (f : Nat → Nat → Option Nat) (mm ss : Nat → Option Nat) (i : Nat) (s l m : Option Nat) : St := ⟨[.junk, .slc 0 0 n, .ptr 1 0 0, .junk, .ptr 2 0 0, .ptr 3 0 0, .int .i64 0, .slc 4 0 n, .junk, .ptr 5 0 0, .ptr 6 0 0, .int .i64 (Int.ofNat i), .flt .f32 s, .flt .f32 l, .flt .f32 m] ++ junks 105, [.rows false n 17 (sRow T C), .one true (gF g), zB, zB, cvB n f, .one true (f32L mm), .one true (f32L ss)]⟩
def Eb (n : Nat) (T : Nat → Int) (C : Nat → Nat → Int) (g : Gg) (f : Nat → Nat → Option Nat) (mm ss : Nat → Option Nat) (i : Nat) (s l m : Option Nat) : St := ⟨[.junk, .slc 0 0 n, .ptr 1 0 0, .junk, .ptr 2 0 0, .ptr 3 0 0, .lit (.int .i64 0), .slc 4 0 n, .junk, .ptr 5 0 0, .ptr 6 0 0, .lit (.int .i64 (Int.ofNat i)), .flt .f32 s, .flt .f32 l, .flt .f32 m] ++ junks 105, [.rows false n 17 (sRow T C), .one true (gF g), zB, zB, cvB n f, .one true (f32L mm), .one true (f32L ss)]⟩
theorem stepB (n : Nat) (T : Nat → Int) (C : Nat → Nat → Int) (g : Gg) (f : Nat → Nat → Option Nat) (mm ss : Nat → Option Nat) (s l m : Option Nat) (k : Nat) : ∀ i, i < 16 →
    evC JS Try.prog (callF Try.prog extK 20 8) noL 20 (loopN Try.prog 13 22) (Sb n T C g f mm ss i s l m (Int.ofNat k)) (kG 1 [1, 2, 4, 5, 6, 7, 9, 10, 11, 12, 13, 14, 15] [1, 2, 4, 5, 6, 7, 9, 10, 11, 12, 13, 14] none none) =
      some (.node (decide (Int.ofNat k < (n : Int))) (.leaf (.nrm, Sb n T C g f mm ss i (fop .add .f32 s (f i k)) (cond (fcmp .lss .f32 (f i k) l) (f i k) l) (cond (fcmp .gtr .f32 (f i k) m) (f i k) m) (IntKind.i64.wrap (Int.ofNat k + 1)))) (.leaf (.ext 4, Eb0 n T C g f mm ss i s l m)),
        andB (impB (decide (Int.ofNat k < (n : Int))) (andB (inB (Int.ofNat k) n) (andB (Nat.blt k n) true))) true)
  | 0, _ => by kernel_rfl
  | 1, _ => by kernel_rfl
  | 2, _ => by kernel_rfl
  | 3, _ => by kernel_rfl
  | 4, _ => by kernel_rfl
  | 5, _ => by kernel_rfl
  | 6, _ => by kernel_rfl
  | 7, _ => by kernel_rfl
  | 8, _ => by kernel_rfl
  | 9, _ => by kernel_rfl
  | 10, _ => by kernel_rfl
  | 11, _ => by kernel_rfl
  | 12, _ => by kernel_rfl
  | 13, _ => by kernel_rfl
  | 14, _ => by kernel_rfl
  | 15, _ => by kernel_rfl
  | i + 16, h => absurd h (by omega)
theorem loopB (n : Nat) (hn : n ≤ few) (h0 : 0 < n) (T : Nat → Int) (C : Nat → Nat → Int) (g : Gg) (f : Nat → Nat → Option Nat) (mm ss : Nat → Option Nat) (i : Nat) (hi : i < 16) : LoopOk Try.prog 1 (loopN Try.prog 13 22) (Sb n T C g f mm ss i (f i 0) (f i 0) (f i 0) 1) (.leaf (.ext 4, Eb n T C g f mm ss i (fs (f i) n) (lsS (f i) n) (msS (f i) n))) := by
  have hf : few = 1099511627776 := rfl
  obtain ⟨m, rfl⟩ : ∃ m, n = m + 1 := ⟨n - 1, by omega⟩
  have key := loop_all (callF_ok sxApart sxMixed extK_ok (N := 20) 8) sxMixed (body := loopN Try.prog 13 22) (L := noL) (N := 20) (B := 1) (fun _ _ _ _ h => by cases h) [1, 2, 4, 5, 6, 7, 9, 10, 11, 12, 13, 14, 15] [1, 2, 4, 5, 6, 7, 9, 10, 11, 12, 13, 14] none none
    (fun k => Sb (m + 1) T C g f mm ss i (fs (f i) (k + 1)) (lsS (f i) (k + 1)) (msS (f i) (k + 1)) (Int.ofNat (k + 1))) m (.ext 4, Eb0 (m + 1) T C g f mm ss i (fs (f i) (m + 1)) (lsS (f i) (m + 1)) (msS (f i) (m + 1))) (fun h => by cases h)
    (fun k hk => by
      refine ⟨_, by rw [stepB _ T C g f mm ss _ _ _ (k + 1) i hi, ofNat_lt, inB_nat (show k + 1 < m + 1 by omega), blt_lt (show k + 1 < m + 1 by omega), decide_eq_true (show k + 1 < m + 1 by omega)]; rfl, rfl, ?_, HLe.refl _⟩
      simp only [Tr.get, cond_true, Sb]
      rw [wrap_i64 (n := Int.ofNat (k + 1) + 1) (by simp only [Int.ofNat_eq_natCast]; omega) (by simp only [Int.ofNat_eq_natCast]; omega)]
      rfl)
    (by
      refine ⟨_, by rw [stepB _ T C g f mm ss _ _ _ (m + 1) i hi, ofNat_lt, decide_eq_false (Nat.lt_irrefl (m + 1)), imp_ff], rfl, rfl, HLe.refl _⟩)
  exact key.lit rfl rfl rfl
def selB (st : St) : Option (Nat × (Nat → Option Nat) × (Nat → Option Nat)) :=
  match delit (gt st.slots 11), st.heap with
  | .int .i64 (.ofNat i), [_, _, _, _, _, .one _ [.flt .f32 c0, .flt .f32 c1, .flt .f32 c2, .flt .f32 c3, .flt .f32 c4, .flt .f32 c5, .flt .f32 c6, .flt .f32 c7, .flt .f32 c8, .flt .f32 c9, .flt .f32 c10, .flt .f32 c11, .flt .f32 c12, .flt .f32 c13, .flt .f32 c14, .flt .f32 c15], .one _ [.flt .f32 d0, .flt .f32 d1, .flt .f32 d2, .flt .f32 d3, .flt .f32 d4, .flt .f32 d5, .flt .f32 d6, .flt .f32 d7, .flt .f32 d8, .flt .f32 d9, .flt .f32 d10, .flt .f32 d11, .flt .f32 d12, .flt .f32 d13, .flt .f32 d14, .flt .f32 d15]] => some (i, fun j => [c0, c1, c2, c3, c4, c5, c6, c7, c8, c9, c10, c11, c12, c13, c14, c15].getD j none, fun j => [d0, d1, d2, d3, d4, d5, d6, d7, d8, d9, d10, d11, d12, d13, d14, d15].getD j none)
  | _, _ => none
noncomputable def LB (n : Nat) (T : Nat → Int) (C : Nat → Nat → Int) (g : Gg) (f : Nat → Nat → Option Nat) : LoopOr := loopFam 22 [1, 2, 4, 5, 6, 7, 9, 10, 11, 12, 13, 14, 15] selB (fun x => Sb n T C g f x.2.1 x.2.2 x.1 (f x.1 0) (f x.1 0) (f x.1 0) 1) (fun x => .leaf (.ext 4, Eb n T C g f x.2.1 x.2.2 x.1 (fs (f x.1) n) (lsS (f x.1) n) (msS (f x.1) n))) (fun x => andB (Nat.blt x.1 16) (Nat.blt 0 n)) (loopAt 8 [1, 2, 4, 5, 6, 7, 8] (Sa n T C g zR 0 0) (tA n T C g) noL)
theorem LB_ok (n : Nat) (hn : n ≤ few) (T : Nat → Int) (C : Nat → Nat → Int) (g : Gg) (f : Nat → Nat → Option Nat) : LOk Try.prog 1 13 (LB n T C g f) := loopFam_all (by decide +kernel) (fun x hx => by
  obtain ⟨h1, h2⟩ := andB_true hx
  exact loopB n hn (by simpa [Nat.blt_eq] using h2) T C g f _ _ _ (by simpa [Nat.blt_eq] using h1)) (loopAt_all (B := 1) (by decide +kernel) (loopA n hn T C g) noL_all)

-- the program's loop
noncomputable def lsI (f : Nat → Option Nat) : Nat → Option Nat
  | 0 => some 0
  | k + 1 => cond (Int.ofNat k == 0) (f k) (fmin2 .f32 (lsI f k) (f k))
noncomputable def msI (f : Nat → Option Nat) : Nat → Option Nat
  | 0 => some 0
  | k + 1 => cond (Int.ofNat k == 0) (f k) (fmax2 .f32 (msI f k) (f k))
def Sc (n : Nat) (T : Nat → Int) (C : Nat → Nat → Int) (g : Gg) (t l m : Nat → Option Nat) (k : Int) : St := ⟨[.junk, .junk, .ptr 1 0 0, .ptr 2 0 0, .ptr 3 0 0, .ptr 4 0 0, .int .i64 0, .junk, .ptr 5 0 0, .ptr 6 0 0, .ptr 7 0 0] ++ junks 20 ++ [.slc 0 0 n, .int .i64 n, .int .i64 k] ++ junks 40, [.rows false n 17 (sRow T C), .one true (gF g), .one true [.slc 0 0 n], zB, zB, .one true (f32L t), .one true (f32L l), .one true (f32L m)]⟩
def Ec (c : Int) (n : Nat) (T : Nat → Int) (C : Nat → Nat → Int) (g : Gg) (t l m : Nat → Option Nat) : St := ⟨[.junk, .junk, .ptr 1 0 0, .ptr 2 0 0, .ptr 3 0 0, .ptr 4 0 0, .int .i64 c, .junk, .ptr 5 0 0, .ptr 6 0 0, .ptr 7 0 0] ++ junks 63, [.rows false n 17 (sRow T C), .one true (gF g), .one true [.slc 0 0 n], zB, zB, .one true (f32L t), .one true (f32L l), .one true (f32L m)]⟩
theorem stepC (n : Nat) (T : Nat → Int) (C : Nat → Nat → Int) (g : Gg) (t l m : Nat → Option Nat) (k : Nat) :
    evC JS Try.prog (callF Try.prog (coK g) 20 8) noL 20 (loopN Try.prog 16 9) (Sc n T C g t l m (Int.ofNat k)) (kG 1 [2, 3, 4, 5, 6, 8, 9, 10, 31, 32, 33] [2, 3, 4, 5, 6, 8, 9, 10] (some [0, 1, 2, 3, 4, 5, 6, 7]) (some [0, 1, 2, 3, 4, 5, 6, 7])) =
      some (.node (decide (Int.ofNat k < (n : Int))) (.node (pos g (T k))
        (.node (Int.ofNat k == 0) (.leaf (.nrm, Sc n T C g (fun i => cv d32 T C g i k) (fun i => cv d32 T C g i k) (fun i => cv d32 T C g i k) (IntKind.i64.wrap (Int.ofNat k + 1))))
          (.leaf (.nrm, Sc n T C g (fun i => fop .add .f32 (t i) (cv d32 T C g i k)) (fun i => fmin2 .f32 (l i) (cv d32 T C g i k)) (fun i => fmax2 .f32 (m i) (cv d32 T C g i k)) (IntKind.i64.wrap (Int.ofNat k + 1)))))
        (.leaf (.ret, Ec 4 n T C g t l m))) (.leaf (.ext 0, Ec 0 n T C g t l m)),
        andB (impB (decide (Int.ofNat k < (n : Int))) (andB (inB (Int.ofNat k) n) (andB (Nat.blt k n) (andB (oko g (fun i => C i k) (T k)) true)))) true) := by kernel_rfl
noncomputable def ac (T : Nat → Int) (C : Nat → Nat → Int) (g : Gg) (r : (Nat → Option Nat) → Nat → Option Nat) (k : Nat) (i : Nat) : Option Nat := r (cv d32 T C g i) k
noncomputable def tC (n : Nat) (T : Nat → Int) (C : Nat → Nat → Int) (g : Gg) : Tr (AX × St) := .node (allB n fun k => pos g (T k)) (.leaf (.ext 0, Ec 0 n T C g (ac T C g fs n) (ac T C g lsI n) (ac T C g msI n))) (.leaf (.ret, Ec 4 n T C g (ac T C g fs (fb (fun k => pos g (T k)) n)) (ac T C g lsI (fb (fun k => pos g (T k)) n)) (ac T C g msI (fb (fun k => pos g (T k)) n))))
theorem loopC (n : Nat) (hn : n ≤ few) (T : Nat → Int) (C : Nat → Nat → Int) (g : Gg) (hg : gV g = true) (ht : ∀ k, k < n → tr (T k) = true) : LoopOk Try.prog 1 (loopN Try.prog 16 9) (Sc n T C g (fun _ => some 0) (fun _ => some 0) (fun _ => some 0) 0) (tC n T C g) := by
  have hf : few = 1099511627776 := rfl
  exact loop_forE (callF_ok sxApart sxMixed (coK_ok g) (N := 20) 8) sxMixed (body := loopN Try.prog 16 9) (L := noL) (N := 20) (B := 1) (fun _ _ _ _ h => by cases h) [2, 3, 4, 5, 6, 8, 9, 10, 31, 32, 33] [2, 3, 4, 5, 6, 8, 9, 10] (some [0, 1, 2, 3, 4, 5, 6, 7]) (some [0, 1, 2, 3, 4, 5, 6, 7])
    (fun k => Sc n T C g (ac T C g fs k) (ac T C g lsI k) (ac T C g msI k) (Int.ofNat k)) n (fun k => pos g (T k)) (fun k => (.ret, Ec 4 n T C g (ac T C g fs k) (ac T C g lsI k) (ac T C g msI k))) (.ext 0, Ec 0 n T C g (ac T C g fs n) (ac T C g lsI n) (ac T C g msI n)) (fun _ h => by cases h) (fun h => by cases h)
    (fun k hk _ => by
      refine ⟨_, by rw [stepC, ofNat_lt, oko_true hg (ht k hk), inB_nat hk, blt_lt hk, decide_eq_true hk]; rfl, fun hp => ?_, fun hp => ?_⟩
      · rw [hp]
        have hw := wrap_i64 (n := Int.ofNat k + 1) (by simp only [Int.ofNat_eq_natCast]; omega) (by simp only [Int.ofNat_eq_natCast]; omega)
        cases h0 : (Int.ofNat k == 0) with
        | true =>
          refine XLe.of_eq ?_
          have e1 : ac T C g fs (k + 1) = fun i => cv d32 T C g i k := funext fun i => by simp only [ac, fs, h0]; rfl
          have e2 : ac T C g lsI (k + 1) = fun i => cv d32 T C g i k := funext fun i => by simp only [ac, lsI, h0]; rfl
          have e3 : ac T C g msI (k + 1) = fun i => cv d32 T C g i k := funext fun i => by simp only [ac, msI, h0]; rfl
          rw [e1, e2, e3, hw]
          rfl
        | false =>
          refine XLe.of_eq ?_
          have e1 : ac T C g fs (k + 1) = fun i => fop .add .f32 (ac T C g fs k i) (cv d32 T C g i k) := funext fun i => by simp only [ac, fs, h0]; rfl
          have e2 : ac T C g lsI (k + 1) = fun i => fmin2 .f32 (ac T C g lsI k i) (cv d32 T C g i k) := funext fun i => by simp only [ac, lsI, h0]; rfl
          have e3 : ac T C g msI (k + 1) = fun i => fmax2 .f32 (ac T C g msI k i) (cv d32 T C g i k) := funext fun i => by simp only [ac, msI, h0]; rfl
          rw [e1, e2, e3, hw]
          rfl
      · rw [hp]
        exact XLe.refl _)
    (fun _ => by
      refine ⟨_, by rw [stepC, ofNat_lt, decide_eq_false (Nat.lt_irrefl n), imp_ff], XLe.refl _⟩)
end Go.Proofs.Ytibdnhjldifpaaa.U6
