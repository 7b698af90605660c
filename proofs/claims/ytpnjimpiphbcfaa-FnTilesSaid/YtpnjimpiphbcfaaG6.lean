/- Texts of one claim, put together. -/
import Derived.Test.YtpnjimpiphbcfaaG5
set_option linter.unusedVariables false
set_option linter.unusedSimpArgs false
set_option exponentiation.threshold 3000
set_option maxRecDepth 100000
namespace Go.Proofs.Ytpnjimpiphbcfaa.K7
open Go Go.Sx Go.Sx.R0 Go.Sx.C5 Go.Sx.C1 Go.Sx.Fl Go.Sx.Ink Ieee Go.Proofs.Ytpnjimpiphbcfaa.J1 Go.Proofs.Ytpnjimpiphbcfaa.J2 Go.Proofs.Ytpnjimpiphbcfaa.J4 Go.Proofs.Ytpnjimpiphbcfaa.J5 Go.Proofs.Ytpnjimpiphbcfaa.V5 Go.Proofs.Ytpnjimpiphbcfaa.O5 Go.Proofs.Ytpnjimpiphbcfaa.X5 Go.Proofs.Ytpnjimpiphbcfaa.K5

def bl (w : Nat → Bool) : List AV := [.bool (w 0), .bool (w 1), .bool (w 2), .bool (w 3), .bool (w 4), .bool (w 5), .bool (w 6), .bool (w 7), .bool (w 8), .bool (w 9), .bool (w 10), .bool (w 11), .bool (w 12), .bool (w 13), .bool (w 14), .bool (w 15), .bool (w 16), .bool (w 17), .bool (w 18), .bool (w 19), .bool (w 20), .bool (w 21), .bool (w 22), .bool (w 23), .bool (w 24), .bool (w 25), .bool (w 26), .bool (w 27), .bool (w 28), .bool (w 29), .bool (w 30), .bool (w 31), .bool (w 32), .bool (w 33), .bool (w 34), .bool (w 35), .bool (w 36), .bool (w 37), .bool (w 38), .bool (w 39), .bool (w 40), .bool (w 41), .bool (w 42), .bool (w 43), .bool (w 44), .bool (w 45), .bool (w 46), .bool (w 47), .bool (w 48), .bool (w 49), .bool (w 50), .bool (w 51), .bool (w 52), .bool (w 53), .bool (w 54), .bool (w 55), .bool (w 56), .bool (w 57), .bool (w 58), .bool (w 59), .bool (w 60), .bool (w 61), .bool (w 62), .bool (w 63)]
/-- the overprint at a place -/
noncomputable def op (f : Nat → Option Nat) (t : Nat → Bool) (p w : Nat) : Option Nat := ov f (t (0 + p)) (t (16 + p)) (t (32 + p)) (t (48 + p)) w
/-- the sum of the overprints of the first places -/
noncomputable def ac (f : Nat → Option Nat) (t : Nat → Bool) : Nat → Nat → Option Nat
  | 0, _ => some 0
  | p + 1, w => bif Nat.beq p 0 then op f t p w else fop .add .f32 (ac f t p w) (op f t p w)
noncomputable def av (f : Nat → Option Nat) (t : Nat → Bool) (w : Nat) : Option Nat := fop .quo .f32 (ac f t 16 w) (some 1098907648)
def zF : List AV := cF fun _ => some 0
def ch (q : Bool) : Nat → Bool
  | 0 => true
  | n + 1 => andB q (ch q n)
theorem ch_true {q : Bool} (h : q = true) : ∀ n, ch q n = true
  | 0 => rfl
  | n + 1 => by unfold ch; rw [ch_true h n, h]; rfl

-- the reference: a row of places
def ST (f : Nat → Option Nat) (t : Nat → Bool) (r : AV) (c : List AV) : St := ⟨[.junk, .junk, .ptr 0 0 0, .ptr 1 0 0, .ptr 2 0 0, .junk, .ptr 3 0 0, r] ++ junks 79, [.one true (pcs f), .one true (bl t), .one true zF, .one true c]⟩
def ET (f : Nat → Option Nat) (t : Nat → Bool) (c : List AV) : St := ⟨[.junk, .junk, .junk, .junk, .ptr 2 0 0, .junk, .ptr 3 0 0] ++ junks 80, [.one true (pcs f), .one true (bl t), .one true zF, .one true c]⟩
theorem st0 (f : Nat → Option Nat) (t : Nat → Bool) : evC JS Try.prog (callF Try.prog (oK f finK) 20 8) noL 20 (loopN Try.prog 21 6) (ST f t (.lit (.int .i64 0)) (cF (ac f t 0))) (kG 0 [2, 3, 4, 6, 7] [4, 6] (some [0, 1, 2, 3]) (some [0, 1, 2, 3])) = some (.leaf (.nrm, ST f t (.int .i64 1) (cF (ac f t 4))), ch (owS f) 4) := by kernel_rfl
theorem st1 (f : Nat → Option Nat) (t : Nat → Bool) : evC JS Try.prog (callF Try.prog (oK f finK) 20 8) noL 20 (loopN Try.prog 21 6) (ST f t (.lit (.int .i64 1)) (cF (ac f t 4))) (kG 0 [2, 3, 4, 6, 7] [4, 6] (some [0, 1, 2, 3]) (some [0, 1, 2, 3])) = some (.leaf (.nrm, ST f t (.int .i64 2) (cF (ac f t 8))), ch (owS f) 4) := by kernel_rfl
theorem st2 (f : Nat → Option Nat) (t : Nat → Bool) : evC JS Try.prog (callF Try.prog (oK f finK) 20 8) noL 20 (loopN Try.prog 21 6) (ST f t (.lit (.int .i64 2)) (cF (ac f t 8))) (kG 0 [2, 3, 4, 6, 7] [4, 6] (some [0, 1, 2, 3]) (some [0, 1, 2, 3])) = some (.leaf (.nrm, ST f t (.int .i64 3) (cF (ac f t 12))), ch (owS f) 4) := by kernel_rfl
theorem st3 (f : Nat → Option Nat) (t : Nat → Bool) : evC JS Try.prog (callF Try.prog (oK f finK) 20 8) noL 20 (loopN Try.prog 21 6) (ST f t (.lit (.int .i64 3)) (cF (ac f t 12))) (kG 0 [2, 3, 4, 6, 7] [4, 6] (some [0, 1, 2, 3]) (some [0, 1, 2, 3])) = some (.leaf (.nrm, ST f t (.int .i64 4) (cF (ac f t 16))), ch (owS f) 4) := by kernel_rfl
theorem st4 (f : Nat → Option Nat) (t : Nat → Bool) : evC JS Try.prog (callF Try.prog (oK f finK) 20 8) noL 20 (loopN Try.prog 21 6) (ST f t (.lit (.int .i64 4)) (cF (ac f t 16))) (kG 0 [2, 3, 4, 6, 7] [4, 6] (some [0, 1, 2, 3]) (some [0, 1, 2, 3])) = some (.leaf (.ext 0, ET f t (cF (ac f t 16))), true) := by kernel_rfl
theorem loopT (f : Nat → Option Nat) (t : Nat → Bool) : LoopOk Try.prog 0 (loopN Try.prog 21 6) (ST f t (.int .i64 0) zF) (.leaf (.ext 0, ET f t (cF (ac f t 16)))) := by
  have key := loop_ind (callF_ok sxApart sxMixed (oK_ok f finK_ok) (N := 20) 8) sxMixed (body := loopN Try.prog 21 6) (L := noL) (N := 20) (B := 0) (fun _ _ _ _ h => by cases h) [2, 3, 4, 6, 7] [4, 6] (some [0, 1, 2, 3]) (some [0, 1, 2, 3])
    (fun r : Nat => ST f t (.lit (.int .i64 (Int.ofNat r))) (cF (ac f t (4 * r)))) (fun r => r ≤ 4) (fun r => 4 - r) (fun _ => (.ext 0, ET f t (cF (ac f t 16))))
    (fun r hr => by
      have ho := ch_true (owS_true f) 4
      rcases r with _ | _ | _ | _ | _ | r
      · exact ⟨_, by rw [← ho]; exact st0 f t, .inl ⟨1, ⟨rfl, rfl, HLe.refl _⟩, by omega, by omega, rfl⟩⟩
      · exact ⟨_, by rw [← ho]; exact st1 f t, .inl ⟨2, ⟨rfl, rfl, HLe.refl _⟩, by omega, by omega, rfl⟩⟩
      · exact ⟨_, by rw [← ho]; exact st2 f t, .inl ⟨3, ⟨rfl, rfl, HLe.refl _⟩, by omega, by omega, rfl⟩⟩
      · exact ⟨_, by rw [← ho]; exact st3 f t, .inl ⟨4, ⟨rfl, rfl, HLe.refl _⟩, by omega, by omega, rfl⟩⟩
      · exact ⟨_, st4 f t, .inr ⟨XLe.refl _, fun h => by cases h⟩⟩
      · omega) 0 (by omega)
  exact key.from ⟨rfl, HLe.refl _⟩
noncomputable def LT (f : Nat → Option Nat) (t : Nat → Bool) : LoopOr := loopAt 6 [2, 3, 4, 6, 7] (ST f t (.int .i64 0) zF) (.leaf (.ext 0, ET f t (cF (ac f t 16)))) noL
theorem LT_ok (f : Nat → Option Nat) (t : Nat → Bool) : LOk Try.prog 0 21 (LT f t) := loopAt_all (B := 0) (by decide +kernel) (loopT f t) noL_all
noncomputable def TT (f : Nat → Option Nat) (t : Nat → Bool) : Tr (AV × Option (List Blk)) := .node (!pV f) (.leaf (.tup [.agg zF, .lit (.int .i64 1)], none)) (.leaf (.tup [.agg (cF (av f t)), .lit (.int .i64 0)], none))
noncomputable def tv (f : Nat → Option Nat) (t : Nat → Bool) (w : Nat) : Option Nat := cond (pV f) (av f t w) (some 0)
noncomputable def tc (f : Nat → Option Nat) : Int := cond (pV f) 0 1
theorem TT_le (f : Nat → Option Nat) (t : Nat → Bool) : delitD (TT f t).get.1 = .tup [.agg (cF (tv f t)), .int .i64 (tc f)] := by
  unfold TT tv tc
  cases pV f <;> rfl
noncomputable def oT (f : Nat → Option Nat) (q0 q : Bool) : Bool := andB q0 (impB (!!pV f) q)
theorem oT_true (f : Nat → Option Nat) {q0 q : Bool} (h0 : q0 = true) (h : q = true) : oT f q0 q = true := by subst h0 h; unfold oT; cases pV f <;> rfl
theorem hS (f : Nat → Option Nat) (t : Nat → Bool) : evF Try.prog (oK f finK) (LT f t) 20 8 21 [.agg (pcs f), .agg (bl t)] [] = some (TT f t, oT f (ovwS f) (andB (deqS (ST f t (.int .i64 0) zF) (ST f t (.int .i64 0) zF)) true)) := by kernel_rfl
theorem hI (f : Nat → Option Nat) (t : Nat → Bool) : evF Try.prog (oK f finK) noL 20 8 20 [.agg (pcs f), .agg (bl t)] [] = some (TT f t, oT f (ovwI f) (ch (owI f) 16)) := by kernel_rfl


noncomputable def runTC (f : Nat → Option Nat) := runC (fun args => [.agg (pcs f), .agg (bl (a1 args))]) (fun args => .tup [.agg (cF (av f (a1 args))), .int .i64 0]) (fun _ => true)
theorem tcS {f : Nat → Option Nat} (hf : Sh f) : SumOk Try.prog 21 (selRun (runTC f)) := sumC fun args _ => by
  have e := hS f (a1 args)
  rw [oT_true f (ovwS_true f) (by rw [deqS_self]; rfl)] at e
  refine ⟨_, LT f (a1 args), 20, 8, _, oK_ok f finK_ok, LT_ok f _, e, ?_⟩
  unfold TT
  rw [pV_true hf.p hf.g]
  exact LLe.of rfl rfl rfl
theorem tcI {f : Nat → Option Nat} (hf : Sh f) : SumOk Try.prog 20 (selRun (runTC f)) := sumC fun args _ => by
  have e := hI f (a1 args)
  rw [oT_true f (ovwI_true f) (ch_true (owI_true f) 16)] at e
  refine ⟨_, noL, 20, 8, _, oK_ok f finK_ok, noL_all, e, ?_⟩
  unfold TT
  rw [pV_true hf.p hf.g]
  exact LLe.of rfl rfl rfl
end Go.Proofs.Ytpnjimpiphbcfaa.K7
set_option linter.unusedVariables false
set_option linter.unusedSimpArgs false
set_option exponentiation.threshold 3000
set_option maxRecDepth 100000
namespace Go.Proofs.Ytpnjimpiphbcfaa.K8
open Go Go.Sx Go.Sx.R0 Go.Sx.C5 Go.Sx.C1 Go.Sx.Fl Go.Sx.Ink Ieee Go.Proofs.Ytpnjimpiphbcfaa.J1 Go.Proofs.Ytpnjimpiphbcfaa.J2 Go.Proofs.Ytpnjimpiphbcfaa.J4 Go.Proofs.Ytpnjimpiphbcfaa.J5 Go.Proofs.Ytpnjimpiphbcfaa.V5 Go.Proofs.Ytpnjimpiphbcfaa.O5 Go.Proofs.Ytpnjimpiphbcfaa.X5 Go.Proofs.Ytpnjimpiphbcfaa.K5 Go.Proofs.Ytpnjimpiphbcfaa.K7

-- tiles of a cover
def plc : List Int := [0, 8, 2, 10, 12, 4, 14, 6, 3, 11, 1, 9, 15, 7, 13, 5, 15, 3, 12, 0, 7, 11, 4, 8, 13, 1, 14, 2, 5, 9, 6, 10, 5, 13, 7, 15, 9, 1, 11, 3, 6, 14, 4, 12, 10, 2, 8, 0, 10, 6, 9, 5, 2, 14, 1, 13, 8, 4, 11, 7, 0, 12, 3, 15]
noncomputable def lev (a : Option Nat) : Int := ftoI .f64 .i64 (fint .even (fwide (mu (some 1098907648) a)))
noncomputable def levs (a b c d : Option Nat) (i : Nat) : Int := ([lev a, lev b, lev c, lev d] : List Int).getD i 0
noncomputable def vtl (a b c d : Option Nat) (j : Nat) : Bool := decide (plc.getD j 0 < levs a b c d (j / 16))
noncomputable def TOs (g : Bool) (c : Nat → Option Nat) : Tr (AV × Option (List Blk)) :=
  .node (!g) (.leaf (.tup [.agg (bl fun _ => false), .lit (.int .i64 1)], none)) (.leaf (.tup [.agg (bl (vtl (c 0) (c 1) (c 2) (c 3))), .lit (.int .i64 0)], none))
noncomputable def okL (a : Option Nat) : Bool := ftoIOk .f64 .i64 (fint .even (fwide (mu (some 1098907648) a)))
theorem NV_16 : NV (some 1098907648) (16 * 2 ^ 1074) := NV.of ⟨2 ^ 23, -19, by decide +kernel, by decide, by decide +kernel⟩
theorem okL_true {o : Option Nat} (h : LE 1 o) : okL o = true := ftoI_ok (LE.mul (j := 16) (k := 1) ⟨_, NV_16, Nat.le_refl _⟩ h (by decide)) (by decide)
noncomputable def obt (g : Bool) (c : Nat → Option Nat) : Bool := impB (!!g) (andB (okL (c 0)) (andB (okL (c 1)) (andB (okL (c 2)) (andB (okL (c 3)) true))))
theorem eTOs (c : Nat → Option Nat) : evF Try.prog finK noL 20 8 19 [.agg (Q5.cv c)] [] = some (TOs (co c) c, obt (co c) c) := by kernel_rfl
theorem eTOi (c : Nat → Option Nat) : evF Try.prog finK noL 20 8 18 [.agg (Q5.cv c)] [] = some (TOs (coI c) c, obt (coI c) c) := by kernel_rfl
noncomputable def tcv (c : Nat → Option Nat) : Nat → Bool := vtl (c 0) (c 1) (c 2) (c 3)
noncomputable def runTOf (c : Nat → Option Nat) : List AV → List Blk → Option Lf := selRun (runAtD [.agg (Q5.cv c)] [] (.leaf (.tup [.agg (bl (tcv c)), .int .i64 0], none)) true)
theorem obt_true {c : Nat → Option Nat} (hc : ShC c) (g : Bool) : obt g c = true := by
  unfold obt
  rw [okL_true (hc 0 (by omega)), okL_true (hc 1 (by omega)), okL_true (hc 2 (by omega)), okL_true (hc 3 (by omega))]
  cases g <;> rfl
theorem toS {c : Nat → Option Nat} (hc : ShC c) : SumOk Try.prog 19 (runTOf c) := sum_atD sxApart sxMixed finK_ok noL (N := 20) (d := 8) fun _ => by
  have e := eTOs c
  rw [obt_true hc] at e
  refine ⟨noL_all, _, e, ?_⟩
  unfold TOs
  rw [co_true hc]
  exact LLe.of rfl rfl rfl
theorem toI {c : Nat → Option Nat} (hc : ShC c) : SumOk Try.prog 18 (runTOf c) := sum_atD sxApart sxMixed finK_ok noL (N := 20) (d := 8) fun _ => by
  have e := eTOi c
  rw [obt_true hc] at e
  refine ⟨noL_all, _, e, ?_⟩
  unfold TOs
  rw [show coI c = co c from covI_cov _ _ _ _, co_true hc]
  exact LLe.of rfl rfl rfl
-- a tile that is drawn
theorem eOn (n : Nat) (g : Nat → Int) (j : Nat) (y : Int) : evM Try.prog (J2.pK n g) noL 20 8 85 [.ptr 0 0 0, .lit (.int .i64 2)] (mS n g j y) = some (.leaf (.bool (xp n g 2 j y == 0), some (mS n g (j + 1) (sy n g j y))), andB (okS n g (mS n g j y) j y) true) := by kernel_rfl
noncomputable def runOn (n : Nat) (g : Nat → Int) : List AV → List Blk → Option Lf := fun args H => match args, H with
  | [.ptr 0 0 0, .lit (.int .i64 m)], .one w [s, a, b] :: t => (match delit a, delit b with
    | .int .i64 (.ofNat j), .int .u64 y => bif m == 2 then some (.leaf (.bool (xp n g 2 j y == 0), some (mS n g (j + 1) (sy n g j y))), okS n g (.one w [s, a, b] :: t) j y) else none
    | _, _ => none)
  | _, _ => none
theorem oneOk (n : Nat) (g : Nat → Int) : SumOk Try.prog 85 (selRunR refC (runOn n g)) := by
  have hR : ∀ args H t, runOn n g args H = some (t, true) → ∃ (j : Nat) (y : Int), args = [.ptr 0 0 0, .lit (.int .i64 2)] ∧ HLe H (mS n g j y) ∧ j ≤ 1000 ∧ t = .leaf (.bool (xp n g 2 j y == 0), some (mS n g (j + 1) (sy n g j y))) := fun args H t hr => by
    unfold runOn at hr
    split at hr
    · split at hr
      · rename_i m w s a b t' _ _ j y _ _
        obtain ⟨hm, h2⟩ := cond_some hr
        clear hr
        have hm : m = 2 := by simpa using hm
        subst hm
        simp only [Option.some.injEq, Prod.mk.injEq] at h2
        obtain ⟨rfl, h2⟩ := h2
        obtain ⟨h1, h2⟩ := pB_of h2
        exact ⟨j, y, rfl, h1, h2, rfl⟩
      · cases hr
    · cases hr
  refine sum_selR sxApart sxMixed fun args H t hr _ => ?_
  obtain ⟨j, y, rfl, h1, h2, rfl⟩ := hR _ _ _ hr
  have h := eOn n g j y
  rw [okS_self h2] at h
  exact ⟨_, noL, 20, 8, _, _, mS n g j y, h1, J2.pK_ok n g, noL_all, fun _ _ h => h, h, LLe.refl _⟩
noncomputable def oK1 (n : Nat) (g : Nat → Int) : CallerT := addK 85 (selRunR refC (runOn n g)) (J2.pK n g)
theorem oK1_ok (n : Nat) (g : Nat → Int) : CallerTOk Try.prog (oK1 n g) := addK_ok (oneOk n g) (J2.pK_ok n g)
def qT (n : Nat) (g : Nat → Int) : Bool := xp n g 2 0 0 == 0
noncomputable def uA (n : Nat) (g : Nat → Int) (i : Nat) : Bool := decide (Int.ofNat (pn i) < xp n g 17 (0 + 1) (yk n g 0 0 1))
noncomputable def uB (n : Nat) (g : Nat → Int) (i : Nat) : Bool := xp n g 2 (0 + (1 + i)) (yk n g 0 0 (1 + i)) == 0
noncomputable def oPT (n : Nat) (g : Nat → Int) : Bool := andB (kk n g 0 0 0) (andB (impB (qT n g) (andB (kk n g 0 0 1) true)) (impB (!qT n g) (andB (andB (kk n g 0 0 1) true) (andB (andB (kk n g 0 0 2) true) (andB (andB (kk n g 0 0 3) true) (andB (andB (kk n g 0 0 4) true) (andB (andB (kk n g 0 0 5) true) (andB (andB (kk n g 0 0 6) true) (andB (andB (kk n g 0 0 7) true) (andB (andB (kk n g 0 0 8) true) (andB (andB (kk n g 0 0 9) true) (andB (andB (kk n g 0 0 10) true) (andB (andB (kk n g 0 0 11) true) (andB (andB (kk n g 0 0 12) true) (andB (andB (kk n g 0 0 13) true) (andB (andB (kk n g 0 0 14) true) (andB (andB (kk n g 0 0 15) true) (andB (andB (kk n g 0 0 16) true) (true)))))))))))))))))))
theorem ePT (n : Nat) (g : Nat → Int) : evF Try.prog (oK1 n g) noL 20 8 13 [.slc 0 0 n] [.rows false n 1 (ur g)] = some (.node (qT n g) (.leaf (.agg (b16 (uA n g)), none)) (.leaf (.agg (b16 (uB n g)), none)), andB (oPT n g) true) := by kernel_rfl
noncomputable def uT (n : Nat) (g : Nat → Int) (i : Nat) : Bool := bif qT n g then uA n g i else uB n g i
noncomputable def runPT (n : Nat) (g : Nat → Int) : List AV → List Blk → Option Lf := selRun (runAtH [.slc 0 0 n] [.rows false n 1 (ur g)] (.leaf (.agg (b16 (uT n g)), none)) true)
theorem ptOk (n : Nat) (g : Nat → Int) : SumOk Try.prog 13 (runPT n g) := sum_atH sxApart sxMixed (oK1_ok n g) noL (N := 20) (d := 8) fun _ => by
  have e := ePT n g
  have ho : oPT n g = true := by
    unfold oPT
    rw [kk_true (k := 0) (by omega), kk_true (k := 1) (by omega), kk_true (k := 2) (by omega), kk_true (k := 3) (by omega), kk_true (k := 4) (by omega), kk_true (k := 5) (by omega), kk_true (k := 6) (by omega), kk_true (k := 7) (by omega), kk_true (k := 8) (by omega), kk_true (k := 9) (by omega), kk_true (k := 10) (by omega), kk_true (k := 11) (by omega), kk_true (k := 12) (by omega), kk_true (k := 13) (by omega), kk_true (k := 14) (by omega), kk_true (k := 15) (by omega), kk_true (k := 16) (by omega)]
    cases qT n g <;> rfl
  rw [ho] at e
  refine ⟨noL_all, _, e, ?_⟩
  have hu : uT n g = fun i => bif qT n g then uA n g i else uB n g i := rfl
  rw [hu]
  cases qT n g <;> exact LLe.refl _
end Go.Proofs.Ytpnjimpiphbcfaa.K8
