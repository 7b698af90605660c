/- Texts of one claim, put together. -/
import Derived.Test.YtllonddgbjgmdaaG1
set_option linter.unusedVariables false
set_option linter.unusedSimpArgs false
set_option maxRecDepth 100000
namespace Go.Proofs.Ytllonddgbjgmdaa.W7
open Go.Sx Go.Sx.R0 Go.RowKit Go.Proofs.Ytllonddgbjgmdaa.W1 Go.Proofs.Ytllonddgbjgmdaa.W2 Go.Proofs.Ytllonddgbjgmdaa.W3 Go.Proofs.Ytllonddgbjgmdaa.W5

-- a mark's text
def dg (z : Int) : List UInt8 := [UInt8.ofNat (IntKind.u8.wrap (IntKind.i64.wrap (48 + z.tmod 10))).toNat]
def mtF : Nat → Int → List UInt8 → List UInt8
  | 0, _, s => s
  | f + 1, z, s => bif decide (z > 0) then mtF f (z.tdiv 10) (dg z ++ s) else s
def mt (z : Int) : List UInt8 := bif decide (z ≤ 0) then [109, 48] else [109] ++ mtF (z.toNat + 1) z []
def Sm (z : Int) (s : List UInt8) : St := ⟨[.int .i64 z, .junk, .junk, .str s] ++ junks 16, []⟩
def Em (s : List UInt8) : St := ⟨[.junk, .junk, .junk, .str s] ++ junks 16, []⟩
def obm (s : List UInt8) : Bool := Nat.ble (1 + s.length) 9223372036854775807
theorem stepm (z : Int) (s : List UInt8) : evC JS Try.prog (callF Try.prog extK 20 8) noL 20 (loopN Try.prog 101 5) (Sm z s) (kA 0 [0, 3] [3]) =
    some (.node (decide (z > 0)) (.leaf (.nrm, Sm (IntKind.i64.wrap (z.tdiv 10)) (dg z ++ s))) (.leaf (.ext 0, Em s)), andB (impB (decide (z > 0)) (andB (obm s) true)) true) := by kernel_rfl
theorem mtF_len : ∀ (f : Nat) (z : Int) (s : List UInt8), (mtF f z s).length ≤ f + s.length
  | 0, z, s => by simp [mtF]
  | f + 1, z, s => by
    simp only [mtF]
    cases decide (z > 0) with
    | false => simp only [cond_false]; omega
    | true =>
      have := mtF_len f (z.tdiv 10) (dg z ++ s)
      simp only [cond_true]
      simp only [dg, List.length_append, List.length_singleton] at this ⊢
      omega
theorem tdiv_lt {z : Int} (h : z > 0) : 0 ≤ z.tdiv 10 ∧ z.tdiv 10 < z := by
  rw [Int.tdiv_eq_ediv_of_nonneg (by omega)]
  omega
theorem loopm (z : Int) (h0 : 0 ≤ z) (h1 : z ≤ 1099511627776) : LoopOk Try.prog 0 (loopN Try.prog 101 5) (Sm z []) (.leaf (.ext 0, Em (mtF (z.toNat + 1) z []))) := by
  have key := loop_indH (callF_ok sxApart sxMixed extK_ok (N := 20) 8) sxMixed (N := 20) (L := noL) (B := 0) (body := loopN Try.prog 101 5) (fun _ _ _ _ h => by cases h) [0, 3] [3] (gA 0 [0, 3] [3]) (σ := Int × List UInt8) (fun x => Sm x.1 x.2) (fun x => 0 ≤ x.1 ∧ x.2.length + x.1.toNat ≤ 1099511627776) (fun x => x.1.toNat) (fun x => (.ext 0, Em (mtF (x.1.toNat + 1) x.1 x.2)))
    (fun ⟨z, s⟩ ⟨g0, g1⟩ => by
      simp only at g0 g1
      have ho : obm s = true := Nat.ble_eq_true_of_le (by omega)
      refine ⟨_, by rw [show kH 0 [0, 3] [3] (gA 0 [0, 3] [3]) = kA 0 [0, 3] [3] from rfl, stepm, ho, show andB (impB (decide (z > 0)) (andB true true)) true = true from by cases decide (z > 0) <;> rfl], ?_⟩
      by_cases hz : z > 0
      · left
        obtain ⟨d0, d1⟩ := tdiv_lt hz
        refine ⟨(z.tdiv 10, dg z ++ s), ?_, ⟨d0, by simp only [dg, List.length_append, List.length_singleton]; omega⟩, by simp only; omega, ?_⟩
        · rw [decide_eq_true hz, i64_small d0 (by omega)]
          exact XLe.refl _
        · simp only
          congr 2
          have e : ∀ (f g : Nat) (y : Int) (u : List UInt8), y.toNat < f → y.toNat < g → mtF f y u = mtF g y u := fun f => by
            induction f with
            | zero => intro g y u h _; omega
            | succ f ih =>
              intro g y u hf hg
              obtain ⟨g', rfl⟩ : ∃ g', g = g' + 1 := ⟨g - 1, by omega⟩
              simp only [mtF]
              by_cases hy : y > 0
              · rw [decide_eq_true hy]
                obtain ⟨e0, e1⟩ := tdiv_lt hy
                simp only [cond_true]
                exact ih g' _ _ (by omega) (by omega)
              · rw [decide_eq_false hy]; rfl
          rw [show mtF (z.toNat + 1) z s = mtF z.toNat (z.tdiv 10) (dg z ++ s) from by simp only [mtF]; rw [decide_eq_true hz]; rfl]
          exact e _ _ _ _ (by omega) (by omega)
      · right
        rw [decide_eq_false hz]
        refine ⟨XLe.of_eq ?_, by simp⟩
        simp only [mtF]
        rw [decide_eq_false hz]
        rfl) (z, []) ⟨h0, by simp only [List.length_nil]; omega⟩
  exact key
def selZ : List AV → Option Int
  | [.lit (.int .i64 l)] => some l
  | [.int .i64 l] => some l
  | _ => none
noncomputable def runMt : List AV → List Blk → Option Lf := famK selZ fun z => selRun (runAtD [.int .i64 z] [] (.leaf (.str (mt z), none)) (andB (decide (0 ≤ z)) (decide (z ≤ 1099511627776))))
noncomputable def okMt (z : Int) : Bool := andB (deq [.int .i64 z] [.int .i64 z]) (andB (deqH [] []) (andB (decide (0 ≤ z)) (decide (z ≤ 1099511627776))))
theorem okMt_true {z : Int} (h0 : 0 ≤ z) (h1 : z ≤ 1099511627776) : okMt z = true := by unfold okMt; rw [deq_self, deqH_self, decide_eq_true h0, decide_eq_true h1]; rfl
theorem mt_ok : SumOk Try.prog 101 runMt := famK_ok fun z => sum_atD sxApart sxMixed extK_ok (loopAt 5 [0, 3] (Sm z []) (.leaf (.ext 0, Em (mtF (z.toNat + 1) z []))) noL) (N := 20) (d := 8) fun hg => by
  obtain ⟨g0, g1⟩ := andB_true hg
  have g0 := of_decide_eq_true g0
  have g1 := of_decide_eq_true g1
  refine ⟨loopAt_all (B := 0) (by decide +kernel) (loopm z g0 g1) noL_all, _, ?_, LLe.refl _⟩
  have h : evF Try.prog extK (loopAt 5 [0, 3] (Sm z []) (.leaf (.ext 0, Em (mtF (z.toNat + 1) z []))) noL) 20 8 101 [.int .i64 z] [] = some (.leaf (.str (mt z), none), impB (!decide (z ≤ 0)) (andB (deqS (Sm z []) (Sm z [])) (andB (Nat.ble (1 + (mtF (z.toNat + 1) z []).length) 9223372036854775807) true))) := by kernel_rfl
  have hl := mtF_len (z.toNat + 1) z []
  rw [deqS_self, Nat.ble_eq_true_of_le (show 1 + (mtF (z.toNat + 1) z []).length ≤ 9223372036854775807 by simp only [List.length_nil] at hl; omega), show andB true (andB true true) = true from rfl, imp_t rfl] at h
  exact h
-- batches: what is in them is forgotten
theorem _root_.Go.Sx.BLe.forget {w : Bool} {n sz : Nat} {f : Nat → List AV} : BLe (.rows w n sz f) (.rows w n sz (fun _ => List.replicate sz .junk)) := by
  refine ⟨fun ρ W p hb => ?_, id, id⟩
  obtain ⟨h1, h2, h3⟩ := hb
  refine ⟨h1, h2, fun hc => ?_⟩
  obtain ⟨cs, ty, fz, g1, g2, g3, g4, g5⟩ := h3 hc
  refine ⟨cs, ty, fz, g1, g2, g3, g4, fun i hi j x hj => ?_⟩
  have hjs : j < sz := by
    have := (List.getElem?_eq_some_iff.1 hj).1
    simpa using this
  have hx : x = .junk := by
    rw [List.getElem?_replicate, if_pos hjs] at hj
    simpa using hj.symm
  subst hx
  have hlt : p.off + i * sz + j < cs.size := by
    have : (i + 1) * sz ≤ p.cap * sz := Nat.mul_le_mul_right _ (by omega)
    rw [Nat.add_mul, Nat.one_mul] at this
    omega
  exact ⟨hjs, cs[p.off + i * sz + j], Array.getElem?_eq_getElem hlt, by simp [VRel]⟩
def j9 : Nat → List AV := fun _ => List.replicate 9 .junk
def jk (k : Nat) (s : List UInt8) (z : Int) : Nat → List AV := let f0 := Sx.upd j9 k (pt (j9 k) 0 (.str s)); let f1 := Sx.upd f0 k (pt (f0 k) 1 (.int .i64 (IntKind.i64.wrap (z + 1)))); let f2 := Sx.upd f1 k (pt (f1 k) 2 (.int .i64 (IntKind.i64.wrap (IntKind.i64.wrap (z + 1) + 1)))); let f3 := Sx.upd f2 k (pt (f2 k) 3 (.int .i64 (IntKind.i64.wrap (IntKind.i64.wrap (IntKind.i64.wrap (z + 1) + 1) + 1)))); let f4 := Sx.upd f3 k (pt (f3 k) 4 (.int .i64 (IntKind.i64.wrap (IntKind.i64.wrap (IntKind.i64.wrap (IntKind.i64.wrap (z + 1) + 1) + 1) + 1)))); let f5 := Sx.upd f4 k (pt (f4 k) 5 (.int .i64 (IntKind.i64.wrap (IntKind.i64.wrap (IntKind.i64.wrap (IntKind.i64.wrap (IntKind.i64.wrap (z + 1) + 1) + 1) + 1) + 1)))); let f6 := Sx.upd f5 k (pt (f5 k) 6 (.int .i64 (IntKind.i64.wrap (IntKind.i64.wrap (IntKind.i64.wrap (IntKind.i64.wrap (IntKind.i64.wrap (IntKind.i64.wrap (z + 1) + 1) + 1) + 1) + 1) + 1)))); let f7 := Sx.upd f6 k (pt (f6 k) 7 (.int .i64 (IntKind.i64.wrap (IntKind.i64.wrap (IntKind.i64.wrap (IntKind.i64.wrap (IntKind.i64.wrap (IntKind.i64.wrap (IntKind.i64.wrap (z + 1) + 1) + 1) + 1) + 1) + 1) + 1)))); let f8 := Sx.upd f7 k (pt (f7 k) 8 (.int .i64 (IntKind.i64.wrap (IntKind.i64.wrap (IntKind.i64.wrap (IntKind.i64.wrap (IntKind.i64.wrap (IntKind.i64.wrap (IntKind.i64.wrap (IntKind.i64.wrap (z + 1) + 1) + 1) + 1) + 1) + 1) + 1) + 1)))); f8
def z9 (z : Int) : Int := IntKind.i64.wrap (IntKind.i64.wrap (IntKind.i64.wrap (IntKind.i64.wrap (IntKind.i64.wrap (IntKind.i64.wrap (IntKind.i64.wrap (IntKind.i64.wrap (IntKind.i64.wrap (z + 1) + 1) + 1) + 1) + 1) + 1) + 1) + 1) + 1)
def Sq (n : Nat) (f : Nat → List AV) (z k : Int) : St := ⟨[.slc 0 0 n, .int .i64 z, .junk, .junk, .junk, .int .i64 k] ++ junks 29, [.rows true n 9 f]⟩
def Eq' (n : Nat) (f : Nat → List AV) (z : Int) : St := ⟨[.junk, .int .i64 z] ++ junks 33, [.rows true n 9 f]⟩
def obq (n k : Nat) (q : Bool) : Bool := andB q (andB (inB (Int.ofNat k) n) (andB (Nat.blt k n) (andB (inB (Int.ofNat k) n) (andB (Nat.blt k n) (andB (inB (Int.ofNat k) n) (andB (Nat.blt k n) (andB (inB (Int.ofNat k) n) (andB (Nat.blt k n) (andB (inB (Int.ofNat k) n) (andB (Nat.blt k n) (andB (inB (Int.ofNat k) n) (andB (Nat.blt k n) (andB (inB (Int.ofNat k) n) (andB (Nat.blt k n) (andB (inB (Int.ofNat k) n) (andB (Nat.blt k n) (andB (inB (Int.ofNat k) n) (andB (Nat.blt k n) (true)))))))))))))))))))
noncomputable def mtK : CallerT := addK 101 runMt extK
theorem mtK_ok : CallerTOk Try.prog mtK := addK_ok mt_ok extK_ok
theorem stepq (n : Nat) (z : Int) (k : Nat) : evC JS Try.prog (callF Try.prog mtK 20 8) noL 20 (loopN Try.prog 65 3) (Sq n j9 z (Int.ofNat k)) (kG 1 [0, 1, 5] [1] none none) =
    some (.node (decide (Int.ofNat k < (n : Int))) (.leaf (.nrm, Sq n (jk k (mt z) z) (z9 z) (IntKind.i64.wrap (Int.ofNat k + 1)))) (.leaf (.ext 0, Eq' n j9 z)), andB (impB (decide (Int.ofNat k < (n : Int))) (obq n k (okMt z))) true) := by kernel_rfl
theorem obq_true {n k : Nat} {q : Bool} (h : k < n) (hq : q = true) : obq n k q = true := by unfold obq; rw [inB_nat h, blt_lt h, hq]; rfl
theorem z9_eq {z : Int} (h0 : 0 ≤ z) (h1 : z ≤ 1099511627776) : z9 z = z + 9 := by
  unfold z9
  rw [i64_small (x := z + 1) (by omega) (by omega), show z + 1 + 1 = z + 2 by omega]
  rw [i64_small (x := z + 2) (by omega) (by omega), show z + 2 + 1 = z + 3 by omega]
  rw [i64_small (x := z + 3) (by omega) (by omega), show z + 3 + 1 = z + 4 by omega]
  rw [i64_small (x := z + 4) (by omega) (by omega), show z + 4 + 1 = z + 5 by omega]
  rw [i64_small (x := z + 5) (by omega) (by omega), show z + 5 + 1 = z + 6 by omega]
  rw [i64_small (x := z + 6) (by omega) (by omega), show z + 6 + 1 = z + 7 by omega]
  rw [i64_small (x := z + 7) (by omega) (by omega), show z + 7 + 1 = z + 8 by omega]
  rw [i64_small (x := z + 8) (by omega) (by omega), show z + 8 + 1 = z + 9 by omega]
  rw [i64_small (by omega) (by omega)]
theorem loopq (n : Nat) (hn : n ≤ 1048576) (f : Nat → List AV) (z : Int) (h0 : 0 ≤ z) (h1 : z ≤ 1073741824) : LoopOk Try.prog 1 (loopN Try.prog 65 3) (Sq n f z 0) (.leaf (.ext 0, Eq' n j9 (z + 9 * (n : Int)))) := by
  have key := loop_all (callF_ok sxApart sxMixed mtK_ok (N := 20) 8) sxMixed (N := 20) (L := noL) (B := 1) (body := loopN Try.prog 65 3) (fun _ _ _ _ h => by cases h) [0, 1, 5] [1] none none (fun k => Sq n j9 (z + 9 * (k : Int)) (Int.ofNat k)) n (.ext 0, Eq' n j9 (z + 9 * (n : Int))) (fun h => by cases h)
    (fun k hk => by
      refine ⟨_, by rw [stepq, obq_true hk (okMt_true (by omega) (by omega)), ofNat_lt, decide_eq_true hk]; rfl, ?_⟩
      refine ⟨rfl, ?_, ⟨BLe.forget, trivial⟩⟩
      simp only [Tr.get, cond_true, Sq]
      rw [z9_eq (by omega) (by omega), wrap_i64 (n := Int.ofNat k + 1) (by simp only [Int.ofNat_eq_natCast]; omega) (by simp only [Int.ofNat_eq_natCast]; omega), show z + 9 * (k : Int) + 9 = z + 9 * ((k + 1 : Nat) : Int) by omega]
      rfl)
    ⟨_, by rw [stepq, ofNat_lt, decide_eq_false (Nat.lt_irrefl n), imp_ff], XLe.refl _⟩
  refine key.from ⟨?_, ⟨BLe.forget, trivial⟩⟩
  simp only [Sq, Int.natCast_zero, Int.mul_zero, Int.add_zero]
  rfl
noncomputable def runMq : List AV → List Blk → Option Lf := fun args H => match args.map delit with
  | [.slc 0 0 n, .int .i64 z] => some (.leaf (.int .i64 (z + 9 * (n : Int)), some [.rows true n 9 j9]), andB (pB (∃ f : Nat → List AV, H = [.rows true n 9 f])) (andB (Nat.ble n 1048576) (andB (decide (0 ≤ z)) (decide (z ≤ 1073741824)))))
  | _ => none
theorem mq_ok : SumOk Try.prog 65 (selRunM runMq) := sum_selMG sxApart sxMixed fun args H t hr _ => by
  unfold runMq at hr
  split at hr
  case h_2 => cases hr
  rename_i n z hargs
  simp only [Option.some.injEq, Prod.mk.injEq] at hr
  obtain ⟨rfl, hr⟩ := hr
  obtain ⟨g1, hr⟩ := andB_true hr
  obtain ⟨g2, hr⟩ := andB_true hr
  obtain ⟨g3, g4⟩ := andB_true hr
  obtain ⟨f, rfl⟩ := pB_of g1
  have g3 := of_decide_eq_true g3
  have g4 := of_decide_eq_true g4
  refine ⟨mtK, loopAt 3 [0, 1, 5] (Sq n f z 0) (.leaf (.ext 0, Eq' n j9 (z + 9 * (n : Int)))) noL, 20, 8, _, [.slc 0 0 n, .int .i64 z], mtK_ok, loopAt_all (B := 1) (by decide +kernel) (loopq n (Nat.le_of_ble_eq_true g2) f z g3 g4) noL_all, fun ρ vals hv => by rw [← hargs]; exact delits_rel hv, ?_, LLe.refl _⟩
  have h : evM Try.prog mtK (loopAt 3 [0, 1, 5] (Sq n f z 0) (.leaf (.ext 0, Eq' n j9 (z + 9 * (n : Int)))) noL) 20 8 65 [.slc 0 0 n, .int .i64 z] [.rows true n 9 f] = some (.leaf (.int .i64 (z + 9 * (n : Int)), some [.rows true n 9 j9]), andB (deqS (Sq n f z 0) (Sq n f z 0)) true) := by kernel_rfl
  rw [deqS_self] at h
  exact h
noncomputable def okQ (n : Nat) (f : Nat → List AV) (z : Int) : Bool := andB (pB (∃ f' : Nat → List AV, [Blk.rows true n 9 f] = [.rows true n 9 f'])) (andB (Nat.ble n 1048576) (andB (decide (0 ≤ z)) (decide (z ≤ 1073741824))))
theorem okQ_true {n : Nat} (f : Nat → List AV) {z : Int} (hn : n ≤ 1048576) (h0 : 0 ≤ z) (h1 : z ≤ 1073741824) : okQ n f z = true := by unfold okQ; rw [pB_true ⟨f, rfl⟩, Nat.ble_eq_true_of_le hn, decide_eq_true h0, decide_eq_true h1]; rfl
end Go.Proofs.Ytllonddgbjgmdaa.W7
