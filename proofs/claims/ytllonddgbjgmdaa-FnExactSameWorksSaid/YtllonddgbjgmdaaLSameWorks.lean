/- The law 'FnExactSameWorks': the program's SameWorks returns what the reference's returns, for all arguments; no condition. -/
import Derived.Test.YtllonddgbjgmdaaRows
import Derived.WalkKit
import Derived.ProofKit
import Derived.OpenShut
import Derived.ChangeOld
import Derived.Below
import Derived.Test.YtllonddgbjgmdaaSxK2
import Derived.Test.YtllonddgbjgmdaaSxFr
import Derived.Test.YtllonddgbjgmdaaSxW1
namespace Go.Proofs.Ytllonddgbjgmdaa.lawSameWorks
open Go.ChangeShapes Go.WideShapes Go.ChangeAt Go.RowKit Go.Sx
set_option linter.unusedVariables false
set_option linter.unusedSimpArgs false
set_option maxRecDepth 100000
def lawN : Nat := 20
def lawD : Nat := 8

open Go.Proofs.Ytllonddgbjgmdaa.W1 Go.Sx.R0

def be (c d : Bt) (k : Nat) : Bool := andB (c.n k == d.n k) (andB (andB (c.d 0 k == d.d 0 k) (andB (c.d 1 k == d.d 1 k) (andB (c.d 2 k == d.d 2 k) (andB (c.d 3 k == d.d 3 k) (andB (c.d 4 k == d.d 4 k) (andB (c.d 5 k == d.d 5 k) (andB (c.d 6 k == d.d 6 k) (andB (c.d 7 k == d.d 7 k) true)))))))) true)
def same (n m : Nat) (c d : Bt) (r s : Int) : Bool := cond (cond (r != s) true ((n : Int) != (m : Int))) false (cond (allB n (be c d)) true false)
def two (n m : Nat) (c d : Bt) : List Blk := [.rows false n 9 c.row, .rows false m 9 d.row]
def boxes (n m : Nat) (c d : Bt) (r s : Int) : List Blk := [.one false [.int .i64 r, .slc 2 0 n], .one false [.int .i64 s, .slc 3 0 m], .rows false n 9 c.row, .rows false m 9 d.row]
-- the reference
def Sa (n m : Nat) (c d : Bt) (r s : Int) (k : Int) : St := ⟨[.ptr 0 0 0, .ptr 1 0 0, .junk, .junk, .junk, .int .i64 k] ++ junks 46, boxes n m c d r s⟩
def Ra (n m : Nat) (c d : Bt) (r s : Int) : St := ⟨junks 4 ++ [.bool false] ++ junks 47, boxes n m c d r s⟩
def Ea (n m : Nat) (c d : Bt) (r s : Int) : St := ⟨junks 52, boxes n m c d r s⟩
def ob (n m k : Nat) : Bool := andB (inB (Int.ofNat k) n) (andB (Nat.blt k n) (andB (inB (Int.ofNat k) m) (andB (Nat.blt k m) true)))
theorem ob_true {n k : Nat} (h : k < n) : ob n n k = true := by unfold ob; rw [inB_nat h, blt_lt h]; rfl
theorem stepA (n m : Nat) (c d : Bt) (r s : Int) (k : Nat) :
    evC JS Try.prog (callF Try.prog extK 20 8) noL 20 (loopN Try.prog 53 5) (Sa n m c d r s (Int.ofNat k)) (kG 4 [0, 1, 5] [4] none none) =
      some (.node (decide (Int.ofNat k < (n : Int))) (.node (!be c d k) (.leaf (.ret, Ra n m c d r s)) (.leaf (.nrm, Sa n m c d r s (IntKind.i64.wrap (Int.ofNat k + 1))))) (.leaf (.ext 0, Ea n m c d r s)),
        andB (impB (decide (Int.ofNat k < (n : Int))) (andB (ob n m k) true)) true) := by kernel_rfl
theorem loopA (n : Nat) (hn : n ≤ few) (c d : Bt) (r s : Int) : LoopOk Try.prog 4 (loopN Try.prog 53 5) (Sa n n c d r s 0) (.node (allB n (be c d)) (.leaf (.ext 0, Ea n n c d r s)) (.leaf (.ret, Ra n n c d r s))) := by
  have hf : few = 1099511627776 := rfl
  exact loop_for (callF_ok sxApart sxMixed extK_ok (N := 20) 8) sxMixed (body := loopN Try.prog 53 5) (L := noL) (N := 20) (B := 4) (fun _ _ _ _ h => by cases h) [0, 1, 5] [4] none none
    (fun k => Sa n n c d r s (Int.ofNat k)) n (be c d) (.ret, Ra n n c d r s) (.ext 0, Ea n n c d r s) (fun h => by cases h) (fun h => by cases h)
    (fun k hk _ => by
      refine ⟨_, by rw [stepA, ob_true hk, ofNat_lt, decide_eq_true hk]; rfl, fun h => ?_, fun h => ?_⟩
      · rw [h, wrap_i64 (n := Int.ofNat k + 1) (by simp only [Int.ofNat_eq_natCast]; omega) (by simp only [Int.ofNat_eq_natCast]; omega)]
        exact XLe.refl _
      · rw [h]
        exact XLe.refl _)
    (fun _ => by
      refine ⟨_, by rw [stepA, ofNat_lt, decide_eq_false (Nat.lt_irrefl n), imp_ff], XLe.refl _⟩)
-- the program
def Sb (n m : Nat) (c d : Bt) (k : Int) : St := ⟨[.slc 0 0 n, .slc 1 0 m] ++ junks 10 ++ [.int .i64 n, .int .i64 k] ++ junks 12, two n m c d⟩
def Rb (n m : Nat) (c d : Bt) : St := ⟨junks 4 ++ [.bool false] ++ junks 21, two n m c d⟩
def Eb (n m : Nat) (c d : Bt) : St := ⟨junks 26, two n m c d⟩
theorem stepB (n m : Nat) (c d : Bt) (k : Nat) :
    evC JS Try.prog (callF Try.prog extK 20 8) noL 20 (loopN Try.prog 55 5) (Sb n m c d (Int.ofNat k)) (kG 2 [0, 1, 12, 13] [4] none none) =
      some (.node (decide (Int.ofNat k < (n : Int))) (.node (!be c d k) (.leaf (.ret, Rb n m c d)) (.leaf (.nrm, Sb n m c d (IntKind.i64.wrap (Int.ofNat k + 1))))) (.leaf (.ext 0, Eb n m c d)),
        andB (impB (decide (Int.ofNat k < (n : Int))) (andB (ob n m k) true)) true) := by kernel_rfl
theorem loopB (n : Nat) (hn : n ≤ few) (c d : Bt) : LoopOk Try.prog 2 (loopN Try.prog 55 5) (Sb n n c d 0) (.node (allB n (be c d)) (.leaf (.ext 0, Eb n n c d)) (.leaf (.ret, Rb n n c d))) := by
  have hf : few = 1099511627776 := rfl
  exact loop_for (callF_ok sxApart sxMixed extK_ok (N := 20) 8) sxMixed (body := loopN Try.prog 55 5) (L := noL) (N := 20) (B := 2) (fun _ _ _ _ h => by cases h) [0, 1, 12, 13] [4] none none
    (fun k => Sb n n c d (Int.ofNat k)) n (be c d) (.ret, Rb n n c d) (.ext 0, Eb n n c d) (fun h => by cases h) (fun h => by cases h)
    (fun k hk _ => by
      refine ⟨_, by rw [stepB, ob_true hk, ofNat_lt, decide_eq_true hk]; rfl, fun h => ?_, fun h => ?_⟩
      · rw [h, wrap_i64 (n := Int.ofNat k + 1) (by simp only [Int.ofNat_eq_natCast]; omega) (by simp only [Int.ofNat_eq_natCast]; omega)]
        exact XLe.refl _
      · rw [h]
        exact XLe.refl _)
    (fun _ => by
      refine ⟨_, by rw [stepB, ofNat_lt, decide_eq_false (Nat.lt_irrefl n), imp_ff], XLe.refl _⟩)
def samB (n m : Nat) (c d : Bt) : Bool := cond ((n : Int) != (m : Int)) false (cond (allB n (be c d)) true false)
theorem ne_of {n m : Nat} (h : n ≠ m) : ((n : Int) != (m : Int)) = true := by simpa using fun e : (n : Int) = m => h (by omega)
noncomputable def runA (n m : Nat) (c d : Bt) (r s : Int) : List AV → List Blk → Option Lf := selRun (runAtH [.ptr 0 0 0, .ptr 1 0 0] (boxes n m c d r s) (.leaf (.bool (same n m c d r s), none)) (Nat.ble n few))
theorem okA (n m : Nat) (c d : Bt) (r s : Int) : SumOk Try.prog 53 (runA n m c d r s) := by
  by_cases hnm : n = m
  · subst hnm
    exact sum_atH sxApart sxMixed extK_ok (loopAt 5 [0, 1, 5] (Sa n n c d r s 0) (.node (allB n (be c d)) (.leaf (.ext 0, Ea n n c d r s)) (.leaf (.ret, Ra n n c d r s))) noL) (N := 20) (d := 8) fun hn => by
      refine ⟨loopAt_all (B := 4) (by decide +kernel) (loopA n (Nat.le_of_ble_eq_true hn) c d r s) noL_all, _, ?_, LLe.refl _⟩
      have h : evF Try.prog extK (loopAt 5 [0, 1, 5] (Sa n n c d r s 0) (.node (allB n (be c d)) (.leaf (.ext 0, Ea n n c d r s)) (.leaf (.ret, Ra n n c d r s))) noL) 20 8 53 [.ptr 0 0 0, .ptr 1 0 0] (boxes n n c d r s) = some (.leaf (.bool (same n n c d r s), none), impB (!(cond (r != s) true ((n : Int) != (n : Int)))) (andB (deqS (Sa n n c d r s 0) (Sa n n c d r s 0)) true)) := by kernel_rfl
      rw [deqS_self, show andB true true = true from rfl, imp_t rfl] at h
      exact h
  · exact sum_atH sxApart sxMixed extK_ok (fun _ _ => some (.node (allB n (be c d)) (.leaf (.ext 0, Ea n m c d r s)) (.leaf (.ret, Ra n m c d r s)), false)) (N := 20) (d := 8) fun hn => by
      refine ⟨fun _ _ _ _ _ _ _ _ h => by simp at h, _, ?_, LLe.refl _⟩
      have h : evF Try.prog extK (fun _ _ => some (.node (allB n (be c d)) (.leaf (.ext 0, Ea n m c d r s)) (.leaf (.ret, Ra n m c d r s)), false)) 20 8 53 [.ptr 0 0 0, .ptr 1 0 0] (boxes n m c d r s) = some (.leaf (.bool (same n m c d r s), none), impB (!(cond (r != s) true ((n : Int) != (m : Int)))) false) := by kernel_rfl
      rw [h, ne_of hnm]
      cases (r != s) <;> rfl
noncomputable def runB (n m : Nat) (c d : Bt) : List AV → List Blk → Option Lf := selRun (runAtH [.slc 0 0 n, .slc 1 0 m] (two n m c d) (.leaf (.bool (samB n m c d), none)) (Nat.ble n few))
theorem okB (n m : Nat) (c d : Bt) : SumOk Try.prog 55 (runB n m c d) := by
  by_cases hnm : n = m
  · subst hnm
    exact sum_atH sxApart sxMixed extK_ok (loopAt 5 [0, 1, 12, 13] (Sb n n c d 0) (.node (allB n (be c d)) (.leaf (.ext 0, Eb n n c d)) (.leaf (.ret, Rb n n c d))) noL) (N := 20) (d := 8) fun hn => by
      refine ⟨loopAt_all (B := 2) (by decide +kernel) (loopB n (Nat.le_of_ble_eq_true hn) c d) noL_all, _, ?_, LLe.refl _⟩
      have h : evF Try.prog extK (loopAt 5 [0, 1, 12, 13] (Sb n n c d 0) (.node (allB n (be c d)) (.leaf (.ext 0, Eb n n c d)) (.leaf (.ret, Rb n n c d))) noL) 20 8 55 [.slc 0 0 n, .slc 1 0 n] (two n n c d) = some (.leaf (.bool (samB n n c d), none), impB (!((n : Int) != (n : Int))) (andB (deqS (Sb n n c d 0) (Sb n n c d 0)) true)) := by kernel_rfl
      rw [deqS_self, show andB true true = true from rfl, imp_t rfl] at h
      exact h
  · exact sum_atH sxApart sxMixed extK_ok (fun _ _ => some (.node (allB n (be c d)) (.leaf (.ext 0, Eb n m c d)) (.leaf (.ret, Rb n m c d)), false)) (N := 20) (d := 8) fun hn => by
      refine ⟨fun _ _ _ _ _ _ _ _ h => by simp at h, _, ?_, LLe.refl _⟩
      have h : evF Try.prog extK (fun _ _ => some (.node (allB n (be c d)) (.leaf (.ext 0, Eb n m c d)) (.leaf (.ret, Rb n m c d)), false)) 20 8 55 [.slc 0 0 n, .slc 1 0 m] (two n m c d) = some (.leaf (.bool (samB n m c d), none), impB (!((n : Int) != (m : Int))) false) := by kernel_rfl
      rw [h, ne_of hnm]
      rfl
-- both as a whole
def AW (n m : Nat) (r s : Int) : List AV := [.agg [.int .i64 r, .slc 0 0 n], .agg [.int .i64 s, .slc 1 0 m]]
noncomputable def runW (n m : Nat) (c d : Bt) (r s : Int) : List AV → List Blk → Option Lf := selRun (runAtH (AW n m r s) (two n m c d) (.leaf (.bool (same n m c d r s), none)) (Nat.ble n few))
noncomputable def oA (n m : Nat) (c d : Bt) (r s : Int) : Bool := andB (deq [.ptr 0 0 0, .ptr 1 0 0] [.ptr 0 0 0, .ptr 1 0 0]) (andB (deqH (boxes n m c d r s) (boxes n m c d r s)) (Nat.ble n few))
noncomputable def oB (n m : Nat) (c d : Bt) : Bool := andB (deq [.slc 0 0 n, .slc 1 0 m] [.slc 0 0 n, .slc 1 0 m]) (andB (deqH (two n m c d) (two n m c d)) (Nat.ble n few))
theorem okWs (n m : Nat) (c d : Bt) (r s : Int) : SumOk Try.prog 17 (runW n m c d r s) := sum_atH sxApart sxMixed (addK_ok (okA n m c d r s) extK_ok) noL (N := 20) (d := 8) fun hn => by
  refine ⟨noL_all, _, ?_, LLe.refl _⟩
  have h : evF Try.prog (addK 53 (runA n m c d r s) extK) noL 20 8 17 (AW n m r s) (two n m c d) = some (.leaf (.bool (same n m c d r s), none), andB (oA n m c d r s) true) := by kernel_rfl
  rw [h]
  unfold oA
  rw [deq_self, deqH_self, hn]; rfl
theorem okWi (n m : Nat) (c d : Bt) (r s : Int) : SumOk Try.prog 19 (runW n m c d r s) := sum_atH sxApart sxMixed (addK_ok (okB n m c d) extK_ok) noL (N := 20) (d := 8) fun hn => by
  refine ⟨noL_all, .leaf (.bool (cond (r == s) (samB n m c d) false), none), ?_, LLe.of ?_ rfl rfl⟩
  · have h : evF Try.prog (addK 55 (runB n m c d) extK) noL 20 8 19 (AW n m r s) (two n m c d) = some (.leaf (.bool (cond (r == s) (samB n m c d) false), none), andB (impB (r == s) (andB (oB n m c d) true)) true) := by kernel_rfl
    rw [h]
    unfold oB
    rw [deq_self, deqH_self, hn]
    cases (r == s) <;> rfl
  · unfold same samB
    by_cases h : r = s
    · subst h; simp [Tr.get, delitD, delit]
    · have h1 : (r == s) = false := by simpa using h
      have h2 : (r != s) = true := by simpa using h
      rw [h1, h2]; rfl
noncomputable def okW (n m : Nat) (c d : Bt) (r s : Int) : Bool := andB (deq (AW n m r s) (AW n m r s)) (andB (deqH (two n m c d) (two n m c d)) (Nat.ble n few))
theorem okW_true {n : Nat} (hn : Nat.ble n few = true) (m : Nat) (c d : Bt) (r s : Int) : okW n m c d r s = true := by unfold okW; rw [deq_self, deqH_self, hn]; rfl
noncomputable def lawK (n m : Nat) (c d : Bt) (r s : Int) : CallerT := addK 52 (byB (Nat.beq 0) (runSz n c) (runSz m d)) (addK 54 (selRun Bt.runTo) (addK 56 (selRun Bt.runEqS) (addK 17 (runW n m c d r s) (addK 19 (runW n m c d r s) extK))))
theorem lawK_ok (n m : Nat) (c d : Bt) (r s : Int) : CallerTOk Try.prog (lawK n m c d r s) := addK_ok (byB_ok (sumSz n c) (sumSz m d)) (addK_ok Bt.to_ok (addK_ok Bt.eq_ok (addK_ok (okWs n m c d r s) (addK_ok (okWi n m c d r s) extK_ok))))
def val (a b e r s : Bool) : Bool := bif a then true else bif b then true else bif bif e then false else true then false else bif bif bif bif r then false else true then false else true then false else true then false else bif bif bif bif s then false else true then false else true then false else true then false else true
def owed (a b e r s q0 q1 t0 t1 w e0 e1 : Bool) : Bool := andB (andB q0 true) (impB (!a) (andB (andB q1 true) (impB (!b) (andB (andB (andB t0 true) true) (andB (andB t1 true) (andB w (andB (andB t0 true) (andB (andB t1 true) (andB w (impB (!bif e then false else true) (andB (andB (andB t0 true) true) (andB (impB (bif bif r then false else true then false else true) (andB e0 true)) (impB (!bif bif bif r then false else true then false else true then false else true) (andB (andB (andB t1 true) true) (andB (impB (bif bif s then false else true then false else true) (andB e1 true)) true)))))))))))))))
theorem owed_t : ∀ a b e r s q0 q1 t0 t1 w e0 e1 : Bool, q0 = true → q1 = true → (a = false → b = false → t0 = true ∧ t1 = true ∧ w = true ∧ e0 = true ∧ e1 = true) → owed a b e r s q0 q1 t0 t1 w e0 e1 = true := by decide +kernel
theorem val_t : ∀ a b : Bool, val a b true true true = true := by decide

theorem law (x0 : AV) (xk0 : LK.has (.int .i64) x0) (n0 : Nat) (ln0 : n0 ≤ 9223372036854775807) (f0 : Nat → List AV) (tf0 : ∀ i, i < n0 → Typed bks (f0 i)) (x1 : AV) (xk1 : LK.has (.int .i64) x1) (n1 : Nat) (ln1 : n1 ≤ 9223372036854775807) (f1 : Nat → List AV) (tf1 : ∀ i, i < n1 → Typed bks (f1 i)) :
    ∃ K, CallerTOk Try.prog K ∧ ∃ t, evF Try.prog K noL lawN lawD 4 [.agg [x0, .slc 0 0 n0], .agg [x1, .slc 1 0 n1]] [.rows false n0 9 (fun i => canonR bks 0 (f0 i)), .rows false n1 9 (fun i => canonR bks 0 (f1 i))] = some (t, true) ∧ delit t.get.1 = .bool true := by
  obtain ⟨r, rfl, _, _⟩ := xk0
  obtain ⟨s, rfl, _, _⟩ := xk1
  have k0 := nmOk tf0
  have k1 := nmOk tf1
  rw [canon, canon]
  revert k0 k1
  generalize cOf f0 = c
  generalize cOf f1 = d
  intro k0 k1
  refine ⟨lawK n0 n1 c d r s, lawK_ok n0 n1 c d r s, .leaf (.bool (val (decide (Ln (szB n0 c 1048576) < 0)) (decide (Ln (szB n1 d (Ln (szB n0 c 1048576))) < 0)) (same n0 n1 c d r s == same n0 n1 c d r s) (r == r) (s == s)), none), ?_, ?_⟩
  · have h : evF Try.prog (lawK n0 n1 c d r s) noL lawN lawD 4 [.agg [.int .i64 r, .slc 0 0 n0], .agg [.int .i64 s, .slc 1 0 n1]] [.rows false n0 9 c.row, .rows false n1 9 d.row] =
        some (.leaf (.bool (val (decide (Ln (szB n0 c 1048576) < 0)) (decide (Ln (szB n1 d (Ln (szB n0 c 1048576))) < 0)) (same n0 n1 c d r s == same n0 n1 c d r s) (r == r) (s == s)), none),
          owed (decide (Ln (szB n0 c 1048576) < 0)) (decide (Ln (szB n1 d (Ln (szB n0 c 1048576))) < 0)) (same n0 n1 c d r s == same n0 n1 c d r s) (r == r) (s == s) (okSz n0 c 1048576) (okSz n1 d (Ln (szB n0 c 1048576))) (Bt.okT n0 c) (Bt.okT n1 d) (okW n0 n1 c d r s) (Bt.okE n0 c) (Bt.okE n1 d)) := by kernel_rfl
    rw [h, owed_t _ _ _ _ _ _ _ _ _ _ _ _ (okSz_true ln0 _ _) (okSz_true ln1 _ _) fun ha hb => ?_]
    rw [Ln_neg] at ha hb
    have g0 := szB_few ln0 k0 (by omega) (by omega) ha
    rw [Ln_pos ha] at hb
    have g1 := szB_few ln1 k1 g0.2.1 g0.2.2 hb
    have f0 : Nat.ble n0 few = true := Nat.ble_eq_true_of_le (by rw [few_eq]; omega)
    have f1 : Nat.ble n1 few = true := Nat.ble_eq_true_of_le (by rw [few_eq]; omega)
    exact ⟨Bt.okT_true f0 _, Bt.okT_true f1 _, okW_true f0 _ _ _ _ _, Bt.okE_true f0 _, Bt.okE_true f1 _⟩
  · simp only [Tr.get, delit, beq_self_eq_true, val_t]

set_option maxRecDepth 100000 in
theorem lifted (os : Os) (started : os.Started) (H : Type) (enc : TypeId × Value → H) :
    ReturnsInHanded {} Try.checked os 4 .any (Rows.fnExactSameWorksSpec.pre6 enc Try.prog Try.f4 Rows.fnExactSameWorksRow.domain false) (Rows.fnExactSameWorksSpec.post enc Try.prog Try.f4 false true false false) := by
  refine returnsInHanded_of_change (C := Try.checked) sxOwn started (by kernel_rfl) Try.func4
    (ChangeSpec.witness6 (enc := enc) (C := Try.checked) false ⟨#[], #[.agg #[.int .i64 0, .slice none 0 0], .agg #[.int .i64 0, .slice none 0 0]], []⟩ 8 (by kernel_rfl) (by kernel_rfl) (by kernel_rfl) (by kernel_rfl)) ?_
  intro W base args ds gs before hval0 hW hcnd _
  have hval : ∀ (j : Nat) t v, Try.f4.params[j]? = some t → args[j]? = some v → Value.okWide Try.prog W .any base t v := hval0
  have hW' := hW
  obtain ⟨p, q, hA0, hV, rfl, hfz, hnd⟩ := hW
  have hA : DataW.TrodAll enc Try.prog W 0 (fun _ => true) true Try.f4.params.toList args.toList ds p := hA0
  rw [Try.params4] at hA hval
  obtain ⟨v0, vs0, d0, ds0, p0, q0, hargs, rfl, rfl, h0, r0⟩ := trodAll_cons hA
  obtain ⟨v1, vs1, d1, ds1, p1, q1, rfl, rfl, rfl, h1, r1⟩ := trodAll_cons r0
  obtain ⟨rfl, rfl, rfl⟩ := trodAll_nil r1
  obtain rfl : args = #[v0, v1] := by cases args; simp_all
  obtain ⟨rfl, rfl⟩ := trodVars_none hV
  have hrel0 : HRel [] [] W := ⟨rfl, fun b x p h => by simp at h, fun b c x y p q _ h => by simp at h⟩
  have hro0 := ro_nil
  obtain ⟨x0, n0, f0, pl0, xk0, ln0, tf0, hr0, ev0⟩ := arg_pairB (t0 := 2) (t1 := 28) (e := 128) (D := 8) (k0 := .int .i64) (ks := [.str, .int .i64, .int .i64, .int .i64, .int .i64, .int .i64, .int .i64, .int .i64, .int .i64]) (hval 0 30 v0 rfl rfl) h0 (by kernel_rfl) (by kernel_rfl) (by kernel_rfl) (by kernel_rfl) (by kernel_rfl) (by kernel_rfl) (by kernel_rfl) (by kernel_rfl) (of_decide_eq_true (by kernel_rfl)) hrel0 hro0
  have hrel1 := HRel.canon hr0 (ro_app hro0) tf0
  have hro1 := ro_app (n := n0) (sz := 9) (f := fun i => canonR [.str, .int .i64, .int .i64, .int .i64, .int .i64, .int .i64, .int .i64, .int .i64, .int .i64] 0 (f0 i)) hro0
  obtain ⟨x1, n1, f1, pl1, xk1, ln1, tf1, hr1, ev1⟩ := arg_pairB (t0 := 2) (t1 := 28) (e := 128) (D := 8) (k0 := .int .i64) (ks := [.str, .int .i64, .int .i64, .int .i64, .int .i64, .int .i64, .int .i64, .int .i64, .int .i64]) (hval 1 30 v1 rfl rfl) h1 (by kernel_rfl) (by kernel_rfl) (by kernel_rfl) (by kernel_rfl) (by kernel_rfl) (by kernel_rfl) (by kernel_rfl) (by kernel_rfl) (of_decide_eq_true (by kernel_rfl)) hrel1 hro1
  have hrel2 := HRel.canon hr1 (ro_app hro1) tf1
  have hro2 := ro_app (n := n1) (sz := 9) (f := fun i => canonR [.str, .int .i64, .int .i64, .int .i64, .int .i64, .int .i64, .int .i64, .int .i64, .int .i64] 0 (f1 i)) hro1
  have e0 : VRel [pl0, pl1] (.agg [x0, .slc 0 0 n0]) v0 := VRel.ext (fun b p hp => by revert hp; rcases b with _ | _ | _ | _ <;> simp) ev0
  have e1 : VRel [pl0, pl1] (.agg [x1, .slc 1 0 n1]) v1 := VRel.ext (fun b p hp => by revert hp; rcases b with _ | _ | _ | _ <;> simp) ev1
  have k0 := h0
  have lt0 : ∀ x ∈ p0, x.block < W.heap.size := by obtain ⟨m, hm⟩ := k0; exact DataW.trod_lt m _ _ _ hm
  have k1 := h1
  have lt1 : ∀ x ∈ p1, x.block < W.heap.size := by obtain ⟨m, hm⟩ := k1; exact DataW.trod_lt m _ _ _ hm
  have hargs : VRels [pl0, pl1] [.agg [x0, .slc 0 0 n0], .agg [x1, .slc 1 0 n1]] [v0, v1] := by
    simp only [VRels]
    exact ⟨v0, _, rfl, e0, ⟨v1, _, rfl, e1, rfl⟩⟩
  obtain ⟨lawK, lawK_ok, hlaw⟩ := law x0 xk0 n0 ln0 f0 tf0 x1 xk1 n1 ln1 f1 tf1
  refine (evF_true (K := lawK) (L := noL) (N := lawN) (d := lawD) sxApart sxMixed lawK_ok (fun _ _ _ _ => noL_ok) hlaw hrel2 hro2 hargs).mono fun e W' ⟨he, bel⟩ => ?_
  subst he
  exact ⟨_, rfl, _, _, _, [], _, [], hW', trodAll_mk1 (shut_bool Try.underlying4 _), (trodAll_cons_mk (Below.trod sxLaid (by kernel_rfl) (of_decide_eq_true (by kernel_rfl)) k0 bel lt0) (trodAll_cons_mk (Below.trod sxLaid (by kernel_rfl) (of_decide_eq_true (by kernel_rfl)) k1 bel lt1) trodAll_mk0)), rfl, bel.frame _, fun h => by cases h⟩

theorem over : Rows.fnExactSameWorksRow.holds Try.pinned (OpenSpec.ofChange Rows.fnExactSameWorksSpec) :=
  OpenClaim.holds_of_wide 4 Try.f4 rfl rfl rfl rfl rfl rfl rfl ⟨rfl, rfl, rfl, rfl, rfl⟩ rfl rfl rfl rfl rfl (by kernel_rfl) Try.func4 (by kernel_rfl)
    (of_decide_eq_true (by kernel_rfl)) (by unfold Func.isWrapper; first | (rw [if_pos (by decide +kernel)]; kernel_rfl) | (rw [if_neg (by decide +kernel)]; exact ⟨rfl, rfl⟩))
    (fun os started H enc _ => lifted os started H enc)

/-- The statement. -/
theorem proved : Rows.FnExactSameWorksSaid := over
#print axioms proved
end Go.Proofs.Ytllonddgbjgmdaa.lawSameWorks
