/- The law 'FnExactValidSamples': the program's ValidSamples returns what the reference's returns, for all arguments; no condition. -/
import Derived.Test.YtodbpecmaiidpaaRows
import Derived.WalkKit
import Derived.ProofKit
import Derived.OpenShut
import Derived.ChangeOld
import Derived.Below
import Derived.Test.YtodbpecmaiidpaaSxK1
import Derived.Test.YtodbpecmaiidpaaSxC6
import Derived.Test.YtodbpecmaiidpaaSxS6
namespace Go.Proofs.Ytodbpecmaiidpaa.lawValidSamples
open Go.ChangeShapes Go.WideShapes Go.ChangeAt Go.RowKit Go.Sx
set_option linter.unusedVariables false
set_option linter.unusedSimpArgs false
set_option maxRecDepth 100000
def lawN : Nat := 20
def lawD : Nat := 8

open Go.Proofs.Ytodbpecmaiidpaa.S6

def inT (t : Int) : Bool := andB (decide (t ≥ 0)) (decide (t ≤ 100000))
def pr (k : Nat) : Nat := (IntKind.i64.wrap (Int.ofNat k - 1)).toNat
def bad (T : Nat → Int) (k : Nat) : Bool := cond (!inT (T k)) true (andB (decide (Int.ofNat k > 0)) (decide (T k < T (pr k))))
def SS (n : Nat) (T : Nat → Int) (C : Nat → Nat → Int) (k : Int) : St := ⟨[.slc 0 0 n, .junk, .junk, .int .i64 k] ++ junks 34, roH n T C⟩
def RS (n : Nat) (T : Nat → Int) (C : Nat → Nat → Int) : St := ⟨[.slc 0 0 n, .junk, .bool false, .junk] ++ junks 34, roH n T C⟩
def ES (n : Nat) (T : Nat → Int) (C : Nat → Nat → Int) : St := ⟨[.slc 0 0 n, .junk, .junk, .junk] ++ junks 34, roH n T C⟩
def obS (n : Nat) (T : Nat → Int) (k : Nat) : Bool := andB (andB (inB (Int.ofNat k) n) (andB (Nat.blt k n) (andB (impB (cond (!inT (T k)) false true) (andB (impB (decide (Int.ofNat k > 0)) (andB (inB (Int.ofNat k) n) (andB (Nat.blt k n) (andB (inB (IntKind.i64.wrap (Int.ofNat k - 1)) n) (andB (Nat.blt (pr k) n) true))))) true)) true))) true
theorem stepS (n : Nat) (T : Nat → Int) (C : Nat → Nat → Int) (k : Nat) :
    evC JS Try.prog (callF Try.prog extK 20 8) noL 20 (loopN Try.prog 61 3) (SS n T C (Int.ofNat k)) (kG 1 [0, 3] [0, 2] none none) =
      some (.node (decide (Int.ofNat k < (n : Int))) (.node (bad T k) (.leaf (.ret, RS n T C)) (.leaf (.nrm, SS n T C (IntKind.i64.wrap (Int.ofNat k + 1))))) (.leaf (.ext 0, ES n T C)), andB (impB (decide (Int.ofNat k < (n : Int))) (obS n T k)) true) := by kernel_rfl

def SI (n : Nat) (T : Nat → Int) (C : Nat → Nat → Int) (k : Int) : St := ⟨[.slc 0 0 n, .junk, .junk, .junk, .junk, .junk, .junk, .junk, .slc 0 0 n, .int .i64 n, .int .i64 k] ++ junks 24, roH n T C⟩
def RI (n : Nat) (T : Nat → Int) (C : Nat → Nat → Int) : St := ⟨[.junk, .junk, .bool false, .junk, .junk, .junk, .junk, .junk, .junk, .junk, .junk] ++ junks 24, roH n T C⟩
def EI (n : Nat) (T : Nat → Int) (C : Nat → Nat → Int) : St := ⟨junks 35, roH n T C⟩
def obI (n : Nat) (T : Nat → Int) (k : Nat) : Bool := andB (inB (Int.ofNat k) n) (andB (Nat.blt k n) (andB (andB (impB (cond (!inT (T k)) false true) (andB (impB (decide (Int.ofNat k > 0)) (andB (inB (IntKind.i64.wrap (Int.ofNat k - 1)) n) (andB (Nat.blt (pr k) n) true))) true)) true) true))
theorem stepI (n : Nat) (T : Nat → Int) (C : Nat → Nat → Int) (k : Nat) :
    evC JS Try.prog (callF Try.prog extK 20 8) noL 20 (loopN Try.prog 31 5) (SI n T C (Int.ofNat k)) (kG 1 [0, 8, 9, 10] [2] (some [0]) (some [0])) =
      some (.node (decide (Int.ofNat k < (n : Int))) (.node (bad T k) (.leaf (.ret, RI n T C)) (.leaf (.nrm, SI n T C (IntKind.i64.wrap (Int.ofNat k + 1))))) (.leaf (.ext 0, EI n T C)), andB (impB (decide (Int.ofNat k < (n : Int))) (obI n T k)) true) := by kernel_rfl

theorem pr_le {n k : Nat} (hn : n ≤ few) (hk : k < n) (h0 : 0 < k) : IntKind.i64.wrap (Int.ofNat k - 1) = Int.ofNat (k - 1) ∧ pr k = k - 1 := by
  have hf : few = 1099511627776 := rfl
  have h : IntKind.i64.wrap (Int.ofNat k - 1) = Int.ofNat (k - 1) := by
    rw [wrap_i64 (by simp only [Int.ofNat_eq_natCast]; omega) (by simp only [Int.ofNat_eq_natCast]; omega)]
    simp only [Int.ofNat_eq_natCast]; omega
  exact ⟨h, by unfold pr; rw [h]; rfl⟩
theorem obS_true {n k : Nat} (hn : n ≤ few) (hk : k < n) (T : Nat → Int) : obS n T k = true := by
  unfold obS
  rw [inB_nat hk, blt_lt hk]
  rcases Nat.eq_zero_or_pos k with rfl | h0
  · cases inT (T 0) <;> rfl
  · obtain ⟨h1, h2⟩ := pr_le hn hk h0
    rw [h1, h2, inB_nat (show k - 1 < n by omega), blt_lt (show k - 1 < n by omega)]
    cases inT (T k) <;> cases decide (Int.ofNat k > 0) <;> rfl
theorem obI_true {n k : Nat} (hn : n ≤ few) (hk : k < n) (T : Nat → Int) : obI n T k = true := by
  unfold obI
  rw [inB_nat hk, blt_lt hk]
  rcases Nat.eq_zero_or_pos k with rfl | h0
  · cases inT (T 0) <;> rfl
  · obtain ⟨h1, h2⟩ := pr_le hn hk h0
    rw [h1, h2, inB_nat (show k - 1 < n by omega), blt_lt (show k - 1 < n by omega)]
    cases inT (T k) <;> cases decide (Int.ofNat k > 0) <;> rfl

def ok (T : Nat → Int) (k : Nat) : Bool := !bad T k
theorem loopS (n : Nat) (hn : n ≤ few) (T : Nat → Int) (C : Nat → Nat → Int) : LoopOk Try.prog 1 (loopN Try.prog 61 3) (SS n T C 0) (.node (allB n (ok T)) (.leaf (.ext 0, ES n T C)) (.leaf (.ret, RS n T C))) := by
  have hf : few = 1099511627776 := rfl
  exact loop_for (callF_ok sxApart sxMixed extK_ok (N := 20) 8) sxMixed (body := loopN Try.prog 61 3) (L := noL) (N := 20) (B := 1) (fun _ _ _ _ h => by cases h) [0, 3] [0, 2] none none
    (fun k => SS n T C (Int.ofNat k)) n (ok T) (.ret, RS n T C) (.ext 0, ES n T C) (fun h => by cases h) (fun h => by cases h)
    (fun k hk _ => by
      refine ⟨_, by rw [stepS, obS_true hn hk, ofNat_lt, decide_eq_true hk]; rfl, fun h => ?_, fun h => ?_⟩
      · have hb : bad T k = false := by simpa [ok] using h
        rw [hb]
        simp only [Tr.get, cond_true, cond_false]
        rw [wrap_i64 (by simp only [Int.ofNat_eq_natCast]; omega) (by simp only [Int.ofNat_eq_natCast]; omega)]
        exact XLe.refl _
      · have hb : bad T k = true := by simpa [ok] using h
        rw [hb]
        exact XLe.refl _)
    (fun _ => by
      refine ⟨_, by rw [stepS, ofNat_lt, decide_eq_false (Nat.lt_irrefl n), show ∀ x, andB (impB false x) true = true from fun x => by cases x <;> rfl], ?_⟩
      exact XLe.refl _)
theorem loopI (n : Nat) (hn : n ≤ few) (T : Nat → Int) (C : Nat → Nat → Int) : LoopOk Try.prog 1 (loopN Try.prog 31 5) (SI n T C 0) (.node (allB n (ok T)) (.leaf (.ext 0, EI n T C)) (.leaf (.ret, RI n T C))) := by
  have hf : few = 1099511627776 := rfl
  exact loop_for (callF_ok sxApart sxMixed extK_ok (N := 20) 8) sxMixed (body := loopN Try.prog 31 5) (L := noL) (N := 20) (B := 1) (fun _ _ _ _ h => by cases h) [0, 8, 9, 10] [2] (some [0]) (some [0])
    (fun k => SI n T C (Int.ofNat k)) n (ok T) (.ret, RI n T C) (.ext 0, EI n T C) (fun h => by cases h) (fun h => by cases h)
    (fun k hk _ => by
      refine ⟨_, by rw [stepI, obI_true hn hk, ofNat_lt, decide_eq_true hk]; rfl, fun h => ?_, fun h => ?_⟩
      · have hb : bad T k = false := by simpa [ok] using h
        rw [hb]
        simp only [Tr.get, cond_true, cond_false]
        rw [wrap_i64 (by simp only [Int.ofNat_eq_natCast]; omega) (by simp only [Int.ofNat_eq_natCast]; omega)]
        exact XLe.refl _
      · have hb : bad T k = true := by simpa [ok] using h
        rw [hb]
        exact XLe.refl _)
    (fun _ => by
      refine ⟨_, by rw [stepI, ofNat_lt, decide_eq_false (Nat.lt_irrefl n), show ∀ x, andB (impB false x) true = true from fun x => by cases x <;> rfl], ?_⟩
      exact XLe.refl _)

def vS (n : Nat) (T : Nat → Int) : Bool := andB (allB n (ok T)) (decide ((n : Int) ≤ 64))
theorem sumSam (n : Nat) (T : Nat → Int) (C : Nat → Nat → Int) : SumOk Try.prog 61 (selRun (runAtH [.slc 0 0 n] (roH n T C) (.leaf (.bool (vS n T), none)) (Nat.ble n few))) :=
  sum_atH sxApart sxMixed extK_ok (loopAt 3 [0, 3] (SS n T C 0) (.node (allB n (ok T)) (.leaf (.ext 0, ES n T C)) (.leaf (.ret, RS n T C))) noL) (N := 20) (d := 8) fun hn => by
    rw [Nat.ble_eq] at hn
    refine ⟨loopAt_all (B := 1) (by decide +kernel) (loopS n hn T C) noL_all, _, ?_, LLe.refl _⟩
    have h : evF Try.prog extK (loopAt 3 [0, 3] (SS n T C 0) (.node (allB n (ok T)) (.leaf (.ext 0, ES n T C)) (.leaf (.ret, RS n T C))) noL) 20 8 61 [.slc 0 0 n] (roH n T C) = some (.leaf (.bool (vS n T), none), andB (deqS (SS n T C 0) (SS n T C 0)) true) := by kernel_rfl
    rw [deqS_self] at h
    exact h
noncomputable def samK (n : Nat) (T : Nat → Int) (C : Nat → Nat → Int) : CallerT := addK 61 (selRun (runAtH [.slc 0 0 n] (roH n T C) (.leaf (.bool (vS n T), none)) (Nat.ble n few))) extK
theorem sumS (n : Nat) (T : Nat → Int) (C : Nat → Nat → Int) : SumOk Try.prog 29 (selRun (runAtH [.slc 0 0 n] (roH n T C) (.leaf (.bool (vS n T), none)) (Nat.ble n few))) :=
  sum_atH sxApart sxMixed (K := samK n T C) (addK_ok (sumSam n T C) extK_ok) noL (N := 20) (d := 8) fun hn => by
    refine ⟨noL_all, _, ?_, LLe.refl _⟩
    have h : evF Try.prog (samK n T C) noL 20 8 29 [.slc 0 0 n] (roH n T C) = some (.leaf (.bool (vS n T), none), andB (andB (deq [.slc 0 0 n] [.slc 0 0 n]) (andB (deqH (roH n T C) (roH n T C)) (Nat.ble n few))) true) := by kernel_rfl
    rw [deq_self, deqH_self, hn] at h
    exact h
theorem sumI (n : Nat) (T : Nat → Int) (C : Nat → Nat → Int) : SumOk Try.prog 31 (selRun (runAtH [.slc 0 0 n] (roH n T C) (.leaf (.bool (vS n T), none)) (Nat.ble n few))) :=
  sum_atH sxApart sxMixed extK_ok (loopAt 5 [0, 8, 9, 10] (SI n T C 0) (.node (allB n (ok T)) (.leaf (.ext 0, EI n T C)) (.leaf (.ret, RI n T C))) noL) (N := 20) (d := 8) fun hn => by
    rw [Nat.ble_eq] at hn
    refine ⟨loopAt_all (B := 1) (by decide +kernel) (loopI n hn T C) noL_all, .leaf (.bool (cond (decide ((n : Int) > 64)) false (andB (allB n (ok T)) true)), none), ?_, ?_⟩
    · have h : evF Try.prog extK (loopAt 5 [0, 8, 9, 10] (SI n T C 0) (.node (allB n (ok T)) (.leaf (.ext 0, EI n T C)) (.leaf (.ret, RI n T C))) noL) 20 8 31 [.slc 0 0 n] (roH n T C) = some (.leaf (.bool (cond (decide ((n : Int) > 64)) false (andB (allB n (ok T)) true)), none), ob2 (decide ((n : Int) > 64)) true (andB (deqS (SI n T C 0) (SI n T C 0)) true)) := by kernel_rfl
      rw [deqS_self] at h
      rw [h]
      cases decide ((n : Int) > 64) <;> rfl
    · refine LLe.of ?_ rfl rfl
      simp only [Tr.get, delitD, delit, vS]
      by_cases h : (n : Int) > 64
      · rw [decide_eq_true h, decide_eq_false (show ¬ (n : Int) ≤ 64 by omega)]
        cases allB n (ok T) <;> rfl
      · rw [decide_eq_false h, decide_eq_true (show (n : Int) ≤ 64 by omega)]
        cases allB n (ok T) <;> rfl

noncomputable def lawK (n : Nat) (T : Nat → Int) (C : Nat → Nat → Int) : CallerT := addK 30 (selRun (runTo n T C)) (addK 32 (selRun (runEqS n T C)) (addK 29 (selRun (runAtH [.slc 0 0 n] (roH n T C) (.leaf (.bool (vS n T), none)) (Nat.ble n few)))
  (addK 31 (selRun (runAtH [.slc 0 0 n] (roH n T C) (.leaf (.bool (vS n T), none)) (Nat.ble n few))) extK)))
theorem lawK_ok (n : Nat) (T : Nat → Int) (C : Nat → Nat → Int) : CallerTOk Try.prog (lawK n T C) := addK_ok (to_ok n T C) (addK_ok (eq_ok n T C) (addK_ok (sumS n T C) (addK_ok (sumI n T C) extK_ok)))

theorem law (n0 : Nat) (ln0 : n0 ≤ 9223372036854775807) (f0 : Nat → List AV) (tf0 : ∀ i, i < n0 → Typed sks (f0 i)) :
    ∃ K, CallerTOk Try.prog K ∧ ∃ t, evF Try.prog K noL lawN lawD 8 [.slc 0 0 n0] [.rows false n0 17 (fun i => canonR sks 0 (f0 i))] = some (t, true) ∧ delit t.get.1 = .bool true := by
  rw [canon_row]
  generalize Tf f0 = T
  generalize Cf f0 = C
  refine ⟨lawK n0 T C, lawK_ok n0 T C, .leaf (.bool (impB (cond (vS n0 T == vS n0 T) false true) (decide (lft n0 < 0))), none), ?_, ?_⟩
  · have h : evF Try.prog (lawK n0 T C) noL lawN lawD 8 [.slc 0 0 n0] (roH n0 T C) = some (.leaf (.bool (impB (cond (vS n0 T == vS n0 T) false true) (decide (lft n0 < 0))), none),
      impB (cond (decide (lft n0 < 0)) false true) (andB (andB (deq [.slc 0 0 n0] [.slc 0 0 n0]) (andB (deqH (roH n0 T C) (roH n0 T C)) (Nat.ble n0 few)))
        (andB (andB (deq [.slc 0 0 n0] [.slc 0 0 n0]) (andB (deqH (roH n0 T C) (roH n0 T C)) (Nat.ble n0 few)))
        (andB (andB (deq [.slc 0 0 n0] [.slc 0 0 n0]) (andB (deqH (roH n0 T C) (roH n0 T C)) (Nat.ble n0 few)))
        (andB (andB (deq [.slc 0 0 n0] [.slc 0 0 n0]) (andB (deqH (roH n0 T C) (roH n0 T C)) (Nat.ble n0 few)))
          (impB (cond (cond (vS n0 T == vS n0 T) false true) false true) (andB (andB (deq [.slc 0 0 n0] [.slc 0 0 n0]) (andB (deqH (roH n0 T C) (roH n0 T C)) (Nat.ble n0 few)))
            (andB (andB (deq [.slc 0 0 n0, .slc 1 0 n0] [.slc 0 0 n0, .slc 1 0 n0]) (andB (deqH (roH2 n0 T C) (roH2 n0 T C)) (Nat.ble n0 few))) true)))))))) := by kernel_rfl
    rw [deq_self, deq_self, deqH_self, deqH_self] at h
    rcases lft_few ln0 with hl | hn
    · rw [hl] at h ⊢
      refine h.trans ?_
      cases Nat.ble n0 few <;> cases vS n0 T <;> rfl
    · rw [Nat.ble_eq_true_of_le hn] at h
      refine h.trans ?_
      cases decide (lft n0 < 0) <;> cases vS n0 T <;> rfl
  · cases decide (lft n0 < 0) <;> simp [Tr.get, delit, impB]

set_option maxRecDepth 100000 in
theorem lifted (os : Os) (started : os.Started) (H : Type) (enc : TypeId × Value → H) :
    ReturnsInHanded {} Try.checked os 8 .any (Rows.fnExactValidSamplesSpec.pre6 enc Try.prog Try.f8 Rows.fnExactValidSamplesRow.domain false) (Rows.fnExactValidSamplesSpec.post enc Try.prog Try.f8 false true false false) := by
  refine returnsInHanded_of_change (C := Try.checked) sxOwn started (by kernel_rfl) Try.func8
    (ChangeSpec.witness6 (enc := enc) (C := Try.checked) false ⟨#[], #[.slice none 0 0], []⟩ 8 (by kernel_rfl) (by kernel_rfl) (by kernel_rfl) (by kernel_rfl)) ?_
  intro W base args ds gs before hval0 hW hcnd _
  have hval : ∀ (j : Nat) t v, Try.f8.params[j]? = some t → args[j]? = some v → Value.okWide Try.prog W .any base t v := hval0
  have hW' := hW
  obtain ⟨p, q, hA0, hV, rfl, hfz, hnd⟩ := hW
  have hA : DataW.TrodAll enc Try.prog W 0 (fun _ => true) true Try.f8.params.toList args.toList ds p := hA0
  rw [Try.params8] at hA hval
  obtain ⟨v0, vs0, d0, ds0, p0, q0, hargs, rfl, rfl, h0, r0⟩ := trodAll_cons hA
  obtain ⟨rfl, rfl, rfl⟩ := trodAll_nil r0
  obtain rfl : args = #[v0] := by cases args; simp_all
  obtain ⟨rfl, rfl⟩ := trodVars_none hV
  have hrel0 : HRel [] [] W := ⟨rfl, fun b x p h => by simp at h, fun b c x y p q _ h => by simp at h⟩
  have hro0 := ro_nil
  obtain ⟨n0, f0, pl0, ln0, tf0, hr0, ev0⟩ := arg_slice (e := 86) (D := 8) (ks := [.int .i64, .int .i16, .int .i16, .int .i16, .int .i16, .int .i16, .int .i16, .int .i16, .int .i16, .int .i16, .int .i16, .int .i16, .int .i16, .int .i16, .int .i16, .int .i16, .int .i16]) (hval 0 47 v0 rfl rfl) h0 (by kernel_rfl) (by kernel_rfl) (by kernel_rfl) (of_decide_eq_true (by kernel_rfl)) hrel0 hro0
  have hrel1 := HRel.canon hr0 (ro_app hro0) tf0
  have hro1 := ro_app (n := n0) (sz := 17) (f := fun i => canonR [.int .i64, .int .i16, .int .i16, .int .i16, .int .i16, .int .i16, .int .i16, .int .i16, .int .i16, .int .i16, .int .i16, .int .i16, .int .i16, .int .i16, .int .i16, .int .i16, .int .i16] 0 (f0 i)) hro0
  have e0 : VRel [pl0] (.slc 0 0 n0) v0 := VRel.ext (fun b p hp => by revert hp; rcases b with _ | _ | _ | _ <;> simp) ev0
  have k0 := h0
  have lt0 : ∀ x ∈ p0, x.block < W.heap.size := by obtain ⟨m, hm⟩ := k0; exact DataW.trod_lt m _ _ _ hm
  have hargs : VRels [pl0] [.slc 0 0 n0] [v0] := by
    simp only [VRels]
    exact ⟨v0, _, rfl, e0, rfl⟩
  obtain ⟨lawK, lawK_ok, hlaw⟩ := law n0 ln0 f0 tf0
  refine (evF_true (K := lawK) (L := noL) (N := lawN) (d := lawD) sxApart sxMixed lawK_ok (fun _ _ _ _ => noL_ok) hlaw hrel1 hro1 hargs).mono fun e W' ⟨he, bel⟩ => ?_
  subst he
  exact ⟨_, rfl, _, _, _, [], _, [], hW', trodAll_mk1 (shut_bool Try.underlying4 _), (trodAll_cons_mk (Below.trod sxLaid (by kernel_rfl) (of_decide_eq_true (by kernel_rfl)) k0 bel lt0) trodAll_mk0), rfl, bel.frame _, fun h => by cases h⟩

theorem over : Rows.fnExactValidSamplesRow.holds Try.pinned (OpenSpec.ofChange Rows.fnExactValidSamplesSpec) :=
  OpenClaim.holds_of_wide 8 Try.f8 rfl rfl rfl rfl rfl rfl rfl ⟨rfl, rfl, rfl, rfl, rfl⟩ rfl rfl rfl rfl rfl (by kernel_rfl) Try.func8 (by kernel_rfl)
    (of_decide_eq_true (by kernel_rfl)) (by unfold Func.isWrapper; first | (rw [if_pos (by decide +kernel)]; kernel_rfl) | (rw [if_neg (by decide +kernel)]; exact ⟨rfl, rfl⟩))
    (fun os started H enc _ => lifted os started H enc)

/-- The statement. -/
theorem proved : Rows.FnExactValidSamplesSaid := over
#print axioms proved
end Go.Proofs.Ytodbpecmaiidpaa.lawValidSamples
