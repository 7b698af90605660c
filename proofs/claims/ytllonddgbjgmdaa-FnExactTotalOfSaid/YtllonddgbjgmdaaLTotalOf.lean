/- The law 'FnExactTotalOf': the program's TotalOf returns what the reference's returns, for all arguments; no condition. -/
import Derived.Test.YtllonddgbjgmdaaRows
import Derived.WalkKit
import Derived.ProofKit
import Derived.OpenShut
import Derived.ChangeOld
import Derived.Below
import Derived.Test.YtllonddgbjgmdaaSxK2
import Derived.Test.YtllonddgbjgmdaaSxFr
import Derived.Test.YtllonddgbjgmdaaSxW4
namespace Go.Proofs.Ytllonddgbjgmdaa.lawTotalOf
open Go.ChangeShapes Go.WideShapes Go.ChangeAt Go.RowKit Go.Sx
set_option linter.unusedVariables false
set_option linter.unusedSimpArgs false
set_option maxRecDepth 100000
def lawN : Nat := 20
def lawD : Nat := 8

open Go.Proofs.Ytllonddgbjgmdaa.W1 Go.Proofs.Ytllonddgbjgmdaa.W2 Go.Proofs.Ytllonddgbjgmdaa.W3 Go.Proofs.Ytllonddgbjgmdaa.W4 Go.Sx.R0

def z8 : List AV := List.replicate 8 (.int .i64 0)
def tot (c : Bt) : Nat → Nat → Int
  | 0, _ => 0
  | k + 1, j => IntKind.i64.wrap (tot c k j + c.d j k)
def mem (r : Int) (n : Nat) (c : Bt) (t : Nat → Int) : List Blk := [.rows false n 9 c.row, .one true [.int .i64 r, .slc 0 0 n], .one true z8, .one true (d8 t)]
def Sa (r : Int) (n : Nat) (c : Bt) (t : Nat → Int) (k : Int) : St := ⟨[.junk, .ptr 1 0 0, .ptr 2 0 0, .int .i64 0, .ptr 3 0 0, .int .i64 k] ++ junks 30, mem r n c t⟩
def Sb (r : Int) (n : Nat) (c : Bt) (t : Nat → Int) (k : Int) : St := ⟨[.junk, .ptr 1 0 0, .ptr 2 0 0, .int .i64 0, .ptr 3 0 0] ++ junks 10 ++ [.slc 0 0 n, .int .i64 n, .int .i64 k] ++ junks 18, mem r n c t⟩
def E (r : Int) (n : Nat) (c : Bt) (t : Nat → Int) : St := ⟨[.junk, .ptr 1 0 0, .ptr 2 0 0, .int .i64 0, .ptr 3 0 0] ++ junks 31, mem r n c t⟩
def ik (n k : Nat) : Bool := andB (inB (Int.ofNat k) n) (andB (Nat.blt k n) true)
theorem ik_true {n k : Nat} (h : k < n) : ik n k = true := by unfold ik; rw [inB_nat h, blt_lt h]; rfl
def ik8 (n k : Nat) : Bool := andB (ik n k) (andB (ik n k) (andB (ik n k) (andB (ik n k) (andB (ik n k) (andB (ik n k) (andB (ik n k) (andB (ik n k) (true))))))))
theorem ik8_true {n k : Nat} (h : k < n) : ik8 n k = true := by unfold ik8; rw [ik_true h]; rfl
theorem stepA (r : Int) (n : Nat) (c : Bt) (t : Nat → Int) (k : Nat) : evC JS Try.prog (callF Try.prog extK 20 8) noL 20 (loopN Try.prog 23 6) (Sa r n c t (Int.ofNat k)) (kG 1 [1, 2, 3, 4, 5] [1, 2, 3, 4] none none) =
    some (.node (decide (Int.ofNat k < (n : Int))) (.leaf (.nrm, Sa r n c (fun j => IntKind.i64.wrap (t j + c.d j k)) (IntKind.i64.wrap (Int.ofNat k + 1)))) (.leaf (.ext 0, E r n c t)), andB (impB (decide (Int.ofNat k < (n : Int))) (ik8 n k)) true) := by kernel_rfl
theorem stepB (r : Int) (n : Nat) (c : Bt) (t : Nat → Int) (k : Nat) : evC JS Try.prog (callF Try.prog extK 20 8) noL 20 (loopN Try.prog 24 6) (Sb r n c t (Int.ofNat k)) (kG 1 [1, 2, 3, 4, 15, 16, 17] [1, 2, 3, 4] (some [0, 1, 2, 3]) (some [0, 1, 2, 3])) =
    some (.node (decide (Int.ofNat k < (n : Int))) (.leaf (.nrm, Sb r n c (fun j => IntKind.i64.wrap (t j + c.d j k)) (IntKind.i64.wrap (Int.ofNat k + 1)))) (.leaf (.ext 0, E r n c t)), andB (impB (decide (Int.ofNat k < (n : Int))) (ik n k)) true) := by kernel_rfl
theorem loopA (r : Int) {n : Nat} (hn : n ≤ few) (c : Bt) : LoopOk Try.prog 1 (loopN Try.prog 23 6) (Sa r n c (fun _ => 0) 0) (.leaf (.ext 0, E r n c (tot c n))) :=
  loop_all (callF_ok sxApart sxMixed extK_ok (N := 20) 8) sxMixed (L := noL) (N := 20) (fun _ _ _ _ h => by cases h) [1, 2, 3, 4, 5] [1, 2, 3, 4] none none (fun k => Sa r n c (tot c k) (Int.ofNat k)) n (.ext 0, E r n c (tot c n)) (fun h => by cases h)
    (fun k hk => by
      refine ⟨_, by rw [stepA, ofNat_lt, ik8_true hk, decide_eq_true hk]; rfl, ?_⟩
      simp only [Tr.get, cond_true]
      rw [wrap_i64 (n := Int.ofNat k + 1) (by simp only [Int.ofNat_eq_natCast]; omega) (by have := few_eq; simp only [Int.ofNat_eq_natCast]; omega)]
      exact XLe.refl _)
    ⟨_, by rw [stepA, ofNat_lt, decide_eq_false (Nat.lt_irrefl n), imp_ff], XLe.refl _⟩
theorem loopB (r : Int) {n : Nat} (hn : n ≤ few) (c : Bt) : LoopOk Try.prog 1 (loopN Try.prog 24 6) (Sb r n c (fun _ => 0) 0) (.leaf (.ext 0, E r n c (tot c n))) :=
  loop_all (callF_ok sxApart sxMixed extK_ok (N := 20) 8) sxMixed (L := noL) (N := 20) (fun _ _ _ _ h => by cases h) [1, 2, 3, 4, 15, 16, 17] [1, 2, 3, 4] (some [0, 1, 2, 3]) (some [0, 1, 2, 3]) (fun k => Sb r n c (tot c k) (Int.ofNat k)) n (.ext 0, E r n c (tot c n)) (fun h => by cases h)
    (fun k hk => by
      refine ⟨_, by rw [stepB, ofNat_lt, ik_true hk, decide_eq_true hk]; rfl, ?_⟩
      simp only [Tr.get, cond_true]
      rw [wrap_i64 (n := Int.ofNat k + 1) (by simp only [Int.ofNat_eq_natCast]; omega) (by have := few_eq; simp only [Int.ofNat_eq_natCast]; omega)]
      exact XLe.refl _)
    ⟨_, by rw [stepB, ofNat_lt, decide_eq_false (Nat.lt_irrefl n), imp_ff], XLe.refl _⟩
def totV (r : Int) (n : Nat) (c : Bt) (j : Nat) : Int := cond (vW r n c) (tot c n j) 0
def totC (r : Int) (n : Nat) (c : Bt) : Int := cond (vW r n c) 0 1
def T (r : Int) (n : Nat) (c : Bt) : Tr (AV × Option (List Blk)) := .node (!vW r n c) (.leaf (.tup [.agg z8, .lit (.int .i64 1)], none)) (.leaf (.tup [.agg (d8 (tot c n)), .lit (.int .i64 0)], none))
theorem T_le (r : Int) (n : Nat) (c : Bt) : LLe (T r n c).get (.tup [.agg (d8 (totV r n c)), .int .i64 (totC r n c)], none) := by
  have e : totV r n c = fun j => cond (vW r n c) (tot c n j) 0 := rfl
  rw [e]
  unfold T totC
  cases vW r n c <;> exact LLe.of rfl rfl rfl
noncomputable def runT (r : Int) (n : Nat) (c : Bt) : List AV → List Blk → Option Lf := selRun (runAtH (AV1 r n) (Bt.ro1 n c) (.leaf (.tup [.agg (d8 (totV r n c)), .int .i64 (totC r n c)], none)) (andB (Nat.ble n few) (pB (NmOk n c))))
theorem okS (r : Int) (n : Nat) (c : Bt) : SumOk Try.prog 23 (runT r n c) := sum_atH sxApart sxMixed (addK_ok (vpS r n c) extK_ok) (loopAt 6 [1, 2, 3, 4, 5] (Sa r n c (fun _ => 0) 0) (.leaf (.ext 0, E r n c (tot c n))) noL) (N := 20) (d := 8) fun hg => by
  obtain ⟨h1, h2⟩ := andB_true hg
  have hn := Nat.le_of_ble_eq_true h1
  refine ⟨loopAt_all (B := 1) (by decide +kernel) (loopA r hn c) noL_all, T r n c, ?_, T_le r n c⟩
  have h : evF Try.prog (addK 57 (runVp r n c) extK) (loopAt 6 [1, 2, 3, 4, 5] (Sa r n c (fun _ => 0) 0) (.leaf (.ext 0, E r n c (tot c n))) noL) 20 8 23 (AV1 r n) (Bt.ro1 n c) = some (T r n c, andB (okVp r n c) (impB (!!vW r n c) (andB (deqS (Sa r n c (fun _ => 0) 0) (Sa r n c (fun _ => 0) 0)) true))) := by kernel_rfl
  rw [okVp_true r hn (pB_of h2), deqS_self, show andB true true = true from rfl, imp_t rfl] at h
  exact h
theorem okI (r : Int) (n : Nat) (c : Bt) : SumOk Try.prog 24 (runT r n c) := sum_atH sxApart sxMixed (addK_ok (vI r n c) extK_ok) (loopAt 6 [1, 2, 3, 4, 15, 16, 17] (Sb r n c (fun _ => 0) 0) (.leaf (.ext 0, E r n c (tot c n))) noL) (N := 20) (d := 8) fun hg => by
  obtain ⟨h1, h2⟩ := andB_true hg
  have hn := Nat.le_of_ble_eq_true h1
  refine ⟨loopAt_all (B := 1) (by decide +kernel) (loopB r hn c) noL_all, T r n c, ?_, T_le r n c⟩
  have h : evF Try.prog (addK 22 (runV r n c) extK) (loopAt 6 [1, 2, 3, 4, 15, 16, 17] (Sb r n c (fun _ => 0) 0) (.leaf (.ext 0, E r n c (tot c n))) noL) 20 8 24 (AV1 r n) (Bt.ro1 n c) = some (T r n c, andB (okV r n c) (impB (!!vW r n c) (andB (deqS (Sb r n c (fun _ => 0) 0) (Sb r n c (fun _ => 0) 0)) true))) := by kernel_rfl
  rw [okV_true r hn (pB_of h2), deqS_self, show andB true true = true from rfl, imp_t rfl] at h
  exact h
noncomputable def lawK (r : Int) (n : Nat) (c : Bt) : CallerT := K1 n c (addK 23 (runT r n c) (addK 24 (runT r n c) extK))
theorem lawK_ok (r : Int) (n : Nat) (c : Bt) : CallerTOk Try.prog (lawK r n c) := K1_ok n c (addK_ok (okS r n c) (addK_ok (okI r n c) extK_ok))
def ne8 (d : Nat → Int) : Bool := bif bif d 0 == d 0 then false else true then false else bif bif d 1 == d 1 then false else true then false else bif bif d 2 == d 2 then false else true then false else bif bif d 3 == d 3 then false else true then false else bif bif d 4 == d 4 then false else true then false else bif bif d 5 == d 5 then false else true then false else bif bif d 6 == d 6 then false else true then false else bif bif d 7 == d 7 then false else true then false else true
def x8 (d : Nat → Int) (y : Int) : Bool := impB (y == y) (bif ne8 d then false else true)
theorem x8_f (d : Nat → Int) (y : Int) : x8 d y = false := by unfold x8 ne8; simp [impB]
theorem law (x0 : AV) (xk0 : LK.has (.int .i64) x0) (n0 : Nat) (ln0 : n0 ≤ 9223372036854775807) (f0 : Nat → List AV) (tf0 : ∀ i, i < n0 → Typed bks (f0 i)) :
    ∃ K, CallerTOk Try.prog K ∧ ∃ t, evF Try.prog K noL lawN lawD 6 [.agg [x0, .slc 0 0 n0]] [.rows false n0 9 (fun i => canonR bks 0 (f0 i))] = some (t, true) ∧ delit t.get.1 = .bool true := by
  obtain ⟨r, rfl, _, _⟩ := xk0
  have k0 := nmOk tf0
  rw [canon]
  revert k0
  generalize cOf f0 = c
  intro k0
  have h : evF Try.prog (lawK r n0 c) noL lawN lawD 6 [.agg [.int .i64 r, .slc 0 0 n0]] [.rows false n0 9 c.row] =
      some (.leaf (.bool (val1 (neg1 n0 c) (x8 (totV r n0 c) (totC r n0 c)) (r == r)), none), owed1 (neg1 n0 c) (x8 (totV r n0 c) (totC r n0 c)) (r == r) (okSz n0 c 1048576) (Bt.okT n0 c) (okV r n0 c) (Bt.okE n0 c)) := by kernel_rfl
  rw [end1 ln0 k0 _ _ _ fun hf => okV_true r hf k0] at h
  refine ⟨_, lawK_ok r n0 c, _, h, ?_⟩
  rw [x8_f]
  simp only [Tr.get, delit, beq_self_eq_true, val1_t]

set_option maxRecDepth 100000 in
theorem lifted (os : Os) (started : os.Started) (H : Type) (enc : TypeId × Value → H) :
    ReturnsInHanded {} Try.checked os 6 .any (Rows.fnExactTotalOfSpec.pre6 enc Try.prog Try.f6 Rows.fnExactTotalOfRow.domain false) (Rows.fnExactTotalOfSpec.post enc Try.prog Try.f6 false true false false) := by
  refine returnsInHanded_of_change (C := Try.checked) sxOwn started (by kernel_rfl) Try.func6
    (ChangeSpec.witness6 (enc := enc) (C := Try.checked) false ⟨#[], #[.agg #[.int .i64 0, .slice none 0 0]], []⟩ 8 (by kernel_rfl) (by kernel_rfl) (by kernel_rfl) (by kernel_rfl)) ?_
  intro W base args ds gs before hval0 hW hcnd _
  have hval : ∀ (j : Nat) t v, Try.f6.params[j]? = some t → args[j]? = some v → Value.okWide Try.prog W .any base t v := hval0
  have hW' := hW
  obtain ⟨p, q, hA0, hV, rfl, hfz, hnd⟩ := hW
  have hA : DataW.TrodAll enc Try.prog W 0 (fun _ => true) true Try.f6.params.toList args.toList ds p := hA0
  rw [Try.params6] at hA hval
  obtain ⟨v0, vs0, d0, ds0, p0, q0, hargs, rfl, rfl, h0, r0⟩ := trodAll_cons hA
  obtain ⟨rfl, rfl, rfl⟩ := trodAll_nil r0
  obtain rfl : args = #[v0] := by cases args; simp_all
  obtain ⟨rfl, rfl⟩ := trodVars_none hV
  have hrel0 : HRel [] [] W := ⟨rfl, fun b x p h => by simp at h, fun b c x y p q _ h => by simp at h⟩
  have hro0 := ro_nil
  obtain ⟨x0, n0, f0, pl0, xk0, ln0, tf0, hr0, ev0⟩ := arg_pairB (t0 := 2) (t1 := 28) (e := 128) (D := 8) (k0 := .int .i64) (ks := [.str, .int .i64, .int .i64, .int .i64, .int .i64, .int .i64, .int .i64, .int .i64, .int .i64]) (hval 0 30 v0 rfl rfl) h0 (by kernel_rfl) (by kernel_rfl) (by kernel_rfl) (by kernel_rfl) (by kernel_rfl) (by kernel_rfl) (by kernel_rfl) (by kernel_rfl) (of_decide_eq_true (by kernel_rfl)) hrel0 hro0
  have hrel1 := HRel.canon hr0 (ro_app hro0) tf0
  have hro1 := ro_app (n := n0) (sz := 9) (f := fun i => canonR [.str, .int .i64, .int .i64, .int .i64, .int .i64, .int .i64, .int .i64, .int .i64, .int .i64] 0 (f0 i)) hro0
  have e0 : VRel [pl0] (.agg [x0, .slc 0 0 n0]) v0 := VRel.ext (fun b p hp => by revert hp; rcases b with _ | _ | _ | _ <;> simp) ev0
  have k0 := h0
  have lt0 : ∀ x ∈ p0, x.block < W.heap.size := by obtain ⟨m, hm⟩ := k0; exact DataW.trod_lt m _ _ _ hm
  have hargs : VRels [pl0] [.agg [x0, .slc 0 0 n0]] [v0] := by
    simp only [VRels]
    exact ⟨v0, _, rfl, e0, rfl⟩
  obtain ⟨lawK, lawK_ok, hlaw⟩ := law x0 xk0 n0 ln0 f0 tf0
  refine (evF_true (K := lawK) (L := noL) (N := lawN) (d := lawD) sxApart sxMixed lawK_ok (fun _ _ _ _ => noL_ok) hlaw hrel1 hro1 hargs).mono fun e W' ⟨he, bel⟩ => ?_
  subst he
  exact ⟨_, rfl, _, _, _, [], _, [], hW', trodAll_mk1 (shut_bool Try.underlying4 _), (trodAll_cons_mk (Below.trod sxLaid (by kernel_rfl) (of_decide_eq_true (by kernel_rfl)) k0 bel lt0) trodAll_mk0), rfl, bel.frame _, fun h => by cases h⟩

theorem over : Rows.fnExactTotalOfRow.holds Try.pinned (OpenSpec.ofChange Rows.fnExactTotalOfSpec) :=
  OpenClaim.holds_of_wide 6 Try.f6 rfl rfl rfl rfl rfl rfl rfl ⟨rfl, rfl, rfl, rfl, rfl⟩ rfl rfl rfl rfl rfl (by kernel_rfl) Try.func6 (by kernel_rfl)
    (of_decide_eq_true (by kernel_rfl)) (by unfold Func.isWrapper; first | (rw [if_pos (by decide +kernel)]; kernel_rfl) | (rw [if_neg (by decide +kernel)]; exact ⟨rfl, rfl⟩))
    (fun os started H enc _ => lifted os started H enc)

/-- The statement. -/
theorem proved : Rows.FnExactTotalOfSaid := over
#print axioms proved
end Go.Proofs.Ytllonddgbjgmdaa.lawTotalOf
