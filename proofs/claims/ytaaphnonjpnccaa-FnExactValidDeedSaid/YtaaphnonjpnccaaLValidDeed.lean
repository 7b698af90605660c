/- The law 'FnExactValidDeed': the program's ValidDeed returns what the reference's returns, for all arguments; no condition. -/
import Derived.Test.YtaaphnonjpnccaaRows
import Derived.WalkKit
import Derived.ProofKit
import Derived.OpenShut
import Derived.ChangeOld
import Derived.Below
import Derived.Test.YtaaphnonjpnccaaSxK2
import Derived.Test.YtaaphnonjpnccaaSxFr
import Derived.Test.YtaaphnonjpnccaaSxK2
import Derived.Test.YtaaphnonjpnccaaSxLib
namespace Go.Proofs.Ytaaphnonjpnccaa.lawValidDeed
open Go.ChangeShapes Go.WideShapes Go.ChangeAt Go.RowKit Go.Sx
set_option linter.unusedVariables false
set_option linter.unusedSimpArgs false
set_option maxRecDepth 100000
def lawN : Nat := 20
def lawD : Nat := 8


def inA (a : Int) : Bool := cond (decide (a ≥ 0)) (decide (a ≤ 999)) false
def VS (n : Nat) (a : Int) : Bool := cond (!inA a) false (cond (Nat.blt n 5) true (a == 0))
def VI (k a : Int) : Bool := cond (cond (cond (decide (1 ≤ k)) (decide (k ≤ 6)) false) (cond (decide (0 ≤ a)) (decide (a ≤ 999)) false) false) (cond (decide (k < 5)) true (a == 0)) false
def aD (k a : Int) : List AV := [.agg [.int .i64 k, .int .i64 a]]
theorem s1 (a : Int) : evF Try.prog extK noL lawN lawD 5 (aD 1 a) [] = some (.leaf (.bool (VS 1 a), none), true) := by kernel_rfl
theorem s2 (a : Int) : evF Try.prog extK noL lawN lawD 5 (aD 2 a) [] = some (.leaf (.bool (VS 2 a), none), true) := by kernel_rfl
theorem s3 (a : Int) : evF Try.prog extK noL lawN lawD 5 (aD 3 a) [] = some (.leaf (.bool (VS 3 a), none), true) := by kernel_rfl
theorem s4 (a : Int) : evF Try.prog extK noL lawN lawD 5 (aD 4 a) [] = some (.leaf (.bool (VS 4 a), none), true) := by kernel_rfl
theorem s5 (a : Int) : evF Try.prog extK noL lawN lawD 5 (aD 5 a) [] = some (.leaf (.bool (VS 5 a), none), true) := by kernel_rfl
theorem s6 (a : Int) : evF Try.prog extK noL lawN lawD 5 (aD 6 a) [] = some (.leaf (.bool (VS 6 a), none), true) := by kernel_rfl
theorem hI (k a : Int) : evF Try.prog extK noL lawN lawD 7 (aD k a) [] = some (.leaf (.bool (VI k a), none), true) := by kernel_rfl
-- where the kind is none
def runIn (k : Int) : List AV → List Blk → Option Lf := fun args _ => match args with
  | [.int .i64 x, .lit (.int .i64 1), .lit (.int .i64 6)] => some (.leaf (.lit (.bool false), none), x == k)
  | _ => none
theorem inS {k : Int} (h : (cond (decide (k ≥ 1)) (decide (k ≤ 6)) false) = false) : SumOk Try.prog 36 (runIn k) := by
  have h1 : evF Try.prog extK noL lawN lawD 36 [.int .i64 k, .lit (.int .i64 1), .lit (.int .i64 6)] [] = some (.leaf (.bool (cond (decide (k ≥ 1)) (decide (k ≤ 6)) false), none), true) := by kernel_rfl
  rw [h] at h1
  refine sum_pure0 sxApart sxMixed extK_ok (N := lawN) (d := lawD) fun args H t hr => ?_
  unfold runIn at hr
  split at hr
  · rename_i x
    simp only [Option.some.injEq, Prod.mk.injEq, beq_iff_eq] at hr
    obtain ⟨rfl, rfl⟩ := hr
    exact ⟨rfl, rfl, rfl, noL, fun _ _ _ _ => noL_ok, _, h1, rfl⟩
  · cases hr
theorem hO (k a : Int) : evF Try.prog (addK 36 (runIn k) extK) noL lawN lawD 5 (aD k a) [] = some (.leaf (.lit (.bool false), none), andB (andB (k == k) true) true) := by kernel_rfl

theorem eqV (n : Nat) (h1 : 1 ≤ n) (h2 : n ≤ 6) (a : Int) : VI (n : Int) a = VS n a := by
  unfold VI VS inA
  rw [decide_eq_true (show (1 : Int) ≤ n by omega), decide_eq_true (show (n : Int) ≤ 6 by omega)]
  have e : decide ((n : Int) < 5) = Nat.blt n 5 := by
    by_cases h : n < 5
    · rw [decide_eq_true (show (n : Int) < 5 by omega), show Nat.blt n 5 = true by rw [Nat.blt_eq]; exact h]
    · rw [decide_eq_false (show ¬ (n : Int) < 5 by omega)]
      cases hb : Nat.blt n 5 with
      | false => rfl
      | true => rw [Nat.blt_eq] at hb; omega
  rw [e]
  cases decide (0 ≤ a) <;> cases decide (a ≤ 999) <;> rfl
theorem done (k a : Int) (b : Bool) (kS : SumOk Try.prog 5 (runAt (aD k a) (.leaf (.bool b, none)) true)) (kI : SumOk Try.prog 7 (runAt (aD k a) (.leaf (.bool b, none)) true)) :
    ∃ K, CallerTOk Try.prog K ∧ ∃ t, evF Try.prog K noL lawN lawD 3 (aD k a) [] = some (t, true) ∧ delit t.get.1 = .bool true := by
  refine ⟨addK 5 _ (addK 7 _ extK), addK_ok kS (addK_ok kI extK_ok), .leaf (.bool (cond (b != b) false true), none), ?_, ?_⟩
  · have h : evF Try.prog (addK 5 (runAt (aD k a) (.leaf (.bool b, none)) true) (addK 7 (runAt (aD k a) (.leaf (.bool b, none)) true) extK)) noL lawN lawD 3 (aD k a) [] = some (.leaf (.bool (cond (b != b) false true), none), andB (andB (deq (aD k a) (aD k a)) true) (andB (andB (deq (aD k a) (aD k a)) true) true)) := by kernel_rfl
    rw [deq_self] at h
    exact h
  · simp [Tr.get, delit]
theorem law (l0 : List AV) (t0 : Typed (List.replicate 2 (.int .i64)) l0) :
    ∃ K, CallerTOk Try.prog K ∧ ∃ t, evF Try.prog K noL lawN lawD 3 [.agg l0] [] = some (t, true) ∧ delit t.get.1 = .bool true := by
  obtain ⟨_, _, rfl, ⟨x0, rfl, x0L, x0U⟩, t0⟩ := t0
  obtain ⟨_, _, rfl, ⟨x1, rfl, x1L, x1U⟩, t0⟩ := t0
  have t0 := (t0 : _ = [])
  subst t0
  show ∃ K, CallerTOk Try.prog K ∧ ∃ t, evF Try.prog K noL lawN lawD 3 (aD x0 x1) [] = some (t, true) ∧ delit t.get.1 = .bool true
  have kI := sum_at0 (L := noL) sxApart sxMixed extK_ok (fun _ _ _ _ => noL_ok) (hI x0 x1) (by kernel_rfl) (T := .leaf (.bool (VI x0 x1), none)) (fun _ => rfl) (fun _ => ⟨rfl, rfl⟩)
  by_cases hk : 1 ≤ x0 ∧ x0 ≤ 6
  · have key : ∀ n : Nat, 1 ≤ n → n ≤ 6 → x0 = (n : Int) → evF Try.prog extK noL lawN lawD 5 (aD x0 x1) [] = some (.leaf (.bool (VS n x1), none), true) → ∃ K, CallerTOk Try.prog K ∧ ∃ t, evF Try.prog K noL lawN lawD 3 (aD x0 x1) [] = some (t, true) ∧ delit t.get.1 = .bool true := fun n h1 h2 h3 hS => by
      have kS := sum_at0 (L := noL) sxApart sxMixed extK_ok (fun _ _ _ _ => noL_ok) hS (by kernel_rfl) (T := .leaf (.bool (VI x0 x1), none)) (fun _ => by rw [h3, eqV n h1 h2]) (fun _ => ⟨rfl, rfl⟩)
      exact done x0 x1 _ kS kI
    have : x0 = 1 ∨ x0 = 2 ∨ x0 = 3 ∨ x0 = 4 ∨ x0 = 5 ∨ x0 = 6 := by omega
    rcases this with rfl | rfl | rfl | rfl | rfl | rfl
    · exact key 1 (by omega) (by omega) rfl (s1 x1)
    · exact key 2 (by omega) (by omega) rfl (s2 x1)
    · exact key 3 (by omega) (by omega) rfl (s3 x1)
    · exact key 4 (by omega) (by omega) rfl (s4 x1)
    · exact key 5 (by omega) (by omega) rfl (s5 x1)
    · exact key 6 (by omega) (by omega) rfl (s6 x1)
  · have hb : (cond (decide (x0 ≥ 1)) (decide (x0 ≤ 6)) false) = false := by
      cases h : decide (x0 ≥ 1) with
      | false => rfl
      | true => have := of_decide_eq_true h; exact decide_eq_false (by omega)
    have hO := hO x0 x1
    rw [show (x0 == x0) = true by simp] at hO
    have hV : VI x0 x1 = false := by
      unfold VI
      rw [show (cond (decide (1 ≤ x0)) (decide (x0 ≤ 6)) false) = false from hb]
      rfl
    have kS := sum_at0 (L := noL) sxApart sxMixed (addK_ok (inS hb) extK_ok) (fun _ _ _ _ => noL_ok) hO (by kernel_rfl) (T := .leaf (.bool (VI x0 x1), none)) (fun _ => by rw [hV]; rfl) (fun _ => ⟨rfl, rfl⟩)
    exact done x0 x1 _ kS kI

set_option maxRecDepth 100000 in
theorem lifted (os : Os) (started : os.Started) (H : Type) (enc : TypeId × Value → H) :
    ReturnsInHanded {} Try.checked os 3 .any (Rows.fnExactValidDeedSpec.pre6 enc Try.prog Try.f3 Rows.fnExactValidDeedRow.domain false) (Rows.fnExactValidDeedSpec.post enc Try.prog Try.f3 false true false false) := by
  refine returnsInHanded_of_change (C := Try.checked) sxOwn started (by kernel_rfl) Try.func3
    (ChangeSpec.witness6 (enc := enc) (C := Try.checked) false ⟨#[], #[.agg #[.int .i64 0, .int .i64 0]], []⟩ 8 (by kernel_rfl) (by kernel_rfl) (by kernel_rfl) (by kernel_rfl)) ?_
  intro W base args ds gs before hval0 hW hcnd _
  have hval : ∀ (j : Nat) t v, Try.f3.params[j]? = some t → args[j]? = some v → Value.okWide Try.prog W .any base t v := hval0
  have hW' := hW
  obtain ⟨p, q, hA0, hV, rfl, hfz, hnd⟩ := hW
  have hA : DataW.TrodAll enc Try.prog W 0 (fun _ => true) true Try.f3.params.toList args.toList ds p := hA0
  rw [Try.params3] at hA hval
  obtain ⟨v0, vs0, d0, ds0, p0, q0, hargs, rfl, rfl, h0, r0⟩ := trodAll_cons hA
  obtain ⟨rfl, rfl, rfl⟩ := trodAll_nil r0
  obtain rfl : args = #[v0] := by cases args; simp_all
  obtain ⟨rfl, rfl⟩ := trodVars_none hV
  have hrel0 : HRel [] [] W := ⟨rfl, fun b x p h => by simp at h, fun b c x y p q _ h => by simp at h⟩
  have hro0 := ro_nil
  obtain ⟨l0, t0, e0⟩ := arg_agg (ρ := []) (ts := [2, 2]) (ks := [.int .i64, .int .i64]) (hval 0 23 v0 rfl rfl) (by kernel_rfl) (by kernel_rfl) (by kernel_rfl) (by kernel_rfl)
  have k0 := h0
  have lt0 : ∀ x ∈ p0, x.block < W.heap.size := by obtain ⟨m, hm⟩ := k0; exact DataW.trod_lt m _ _ _ hm
  have hargs : VRels [] [.agg l0] [v0] := by
    simp only [VRels]
    exact ⟨v0, _, rfl, e0, rfl⟩
  obtain ⟨lawK, lawK_ok, hlaw⟩ := law l0 t0
  refine (evF_true (K := lawK) (L := noL) (N := lawN) (d := lawD) sxApart sxMixed lawK_ok (fun _ _ _ _ => noL_ok) hlaw hrel0 hro0 hargs).mono fun e W' ⟨he, bel⟩ => ?_
  subst he
  exact ⟨_, rfl, _, _, _, [], _, [], hW', trodAll_mk1 (shut_bool Try.underlying4 _), (trodAll_cons_mk (Below.trod sxLaid (by kernel_rfl) (of_decide_eq_true (by kernel_rfl)) k0 bel lt0) trodAll_mk0), rfl, bel.frame _, fun h => by cases h⟩

theorem over : Rows.fnExactValidDeedRow.holds Try.pinned (OpenSpec.ofChange Rows.fnExactValidDeedSpec) :=
  OpenClaim.holds_of_wide 3 Try.f3 rfl rfl rfl rfl rfl rfl rfl ⟨rfl, rfl, rfl, rfl, rfl⟩ rfl rfl rfl rfl rfl (by kernel_rfl) Try.func3 (by kernel_rfl)
    (of_decide_eq_true (by kernel_rfl)) (by unfold Func.isWrapper; first | (rw [if_pos (by decide +kernel)]; kernel_rfl) | (rw [if_neg (by decide +kernel)]; exact ⟨rfl, rfl⟩))
    (fun os started H enc _ => lifted os started H enc)

/-- The statement. -/
theorem proved : Rows.FnExactValidDeedSaid := over
#print axioms proved
end Go.Proofs.Ytaaphnonjpnccaa.lawValidDeed
