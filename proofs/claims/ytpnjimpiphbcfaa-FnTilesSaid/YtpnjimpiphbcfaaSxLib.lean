/- Summaries of calls at given arguments, and small lemmas for laws. -/
import Derived.Test.YtpnjimpiphbcfaaSxIn
import Derived.Test.YtpnjimpiphbcfaaSxLoop
import Derived.IntWalk
set_option linter.unusedSimpArgs false
set_option linter.unusedVariables false
namespace Go.Sx
open Go.RowKit

noncomputable def deq (a e : List AV) : Bool := @decide (a = e) (Classical.propDecidable _)
theorem deq_self (a : List AV) : deq a a = true := by unfold deq; exact @decide_eq_true _ (Classical.propDecidable _) rfl
theorem deq_eq {a e : List AV} (h : deq a e = true) : a = e := @of_decide_eq_true _ (Classical.propDecidable _) h

noncomputable def deqH (a e : List Blk) : Bool := @decide (a = e) (Classical.propDecidable _)
theorem deqH_self (a : List Blk) : deqH a a = true := by unfold deqH; exact @decide_eq_true _ (Classical.propDecidable _) rfl
theorem deqH_eq {a e : List Blk} (h : deqH a e = true) : a = e := @of_decide_eq_true _ (Classical.propDecidable _) h

/-- a call at given arguments -/
noncomputable def runAt (e : List AV) (T : Tr (AV × Option (List Blk))) (o : Bool) : List AV → List Blk → Option Lf := fun args _ => some (T, andB (deq args e) o)

section
variable {P : Program}

/-- a call whose arguments and result bear no pointers is told with no memory in sight -/
theorem sum_pure0 (hN : NoApart P) (hm : P.follows .mixedOrders = true) {K : CallerT} (hK : CallerTOk P K) {N d : Nat} {f : FuncId}
    {run : List AV → List Blk → Option Lf}
    (h : ∀ args H t, run args H = some (t, true) → allPure1 args = true ∧ t.get.2 = none ∧ t.get.1.pure = true ∧ ∃ L, (∀ fn c, P.funcs[f]? = some fn → fn.body = some c → ∀ body st l, LoopIn body c → L body st = some (l, true) → LoopOk P 0 body st l) ∧
      ∃ T', evF P K L N d f args [] = some (T', true) ∧ delitD T'.get.1 = delitD t.get.1) : SumOk P f run := by
  intro args H t hr F W0 ρ W vals hC hv
  obtain ⟨he, hp1, hp2, L, hL, T', h, hT⟩ := h args H t hr
  have hv0 : VRels ([] : List Place) args vals := allPure1_rel he hv
  have hC0 : Cls (· < W.heap.size) W [] [] W := ⟨⟨rfl, fun b x p h => by simp at h, fun b c x y p q _ h => by simp at h⟩, ⟨rfl, rfl, rfl, Nat.le_refl _, fun _ _ => rfl⟩, fun _ h => h, fun b x p h => by simp at h⟩
  have hb : ∃ fn, P.funcs[f]? = some fn ∧ fn.body.isSome = true := by
    unfold evF at h
    split at h
    · rename_i fn hf
      exact ⟨fn, hf, evFn_body h⟩
    · cases h
  obtain ⟨fn, hf, hb⟩ := hb
  rw [enter_run hN hf hb]
  refine (evF_ok hN hm hK hL h hC0 hv0).mono fun e W' ⟨u, he, ρ', _, hc, hu, _⟩ => ⟨u, he, ρ, Ext.refl ρ, ?_, ?_, ?_⟩
  · simp only [Sx.hp, hp1]
    exact hC.below hc.toBelow
  · exact pure_rel hp2 (delitD_iff.1 (by rw [← hT]; exact delitD_iff.2 hu))
  · simp only [Sx.hp, hp1]
    exact Keep.refl H

theorem sum_pureV (hN : NoApart P) (hm : P.follows .mixedOrders = true) {K : CallerT} (hK : CallerTOk P K) {N d : Nat} {f : FuncId}
    {run : List AV → List Blk → Option Lf}
    (hpu : ∀ args H t, run args H = some (t, true) → allPure1 args = true) (h : ∀ args H t, run args H = some (t, true) → (∃ vals, VRels ([] : List Place) args vals) → allPure1 args = true ∧ t.get.2 = none ∧ t.get.1.pure = true ∧ ∃ L, (∀ fn c, P.funcs[f]? = some fn → fn.body = some c → ∀ body st l, LoopIn body c → L body st = some (l, true) → LoopOk P 0 body st l) ∧
      ∃ T', evF P K L N d f args [] = some (T', true) ∧ delitD T'.get.1 = delitD t.get.1) : SumOk P f run := by
  intro args H t hr F W0 ρ W vals hC hv
  have hpv : ∃ vals, VRels ([] : List Place) args vals := ⟨vals, allPure1_rel (hpu args H t hr) hv⟩
  obtain ⟨he, hp1, hp2, L, hL, T', h, hT⟩ := h args H t hr hpv
  have hv0 : VRels ([] : List Place) args vals := allPure1_rel he hv
  have hC0 : Cls (· < W.heap.size) W [] [] W := ⟨⟨rfl, fun b x p h => by simp at h, fun b c x y p q _ h => by simp at h⟩, ⟨rfl, rfl, rfl, Nat.le_refl _, fun _ _ => rfl⟩, fun _ h => h, fun b x p h => by simp at h⟩
  have hb : ∃ fn, P.funcs[f]? = some fn ∧ fn.body.isSome = true := by
    unfold evF at h
    split at h
    · rename_i fn hf
      exact ⟨fn, hf, evFn_body h⟩
    · cases h
  obtain ⟨fn, hf, hb⟩ := hb
  rw [enter_run hN hf hb]
  refine (evF_ok hN hm hK hL h hC0 hv0).mono fun e W' ⟨u, he, ρ', _, hc, hu, _⟩ => ⟨u, he, ρ, Ext.refl ρ, ?_, ?_, ?_⟩
  · simp only [Sx.hp, hp1]
    exact hC.below hc.toBelow
  · exact pure_rel hp2 (delitD_iff.1 (by rw [← hT]; exact delitD_iff.2 hu))
  · simp only [Sx.hp, hp1]
    exact Keep.refl H

theorem sum_at0 (hN : NoApart P) (hm : P.follows .mixedOrders = true) {K : CallerT} (hK : CallerTOk P K) {L : LoopOr} {N d : Nat} {f : FuncId}
    (hL : ∀ fn c, P.funcs[f]? = some fn → fn.body = some c → ∀ body st l, LoopIn body c → L body st = some (l, true) → LoopOk P 0 body st l) {e : List AV} {T T' : Tr (AV × Option (List Blk))} {o : Bool}
    (h : evF P K L N d f e [] = some (T', o)) (he : allPure1 e = true) (hT : o = true → delitD T'.get.1 = delitD T.get.1) (hp : o = true → T.get.2 = none ∧ T.get.1.pure = true) : SumOk P f (runAt e T o) := by
  refine sum_pure0 hN hm hK (N := N) (d := d) fun args H t hr => ?_
  unfold runAt at hr
  simp only [Option.some.injEq, Prod.mk.injEq] at hr
  obtain ⟨rfl, hr⟩ := hr
  obtain ⟨h1, rfl⟩ := andB_true hr
  have := deq_eq h1
  subst this
  exact ⟨he, (hp rfl).1, (hp rfl).2, L, hL, T', h, hT rfl⟩
end

/-- a call at given arguments and memory -/
noncomputable def runAtH (e : List AV) (H0 : List Blk) (T : Tr (AV × Option (List Blk))) (g : Bool) : List AV → List Blk → Option Lf := fun args H => some (T, andB (deq args e) (andB (deqH H H0) g))
theorem sum_atH {P : Program} (hN : NoApart P) (hm : P.follows .mixedOrders = true) {K : CallerT} (hK : CallerTOk P K) (L : LoopOr) {N d : Nat} {f : FuncId} {e : List AV} {H0 : List Blk} {T : Tr (AV × Option (List Blk))} {g : Bool}
    (h : g = true → LOk P H0.length f L ∧ ∃ T', evF P K L N d f e H0 = some (T', true) ∧ LLe T'.get T.get) : SumOk P f (selRun (runAtH e H0 T g)) := sum_sel hN hm fun args H t hr => by
  unfold runAtH at hr
  simp only [Option.some.injEq, Prod.mk.injEq] at hr
  obtain ⟨rfl, ho⟩ := hr
  obtain ⟨h1, h2, hg⟩ : deq args e = true ∧ deqH H H0 = true ∧ g = true := by
    obtain ⟨h1, h2⟩ := andB_true ho
    obtain ⟨h2, h3⟩ := andB_true h2
    exact ⟨h1, h2, h3⟩
  have h1 := deq_eq h1
  have h2 := deqH_eq h2
  subst h1 h2
  obtain ⟨h3, T', h4, h5⟩ := h hg
  exact ⟨K, L, N, d, T', hK, h3, h4, h5⟩
theorem LLe.of {x y : AV × Option (List Blk)} (h1 : delitD x.1 = delitD y.1) (h2 : x.2 = none) (h3 : y.2 = none) : LLe x y := ⟨h1, by rw [h2, h3]; trivial⟩

-- booleans told as known
def litS : AV → AV
  | .bool b => .lit (.bool b)
  | x => x
def litSL : List AV → List AV
  | [] => []
  | x :: t => litS x :: litSL t
def litB : AV → AV
  | .agg l => .agg (litSL l)
  | x => litS x
def litBL : List AV → List AV
  | [] => []
  | x :: t => litB x :: litBL t
theorem litS_rel {ρ : List Place} {x : AV} {v : Value} (h : VRel ρ x v) : VRel ρ (litS x) v := by
  cases x <;> first | exact h | (simp only [litS, VRel] at *; exact h)
theorem litSL_rel {ρ : List Place} : ∀ {l : List AV} {vs : List Value}, VRels ρ l vs → VRels ρ (litSL l) vs
  | [], _, h => h
  | x :: t, _, h => by
    simp only [VRels, litSL] at *
    obtain ⟨v, u, rfl, h1, h2⟩ := h
    exact ⟨v, u, rfl, litS_rel h1, litSL_rel h2⟩
theorem litB_rel {ρ : List Place} {x : AV} {v : Value} (h : VRel ρ x v) : VRel ρ (litB x) v := by
  cases x with
  | agg l => simp only [litB, VRel] at *; obtain ⟨a, rfl, h⟩ := h; exact ⟨a, rfl, litSL_rel h⟩
  | _ => exact litS_rel h
theorem litBL_rel {ρ : List Place} : ∀ {l : List AV} {vs : List Value}, VRels ρ l vs → VRels ρ (litBL l) vs
  | [], _, h => h
  | x :: t, _, h => by
    simp only [VRels, litBL] at *
    obtain ⟨v, u, rfl, h1, h2⟩ := h
    exact ⟨v, u, rfl, litB_rel h1, litBL_rel h2⟩

section
variable {P : Program}
/-- the same, walked with booleans told as known -/
theorem sum_lit0 (hN : NoApart P) (hm : P.follows .mixedOrders = true) {K : CallerT} (hK : CallerTOk P K) {L : LoopOr} {N d : Nat} {f : FuncId}
    (hL : ∀ fn c, P.funcs[f]? = some fn → fn.body = some c → ∀ body st l, LoopIn body c → L body st = some (l, true) → LoopOk P 0 body st l) {e : List AV} {T T' : Tr (AV × Option (List Blk))} {o : Bool}
    (h : evF P K L N d f (litBL e) [] = some (T', o)) (he : allPure1 e = true) (hT : o = true → delitD T'.get.1 = delitD T.get.1) (hp : o = true → T.get.2 = none ∧ T.get.1.pure = true) : SumOk P f (runAt e T o) := by
  intro args H t hr F W0 ρ W vals hC hv
  unfold runAt at hr
  simp only [Option.some.injEq, Prod.mk.injEq] at hr
  obtain ⟨rfl, hr⟩ := hr
  obtain ⟨h1, rfl⟩ := andB_true hr
  have := deq_eq h1
  subst this
  have hv0 : VRels ([] : List Place) (litBL args) vals := litBL_rel (allPure1_rel he hv)
  have hC0 : Cls (· < W.heap.size) W [] [] W := ⟨⟨rfl, fun b x p h => by simp at h, fun b c x y p q _ h => by simp at h⟩, ⟨rfl, rfl, rfl, Nat.le_refl _, fun _ _ => rfl⟩, fun _ h => h, fun b x p h => by simp at h⟩
  have hb : ∃ fn, P.funcs[f]? = some fn ∧ fn.body.isSome = true := by
    unfold evF at h
    split at h
    · rename_i fn hf
      exact ⟨fn, hf, evFn_body h⟩
    · cases h
  obtain ⟨fn, hf, hb⟩ := hb
  rw [enter_run hN hf hb]
  obtain ⟨hp1, hp2⟩ := hp rfl
  refine (evF_ok hN hm hK hL h hC0 hv0).mono fun e W' ⟨u, he, ρ', _, hc, hu, _⟩ => ⟨u, he, ρ, Ext.refl ρ, ?_, ?_, ?_⟩
  · simp only [Sx.hp, hp1]
    exact hC.below hc.toBelow
  · exact pure_rel hp2 (delitD_iff.1 (by rw [← hT rfl]; exact delitD_iff.2 hu))
  · simp only [Sx.hp, hp1]
    exact Keep.refl H
end

/-- a call at given arguments and memory, walked with booleans told as known -/
theorem sum_atHl {P : Program} (hN : NoApart P) (hm : P.follows .mixedOrders = true) {K : CallerT} (hK : CallerTOk P K) (L : LoopOr) {N d : Nat} {f : FuncId} {e : List AV} {H0 : List Blk} {T : Tr (AV × Option (List Blk))} {g : Bool}
    (h : g = true → LOk P H0.length f L ∧ ∃ T', evF P K L N d f (litBL e) H0 = some (T', true) ∧ LLe T'.get T.get) : SumOk P f (selRun (runAtH e H0 T g)) := sum_selG hN hm fun args H t hr _ => by
  unfold runAtH at hr
  simp only [Option.some.injEq, Prod.mk.injEq] at hr
  obtain ⟨rfl, ho⟩ := hr
  obtain ⟨h1, h2, hg⟩ : deq args e = true ∧ deqH H H0 = true ∧ g = true := by
    obtain ⟨h1, h2⟩ := andB_true ho
    obtain ⟨h2, h3⟩ := andB_true h2
    exact ⟨h1, h2, h3⟩
  have h1 := deq_eq h1
  have h2 := deqH_eq h2
  subst h1 h2
  obtain ⟨h3, T', h4, h5⟩ := h hg
  exact ⟨K, L, N, d, T', litBL args, hK, h3, fun _ _ h => litBL_rel h, h4, h5⟩

-- integers in range
theorem wrap_i16 {n : Int} (h0 : -32768 ≤ n) (h1 : n ≤ 32767) : IntKind.i16.wrap n = n := IntWalk.i16_in n ⟨h0, h1⟩
theorem wrap_i32 {n : Int} (h0 : -2147483648 ≤ n) (h1 : n ≤ 2147483647) : IntKind.i32.wrap n = n := IntWalk.i32_in n ⟨h0, h1⟩
theorem wrap_i64 {n : Int} (h0 : -9223372036854775808 ≤ n) (h1 : n ≤ 9223372036854775807) : IntKind.i64.wrap n = n := IntWalk.i64_in n ⟨h0, h1⟩

end Go.Sx
