/- Small facts on rounds and rows. -/
import Derived.Test.YtpnjimpiphbcfaaSxK2
import Derived.Test.YtpnjimpiphbcfaaSxLoopA
import Derived.Test.YtpnjimpiphbcfaaSxSelM
import Derived.Test.YtpnjimpiphbcfaaSxFc
set_option linter.unusedVariables false
set_option linter.unusedSimpArgs false
namespace Go.Sx.R0
open Go.Sx Go.RowKit
theorem blt_lt {i k : Nat} (h : i < k) : Nat.blt i k = true := by simpa [Nat.blt_eq] using h
theorem blt_ge {i k : Nat} (h : k ≤ i) : Nat.blt i k = false := by
  cases hb : Nat.blt i k with
  | false => rfl
  | true => rw [Nat.blt_eq] at hb; omega
theorem beq_ne {i k : Nat} (h : i ≠ k) : Nat.beq i k = false := by
  cases hb : Nat.beq i k with
  | false => rfl
  | true => exact absurd (Nat.eq_of_beq_eq_true hb) h
theorem ofNat_lt {k n : Nat} : decide (Int.ofNat k < (n : Int)) = decide (k < n) := by simp
theorem inB_nat {k n : Nat} (h : k < n) : inB (Int.ofNat k) n = true := by simp [inB, h]
theorem col {α : Type} (i k : Nat) (f : Nat → α) (z : α) : cond (Nat.beq i k) (f k) (cond (Nat.blt i k) (f i) z) = cond (Nat.blt i (k + 1)) (f i) z := by
  by_cases h : i = k
  · subst h; simp [blt_lt (Nat.lt_succ_self i)]
  · rw [beq_ne h]
    by_cases h2 : i < k
    · rw [blt_lt h2, blt_lt (show i < k + 1 by omega)]; rfl
    · rw [blt_ge (show k ≤ i by omega), blt_ge (show k + 1 ≤ i by omega)]; rfl
theorem ob2_f (x : Bool) : ob2 false x true = true := by cases x <;> rfl
theorem imp_ff (x : Bool) : andB (impB false x) true = true := by cases x <;> rfl
noncomputable def pB (p : Prop) : Bool := @decide p (Classical.propDecidable _)
theorem pB_true {p : Prop} (h : p) : pB p = true := @decide_eq_true _ (Classical.propDecidable _) h
theorem pB_of {p : Prop} (h : pB p = true) : p := @of_decide_eq_true _ (Classical.propDecidable _) h
theorem imp_f (x : Bool) : impB false x = true := by cases x <;> rfl
theorem imp_t {a b : Bool} (h : b = true) : impB a b = true := by subst h; rfl
theorem typed_get : ∀ {ks : List LK} {l : List AV}, Typed ks l → ∀ (i : Nat) (k : LK), ks[i]? = some k → k.has (gt l i)
  | k :: ks, l, h, i, k', hk => by
    obtain ⟨x, t, rfl, hx, ht⟩ := h
    cases i with
    | zero => simp at hk; subst hk; exact hx
    | succ i => exact typed_get ht i k' (by simpa using hk)
  | [], _, _, i, _, hk => by simp at hk
/-- a contract at arguments, told as known or not -/
noncomputable def runAtD (e : List AV) (H0 : List Blk) (T : Tr (AV × Option (List Blk))) (g : Bool) : List AV → List Blk → Option Lf := fun args H => some (T, andB (deq (args.map delit) e) (andB (deqH H H0) g))
theorem delits_rel {ρ : List Sx.Place} : ∀ {l : List AV} {vs : List Value}, VRels ρ l vs → VRels ρ (l.map delit) vs
  | [], vs, h => h
  | x :: t, vs, h => by
    simp only [VRels] at h
    obtain ⟨v, u, rfl, h1, h2⟩ := h
    simp only [List.map_cons, VRels]
    exact ⟨v, u, rfl, delit_rel h1, delits_rel h2⟩
theorem sum_atD {P : Program} (hN : NoApart P) (hm : P.follows .mixedOrders = true) {K : CallerT} (hK : CallerTOk P K) (L : LoopOr) {N d : Nat} {f : FuncId} {e : List AV} {H0 : List Blk} {T : Tr (AV × Option (List Blk))} {g : Bool}
    (h : g = true → LOk P H0.length f L ∧ ∃ T', evF P K L N d f e H0 = some (T', true) ∧ LLe T'.get T.get) : SumOk P f (selRun (runAtD e H0 T g)) := sum_selG hN hm fun args H t hr _ => by
  unfold runAtD at hr
  simp only [Option.some.injEq, Prod.mk.injEq] at hr
  obtain ⟨rfl, ho⟩ := hr
  obtain ⟨h1, ho⟩ := andB_true ho
  obtain ⟨h2, hg⟩ := andB_true ho
  have h1 := deq_eq h1
  have h2 := deqH_eq h2
  subst h2
  obtain ⟨hL, T', hT, hl⟩ := h hg
  exact ⟨K, L, N, d, T', e, hK, hL, fun ρ vals hv => by rw [← h1]; exact delits_rel hv, hT, hl⟩
/-- a contract for a family of arguments -/
noncomputable def famK {X : Type} (sel : List AV → Option X) (run : X → List AV → List Blk → Option Lf) : List AV → List Blk → Option Lf := fun a H => match sel a with | some x => run x a H | none => none
theorem famK_ok {P : Program} {f : FuncId} {X : Type} {sel : List AV → Option X} {run : X → List AV → List Blk → Option Lf} (h : ∀ x, SumOk P f (run x)) : SumOk P f (famK sel run) := fun args H t hr => by
  unfold famK at hr
  split at hr
  · exact h _ _ _ _ hr
  · cases hr
theorem _root_.Go.Sx.LoopOk.less {P : Program} {B B' : Nat} {body : Code} {st : St} {t : Tr (AX × St)} (h : LoopOk P B body st t) (hb : B' ≤ B) (hl : B ≤ st.heap.length) : LoopOk P B' body st t := fun F W0 ρ a W hr => by
  refine wp_mono (h F W0 ρ a W ⟨hr.s, hr.d, hr.c, hl⟩) ?_
  rintro e a' W' ⟨ρ', h1, h2, h3⟩
  exact ⟨ρ', h1, fun b p hb' hp => h2 b p (by omega) hp, ⟨h3.s, h3.d, h3.c, Nat.le_trans hb h3.hB⟩⟩
theorem upd_at {f : Nat → List AV} {k : Nat} {l : List AV} : upd f k l k = mRow true l (f k) := by unfold upd; simp
theorem upd_ne {f : Nat → List AV} {i k : Nat} {l : List AV} (h : i ≠ k) : upd f k l i = mRow false l (f i) := by unfold upd; rw [beq_ne h]
theorem i64_small {x : Int} (h0 : 0 ≤ x) (h1 : x ≤ 4611686018427387904) : IntKind.i64.wrap x = x := wrap_i64 (by omega) (by omega)
theorem loopIn_of : ∀ {c b' b : Code}, b' ∈ loopsOf c → LoopIn b b' → LoopIn b c
  | .seq x y, b', b, hm, h => by
    simp only [loopsOf, List.mem_append] at hm
    rcases hm with hm | hm
    · exact .inl (loopIn_of hm h)
    · exact .inr (loopIn_of hm h)
  | .cond _ x y, b', b, hm, h => by
    simp only [loopsOf, List.mem_append] at hm
    rcases hm with hm | hm
    · exact .inl (loopIn_of hm h)
    · exact .inr (loopIn_of hm h)
  | .block _ c, b', b, hm, h => loopIn_of (c := c) hm h
  | .scope c, b', b, hm, h => loopIn_of (c := c) hm h
  | .loop c, b', b, hm, h => by
    simp only [loopsOf, List.mem_cons] at hm
    rcases hm with rfl | hm
    · exact .inr h
    · exact .inr (loopIn_of hm h)
  | .skip, b', b, hm, h => by simp [loopsOf] at hm
  | .region .., b', b, hm, h => by simp [loopsOf] at hm
  | .exit _, b', b, hm, h => by simp [loopsOf] at hm
  | .label _, b', b, hm, h => by simp [loopsOf] at hm
  | .ret, b', b, hm, h => by simp [loopsOf] at hm
  | .rangeFunc .., b', b, hm, h => by simp [loopsOf] at hm
  | .goto _, b', b, hm, h => by simp [loopsOf] at hm
  | .refuse _, b', b, hm, h => by simp [loopsOf] at hm
/-- what an oracle says of a function's loops holds within one of them -/
theorem inner_ok {P : Program} {B : Nat} {f : FuncId} {L : LoopOr} (h : LOk P B f L) (id : Nat) : ∀ b st l, LoopIn b (loopN P f id) → L b st = some (l, true) → LoopOk P B b st l := fun b st l hin hl => by
  unfold loopN at hin
  cases hfd : (loopsOf (bodyOf P f)).find? fun c => Nat.beq (loopId c) id with
  | none => rw [hfd] at hin; exact hin.elim
  | some c' =>
    rw [hfd] at hin
    have hm := List.mem_of_find?_eq_some hfd
    have hin2 := loopIn_of hm hin
    cases hf : P.funcs[f]? with
    | none => unfold bodyOf at hin2; rw [hf] at hin2; exact hin2.elim
    | some fn =>
      cases hc : fn.body with
      | none => unfold bodyOf at hin2; rw [hf] at hin2; simp only at hin2; rw [hc] at hin2; exact hin2.elim
      | some c =>
        have e : bodyOf P f = c := by unfold bodyOf; rw [hf]; simp only; rw [hc]
        rw [e] at hin2
        exact h fn c hf hc b st l hin2 hl
/-- a loop over rounds that may end early, by what one round comes to -/
theorem loopF {P : Program} {call : CallerT} (hcall : CallerTOk P call) (hm : P.follows .mixedOrders = true) {body : Code} {N : Nat} {B : Nat} (ws we : List Nat) (pn pe : Option (List Nat)) (S S' : Nat → St) (n : Nat) (hn : n ≤ 9223372036854775807) (bad : Nat → Bool) (early : Nat → AX × St) (exit : AX × St) (ob : Nat → Bool)
    (h1 : ∀ k, (early k).1 ≠ .nrm) (h2 : exit.1 ≠ .nrm)
    (step : ∀ k, evC JS P call noL N body (S k) (kG B ws we pn pe) = some (.node (decide (Int.ofNat k < (n : Int))) (.node (bad k) (.leaf (early k)) (.leaf (.nrm, S' k))) (.leaf exit), andB (impB (decide (Int.ofNat k < (n : Int))) (ob k)) true))
    (hob : ∀ k, k < n → ob k = true) (hS : ∀ k, k < n → bad k = false → IntKind.i64.wrap (Int.ofNat k + 1) = Int.ofNat (k + 1) → SLe (S' k) (S (k + 1))) : LoopOk P B body (S 0) (.node (allB n fun k => !bad k) (.leaf exit) (.leaf (early (fb (fun k => !bad k) n)))) := by
  refine loop_forE hcall hm (N := N) (L := noL) (fun _ _ _ _ h => by cases h) ws we pn pe S n (fun k => !bad k) early exit h1 h2 (fun k hk _ => ?_) fun _ => ?_
  · refine ⟨_, by rw [step, ofNat_lt, hob k hk, decide_eq_true hk]; rfl, fun hp => ?_, fun hp => ?_⟩
    · have hp : bad k = false := by simpa using hp
      rw [hp]
      exact ⟨rfl, hS k hk hp (wrap_i64 (by simp only [Int.ofNat_eq_natCast]; omega) (by simp only [Int.ofNat_eq_natCast]; omega))⟩
    · have hp : bad k = true := by simpa using hp
      rw [hp]
      exact XLe.refl _
  · exact ⟨_, by rw [step, ofNat_lt, decide_eq_false (Nat.lt_irrefl n), imp_ff], XLe.refl _⟩
/-- which of two, by the block -/
noncomputable def byB (p : Nat → Bool) (r1 r2 : List AV → List Blk → Option Lf) : List AV → List Blk → Option Lf := fun a H => match a with | .slc b _ _ :: _ => bif p b then r1 a H else r2 a H | _ => r2 a H
theorem byB_ok {P : Program} {f : FuncId} {p : Nat → Bool} {r1 r2 : List AV → List Blk → Option Lf} (h1 : SumOk P f r1) (h2 : SumOk P f r2) : SumOk P f (byB p r1 r2) := fun args H t hr => by
  unfold byB at hr
  split at hr
  · rename_i b x y z
    cases hp : p b with
    | true => rw [hp] at hr; exact h1 _ _ _ hr
    | false => rw [hp] at hr; exact h2 _ _ _ hr
  · exact h2 _ _ _ hr
theorem few_eq : few = 1099511627776 := rfl
end Go.Sx.R0
