/- The executor is sound: calls, tables of calls, summaries. -/
import Derived.Test.YtpnjimpiphbcfaaSxCode
set_option linter.unusedSimpArgs false
set_option linter.unusedVariables false
namespace Go.Sx
open Go.RowKit

/-- the same, whether known or not -/
def sameX (x y : AV × Option (List Blk)) : Prop := delit x.1 = delit y.1 ∧ x.2 = y.2
theorem delit_delit2 {b : Bool} {v w u : AV} (h : mS b (delit v) (delit w) = some u) : delit u = bif b then delit v else delit w := by
  have hu := mS_rel (ρ := []) h
  subst hu
  unfold mS at h
  split at h
  · rename_i x y hx hy; rw [hx, hy]; cases b <;> rfl
  · rename_i k x k' y hx hy; rw [hx, hy]; cases b <;> rfl
  · rename_i k x k' y hx hy; rw [hx, hy]; cases b <;> rfl
  · rename_i x y hx hy; rw [hx, hy]; cases b <;> rfl
  · cases h

theorem joinT_get {b : Bool} {t1 t2 : Tr (AV × Option (List Blk))} : sameX (joinT b t1 t2).get (bif b then t1.get else t2.get) := by
  unfold joinT
  split
  · split
    · rename_i u hu
      have := delit_delit2 hu
      cases b <;> exact ⟨by simpa [Tr.get] using this, rfl⟩
    · cases b <;> exact ⟨rfl, rfl⟩
  · cases b <;> exact ⟨rfl, rfl⟩

def okL (r : Lf) : Prop := r.2 = true
def leL (r r' : Lf) : Prop := sameX r.1.get r'.1.get
theorem JL_ok : JOk JL okL leL where
  refl _ := ⟨rfl, rfl⟩
  trans h k := ⟨h.1.trans k.1, h.2.trans k.2⟩
  brT {x y r} h ho := by
    simp only [JL] at h
    split at h
    · rename_i t1 o1 t2 o2
      simp only [Option.some.injEq] at h
      subst h
      exact ⟨_, rfl, (ob2_true ho).1 rfl, joinT_get⟩
    · cases h
  brF {x y r} h ho := by
    simp only [JL] at h
    split at h
    · rename_i t1 o1 t2 o2
      simp only [Option.some.injEq] at h
      subst h
      exact ⟨_, rfl, (ob2_true ho).2 rfl, joinT_get⟩
    · cases h
  ob {b x r} h ho := by
    simp only [JL] at h
    split at h
    · rename_i t o
      simp only [Option.some.injEq] at h
      subst h
      obtain ⟨h1, h2⟩ := andB_true ho
      exact ⟨h1, _, rfl, h2, rfl, rfl⟩
    · cases h

def okS (r : Ls) : Prop := r.2 = true
def leS (r r' : Ls) : Prop := r.1.get = r'.1.get
theorem JS_ok : JOk JS okS leS where
  refl _ := rfl
  trans h k := Eq.trans h k
  brT {x y r} h ho := by
    simp only [JS] at h
    split at h
    · rename_i t1 o1 t2 o2
      simp only [Option.some.injEq] at h
      subst h
      exact ⟨_, rfl, (ob2_true ho).1 rfl, rfl⟩
    · cases h
  brF {x y r} h ho := by
    simp only [JS] at h
    split at h
    · rename_i t1 o1 t2 o2
      simp only [Option.some.injEq] at h
      subst h
      exact ⟨_, rfl, (ob2_true ho).2 rfl, rfl⟩
    · cases h
  ob {b x r} h ho := by
    simp only [JS] at h
    split at h
    · rename_i t o
      simp only [Option.some.injEq] at h
      subst h
      obtain ⟨h1, h2⟩ := andB_true ho
      exact ⟨h1, _, rfl, h2, rfl⟩
    · cases h

section
variable {P : Program}

theorem evFn_ok {call : CallerT} (hcall : CallerTOk P call) (hm : P.follows .mixedOrders = true) {L : LoopOr} {N : Nat} {f : FuncId} {fn : Func} (hf : P.funcs[f]? = some fn) {args : List AV} {H : List Blk}
    (hL : ∀ c, fn.body = some c → ∀ body st l, LoopIn body c → L body st = some (l, true) → LoopOk P H.length body st l) {t : Tr (AV × Option (List Blk))}
    (h : evFn P call L N fn args H = some (t, true)) {F : Nat → Prop} {W0 : World} {ρ : List Place} {vals : List Value} {W : World} (hC : Cls F W0 ρ H W) (hargs : VRels ρ args vals) :
    Calls P f vals.toArray W (fun e W' => ∃ u, e = .returned u ∧ ∃ ρ', Ext ρ ρ' ∧ Cls F W0 ρ' (hp H t.get) W' ∧ VRel ρ' t.get.1 u ∧ Keep H (hp H t.get)) := by
  unfold evFn at h
  split at h
  · cases h
  · rename_i c hc
    refine calls_of_wp hf hc ?_
    refine wp_mono (evC_ok (B := H.length) hcall hm JL_ok c (hL c hc) _ _ _ h rfl ρ _ W ⟨SRel.start hargs fn.ntmps, rfl, hC.roOf, by simp [roH_len]⟩) ?_
    rintro e a' W' ⟨ax, st', ρ', r', rfl, hk, ho, hle, he, hr'⟩
    have hbel : Below W.heap.size W W' := hr'.c.toBelow
    have fin : ∀ (o : Option Lf), o = some r' → (match results1 P fn st' with
        | some (v, ob) => bif v.pure then some (.leaf (v, none), ob) else
            bif allFresh (dropH H st'.heap) then some (.leaf (v, some (appH H (dropH H st'.heap))), ob) else none
        | none => none) = o → ∃ u, (results fn a'.tmps).run P W' = .ok u W' ∧ ∃ ρ', Ext ρ ρ' ∧ Cls F W0 ρ' (hp H t.get) W' ∧ VRel ρ' t.get.1 u ∧ Keep H (hp H t.get) := by
      intro o ho' hk
      subst ho'
      obtain ⟨tr, ob⟩ := r'
      simp only [okL] at ho
      subst ho
      simp only [leL] at hle
      split at hk
      · rename_i v ob hv
        cases hpure : v.pure with
        | true =>
          rw [hpure] at hk
          simp only [cond_true, Option.some.injEq, Prod.mk.injEq] at hk
          obtain ⟨rfl, rfl⟩ := hk
          obtain ⟨u, hu, hur⟩ := results_run (P := P) hr' hv
          have hl2 : t.get.2 = none := hle.2
          refine ⟨u, hu, ρ, Ext.refl ρ, ?_, ?_, ?_⟩
          · simp only [hp, hl2]; exact hC.below hbel
          · exact delit_iff.1 (by rw [hle.1]; exact delit_rel (pure_rel hpure hur))
          · simp only [hp, hl2]; exact Keep.refl H
        | false =>
          rw [hpure] at hk
          simp only [cond_false] at hk
          obtain ⟨hfr, hk⟩ := cond_some hk
          simp only [Option.some.injEq, Prod.mk.injEq] at hk
          obtain ⟨rfl, rfl⟩ := hk
          obtain ⟨u, hu, hur⟩ := results_run (P := P) hr' hv
          rw [dropH_eq] at hfr
          obtain ⟨g1, g2⟩ := hC.grow hr'.c he hr'.hB hfr
          have hl2 : t.get.2 = some (appH H (dropH H st'.heap)) := hle.2
          refine ⟨u, hu, ρ', g1, ?_, ?_, ?_⟩
          · simp only [hp, hl2, appH_eq, dropH_eq]; exact g2
          · exact delit_iff.1 (by rw [hle.1]; exact delit_rel hur)
          · simp only [hp, hl2, appH_eq, dropH_eq]; exact Keep.append H _
      · cases hk
    cases ax with
    | nrm =>
      obtain ⟨u, hu, hur⟩ := fin _ rfl hk
      exact ⟨hr'.d, u, hu, u, rfl, hur⟩
    | ret =>
      obtain ⟨u, hu, hur⟩ := fin _ rfl hk
      exact ⟨hr'.d, u, hu, u, rfl, hur⟩
    | ext i => cases hk

theorem ExtB.toExt {n : Nat} {ρ ρ' : List Place} (h : ExtB n ρ ρ') (hl : ρ.length = n) : Ext ρ ρ' := fun b p hp => h b p (by rw [← hl]; exact (List.getElem?_eq_some_iff.1 hp).1) hp

theorem evFnM_ok {call : CallerT} (hcall : CallerTOk P call) (hm : P.follows .mixedOrders = true) {L : LoopOr} {N : Nat} {f : FuncId} {fn : Func} (hf : P.funcs[f]? = some fn) {args : List AV} {H : List Blk}
    (hL : ∀ c, fn.body = some c → ∀ body st l, LoopIn body c → L body st = some (l, true) → LoopOk P H.length body st l) {t : Tr (AV × Option (List Blk))}
    (h : evFnM P call L N fn args H = some (t, true)) {F : Nat → Prop} {W0 : World} {ρ : List Place} {vals : List Value} {W : World} (hC : Cls F W0 ρ H W) (hargs : VRels ρ args vals) :
    Calls P f vals.toArray W (fun e W' => ∃ u, e = .returned u ∧ ∃ ρ', Ext ρ ρ' ∧ Cls F W0 ρ' (hp H t.get) W' ∧ VRel ρ' t.get.1 u ∧ Keep H (hp H t.get)) := by
  unfold evFnM at h
  split at h
  · cases h
  · rename_i c hc
    refine calls_of_wp hf hc ?_
    refine wp_mono (evC_ok (B := H.length) hcall hm JL_ok c (hL c hc) _ _ _ h rfl ρ _ W ⟨SRel.start hargs fn.ntmps, rfl, hC, Nat.le_refl _⟩) ?_
    rintro e a' W' ⟨ax, st', ρ', r', rfl, hk, ho, hle, he, hr'⟩
    have fin : ∀ (o : Option Lf), o = some r' → (match results1 P fn st' with
        | some (v, ob) => some (.leaf (v, some st'.heap), ob)
        | none => none) = o → ∃ u, (results fn a'.tmps).run P W' = .ok u W' ∧ ∃ ρ', Ext ρ ρ' ∧ Cls F W0 ρ' (hp H t.get) W' ∧ VRel ρ' t.get.1 u ∧ Keep H (hp H t.get) := by
      intro o ho' hk
      subst ho'
      obtain ⟨tr, ob⟩ := r'
      simp only [okL] at ho
      subst ho
      simp only [leL] at hle
      split at hk
      · rename_i v ob hv
        simp only [Option.some.injEq, Prod.mk.injEq] at hk
        obtain ⟨rfl, rfl⟩ := hk
        obtain ⟨u, hu, hur⟩ := results_run (P := P) hr' hv
        have hl2 : t.get.2 = some st'.heap := hle.2
        have hE := he.toExt hC.rel.len
        refine ⟨u, hu, ρ', hE, ?_, ?_, ?_⟩
        · simp only [hp, hl2]; exact hr'.c
        · exact delit_iff.1 (by rw [hle.1]; exact delit_rel hur)
        · simp only [hp, hl2]; exact hC.keep hE hr'.c
      · cases hk
    cases ax with
    | nrm =>
      obtain ⟨u, hu, hur⟩ := fin _ rfl hk
      exact ⟨hr'.d, u, hu, u, rfl, hur⟩
    | ret =>
      obtain ⟨u, hu, hur⟩ := fin _ rfl hk
      exact ⟨hr'.d, u, hu, u, rfl, hur⟩
    | ext i => cases hk

/-- no function of the program is the one that the model treats apart -/
def NoApart (P : Program) : Prop := ∀ (f : FuncId) (fn : Func), P.funcs[f]? = some fn → fn.body.isSome = true → (fn.name == "runtime.NumGoroutine") = false

theorem enter_run (hN : NoApart P) {f : FuncId} {fn : Func} (hf : P.funcs[f]? = some fn) (hb : fn.body.isSome = true) (vals : Array Value) (W : World) : (callFunc f vals).run P W = .ok (.enter f vals) W := by
  have h1 := hN f fn hf hb
  have h2 : fn.body.isNone = false := by cases h : fn.body <;> simp [h] at hb ⊢
  unfold callFunc
  simp only [Sem.run_bind, run_program, Result.andThen_ok, hf]
  rw [if_neg (by rw [h1]; exact Bool.false_ne_true), if_neg (by rw [h2]; exact Bool.false_ne_true)]
  rfl

theorem evFn_body {call : CallerT} {L : LoopOr} {N : Nat} {fn : Func} {args : List AV} {H : List Blk} {r : Lf} (h : evFn P call L N fn args H = some r) : fn.body.isSome = true := by
  unfold evFn at h
  cases hbd : fn.body with
  | none => rw [hbd] at h; cases h
  | some c => rfl

theorem evFnM_body {call : CallerT} {L : LoopOr} {N : Nat} {fn : Func} {args : List AV} {H : List Blk} {r : Lf} (h : evFnM P call L N fn args H = some r) : fn.body.isSome = true := by
  unfold evFnM at h
  cases hbd : fn.body with
  | none => rw [hbd] at h; cases h
  | some c => rfl

theorem callF_ok (hN : NoApart P) (hm : P.follows .mixedOrders = true) {K : CallerT} (hK : CallerTOk P K) {N : Nat} : ∀ d, CallerTOk P (callF P K N d)
  | 0 => hK
  | d + 1 => fun f args H t h F W0 ρ W vals hC hv => by
    simp only [callF] at h
    split at h
    · rename_i r hr
      simp only [Option.some.injEq] at h
      subst h
      exact hK f args H _ hr F W0 ρ W vals hC hv
    · split at h
      · rename_i fn hf
        split at h
        · rename_i r hr
          simp only [Option.some.injEq] at h
          subst h
          rw [enter_run hN hf (evFn_body hr)]
          exact evFn_ok (callF_ok hN hm hK d) hm hf (fun _ _ _ _ _ _ h => by cases h) hr hC hv
        · rw [enter_run hN hf (evFnM_body h)]
          exact evFnM_ok (callF_ok hN hm hK d) hm hf (fun _ _ _ _ _ _ h => by cases h) h hC hv
      · cases h

/-- a call, as the executor tells it -/
theorem evF_ok (hN : NoApart P) (hm : P.follows .mixedOrders = true) {K : CallerT} (hK : CallerTOk P K) {L : LoopOr} {N d : Nat} {f : FuncId} {args : List AV} {H : List Blk}
    (hL : ∀ fn c, P.funcs[f]? = some fn → fn.body = some c → ∀ body st l, LoopIn body c → L body st = some (l, true) → LoopOk P H.length body st l) {t : Tr (AV × Option (List Blk))}
    (h : evF P K L N d f args H = some (t, true)) {ρ : List Place} {vals : List Value} {W : World} {F : Nat → Prop} {W0 : World} (hC : Cls F W0 ρ H W) (hargs : VRels ρ args vals) :
    Calls P f vals.toArray W (fun e W' => ∃ u, e = .returned u ∧ ∃ ρ', Ext ρ ρ' ∧ Cls F W0 ρ' (hp H t.get) W' ∧ VRel ρ' t.get.1 u ∧ Keep H (hp H t.get)) := by
  unfold evF at h
  split at h
  · rename_i fn hf
    exact evFn_ok (callF_ok hN hm hK d) hm hf (fun c hc => hL fn c hf hc) h hC hargs
  · cases h

theorem evM_ok (hN : NoApart P) (hm : P.follows .mixedOrders = true) {K : CallerT} (hK : CallerTOk P K) {L : LoopOr} {N d : Nat} {f : FuncId} {args : List AV} {H : List Blk}
    (hL : ∀ fn c, P.funcs[f]? = some fn → fn.body = some c → ∀ body st l, LoopIn body c → L body st = some (l, true) → LoopOk P H.length body st l) {t : Tr (AV × Option (List Blk))}
    (h : evM P K L N d f args H = some (t, true)) {ρ : List Place} {vals : List Value} {W : World} {F : Nat → Prop} {W0 : World} (hC : Cls F W0 ρ H W) (hargs : VRels ρ args vals) :
    Calls P f vals.toArray W (fun e W' => ∃ u, e = .returned u ∧ ∃ ρ', Ext ρ ρ' ∧ Cls F W0 ρ' (hp H t.get) W' ∧ VRel ρ' t.get.1 u ∧ Keep H (hp H t.get)) := by
  unfold evM at h
  split at h
  · rename_i fn hf
    exact evFnM_ok (callF_ok hN hm hK d) hm hf (fun c hc => hL fn c hf hc) h hC hargs
  · cases h

theorem Cls.start {ρ : List Place} {H : List Blk} {W : World} (h : HRel ρ H W) (hro : ∀ (b : Nat) (x : Blk), H[b]? = some x → x.wr = false) : Cls (· < W.heap.size) W ρ H W :=
  ⟨h, ⟨rfl, rfl, rfl, Nat.le_refl _, fun _ _ => rfl⟩, fun _ h => h, fun b x p hx hp hw => by rw [hro b x hx] at hw; cases hw⟩

/-- a law's call that answers yes -/
theorem evF_true (hN : NoApart P) (hm : P.follows .mixedOrders = true) {K : CallerT} (hK : CallerTOk P K) {L : LoopOr} {N d : Nat} {f : FuncId} {args : List AV} {H : List Blk}
    (hL : ∀ fn c, P.funcs[f]? = some fn → fn.body = some c → ∀ body st l, LoopIn body c → L body st = some (l, true) → LoopOk P H.length body st l)
    (h : ∃ t, evF P K L N d f args H = some (t, true) ∧ delit t.get.1 = .bool true) {ρ : List Place} {vals : List Value} {W : World} (hrel : HRel ρ H W) (hro : ∀ (b : Nat) (x : Blk), H[b]? = some x → x.wr = false) (hargs : VRels ρ args vals) :
    Calls P f vals.toArray W (fun e W' => e = .returned (.bool true) ∧ Below W.heap.size W W') := by
  obtain ⟨t, h, ht⟩ := h
  refine (evF_ok hN hm hK hL h (Cls.start hrel hro) hargs).mono fun e W' ⟨u, he, ρ', _, hc, hu, _⟩ => ?_
  have hu := delit_rel hu
  rw [ht] at hu
  simp only [VRel] at hu
  subst hu
  exact ⟨he, hc.toBelow⟩

theorem noK_ok : CallerTOk P noK := fun f args H v h => by cases h
theorem noL_ok {B : Nat} {c : Code} : ∀ body st l, LoopIn body c → noL body st = some (l, true) → LoopOk P B body st l := fun _ _ _ _ h => by cases h

/-- a function's summary: what it gives, at which arguments -/
def SumOk (P : Program) (f : FuncId) (run : List AV → List Blk → Option Lf) : Prop :=
  ∀ args H t, run args H = some (t, true) → ∀ F W0 ρ W vals, Cls F W0 ρ H W → VRels ρ args vals →
    OkT P (fun u W' => ∃ ρ', Ext ρ ρ' ∧ Cls F W0 ρ' (hp H t.get) W' ∧ VRel ρ' t.get.1 u ∧ Keep H (hp H t.get)) ((callFunc f vals.toArray).run P W)

/-- a table with one function more -/
def addK (f : FuncId) (run : List AV → List Blk → Option Lf) (K : CallerT) : CallerT := fun g args H => bif Nat.beq g f then run args H else K g args H
theorem addK_ok {f : FuncId} {run : List AV → List Blk → Option Lf} {K : CallerT} (hr : SumOk P f run) (hK : CallerTOk P K) : CallerTOk P (addK f run K) := fun g args H v h => by
  unfold addK at h
  cases hg : Nat.beq g f with
  | true =>
    rw [hg] at h
    have := Nat.eq_of_beq_eq_true hg; subst this
    exact hr args H v h
  | false =>
    rw [hg] at h
    exact hK g args H v h

/-- a summary out of the executor's walk of the body; the tree need only lead to the same -/
theorem sum_of_evF (hN : NoApart P) (hm : P.follows .mixedOrders = true) {K : CallerT} (hK : CallerTOk P K) {L : LoopOr} {N d : Nat} {f : FuncId} {fn : Func} (hf : P.funcs[f]? = some fn) (hb : fn.body.isSome = true)
    (hL : ∀ (B : Nat) c, fn.body = some c → ∀ body st l, LoopIn body c → L body st = some (l, true) → LoopOk P B body st l) {run : List AV → List Blk → Option Lf}
    (h : ∀ args H t, run args H = some (t, true) → ∃ t', evF P K L N d f args H = some (t', true) ∧ t'.get = t.get) : SumOk P f run := fun args H t hr F W0 ρ W vals hC hv => by
  obtain ⟨t', he, ht⟩ := h args H t hr
  rw [enter_run hN hf hb, ← ht]
  exact evF_ok hN hm hK (fun fn' c hf' hc => by rw [hf] at hf'; cases hf'; exact hL _ c hc) he hC hv
end

end Go.Sx
