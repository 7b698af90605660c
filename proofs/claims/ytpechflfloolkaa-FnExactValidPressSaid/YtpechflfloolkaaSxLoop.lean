/- Loops that turn as often as their input says: one round, told by the executor, and a measure that falls. -/
import Derived.Test.YtpechflfloolkaaSxFn
set_option linter.unusedSimpArgs false
set_option linter.unusedVariables false
namespace Go.Sx
open Go.RowKit

noncomputable def deqS (a e : St) : Bool := @decide (a = e) (Classical.propDecidable _)
theorem deqS_self (a : St) : deqS a a = true := by unfold deqS; exact @decide_eq_true _ (Classical.propDecidable _) rfl
theorem deqS_eq {a e : St} (h : deqS a e = true) : a = e := @of_decide_eq_true _ (Classical.propDecidable _) h

/-- a number by which a loop is found: that of the first region within it -/
def loopId : Code → Nat
  | .region id _ _ => id + 1
  | .seq a b => match loopId a with | 0 => loopId b | n => n
  | .cond _ a b => match loopId a with | 0 => loopId b | n => n
  | .block _ c => loopId c
  | .loop c => loopId c
  | .scope c => loopId c
  | _ => 0

def loopsOf : Code → List Code
  | .seq a b => loopsOf a ++ loopsOf b
  | .cond _ a b => loopsOf a ++ loopsOf b
  | .block _ c => loopsOf c
  | .scope c => loopsOf c
  | .loop c => c :: loopsOf c
  | _ => []

theorem LoopIn.mem {body : Code} : ∀ {c : Code}, LoopIn body c → body ∈ loopsOf c
  | .seq a b, h => by
    simp only [loopsOf, List.mem_append]
    rcases h with h | h
    · exact .inl (LoopIn.mem h)
    · exact .inr (LoopIn.mem h)
  | .cond _ a b, h => by
    simp only [loopsOf, List.mem_append]
    rcases h with h | h
    · exact .inl (LoopIn.mem h)
    · exact .inr (LoopIn.mem h)
  | .block _ c, h => LoopIn.mem (c := c) h
  | .scope c, h => LoopIn.mem (c := c) h
  | .loop c, h => by
    simp only [loopsOf, List.mem_cons]
    rcases h with h | h
    · exact .inl h
    · exact .inr (LoopIn.mem h)
  | .skip, h => h.elim
  | .region .., h => h.elim
  | .exit _, h => h.elim
  | .label _, h => h.elim
  | .ret, h => h.elim
  | .rangeFunc .., h => h.elim
  | .goto _, h => h.elim
  | .refuse _, h => h.elim

/-- only some slots of a state, and nothing told as known -/
def maskL (ws : List Nat) : Nat → List AV → List AV
  | _, [] => []
  | i, x :: t => (bif memN ws i then delit x else .junk) :: maskL ws (i + 1) t
def maskSt (ws : List Nat) (st : St) : St := ⟨maskL ws 0 st.slots, st.heap⟩
theorem maskL_len (ws : List Nat) : ∀ (i : Nat) (l : List AV), (maskL ws i l).length = l.length
  | _, [] => rfl
  | i, x :: t => by simp [maskL, maskL_len ws (i + 1) t]
theorem maskL_get (ws : List Nat) : ∀ (i : Nat) (l : List AV) (j : Nat) (x : AV), (maskL ws i l)[j]? = some x → ∃ y, l[j]? = some y ∧ (x = delit y ∨ x = .junk)
  | _, [], _, _, h => by simp [maskL] at h
  | i, y :: l, 0, x, h => by
    simp only [maskL, List.getElem?_cons_zero, Option.some.injEq] at h
    refine ⟨y, by simp, ?_⟩
    subst h
    cases memN ws i <;> simp
  | i, y :: l, j + 1, x, h => by
    simp only [maskL, List.getElem?_cons_succ] at h
    obtain ⟨z, hz, e⟩ := maskL_get ws (i + 1) l j x h
    exact ⟨z, by simpa using hz, e⟩
theorem Rl.mask {B : Nat} {F : Nat → Prop} {W0 : World} {ρ : List Place} {st : St} {a : Act} {W : World} (h : Rl B F W0 ρ st a W) (ws : List Nat) : Rl B F W0 ρ (maskSt ws st) a W where
  s := ⟨by simp only [maskSt, maskL_len]; exact h.s.len, fun i x hi => by
    obtain ⟨y, hy, e⟩ := maskL_get ws 0 st.slots i x hi
    obtain ⟨v, hv, hr⟩ := h.s.get i y hy
    refine ⟨v, hv, ?_⟩
    rcases e with rfl | rfl
    · exact delit_rel hr
    · simp [VRel]⟩
  d := h.d
  c := h.c
  lo := h.lo
  hB := h.hB

/-- an oracle for one loop at one state -/
noncomputable def loopAt (id : Nat) (ws : List Nat) (s0 : St) (t : Tr (AX × St)) (L : LoopOr) : LoopOr := fun body st => bif Nat.beq (loopId body) id then some (t, deqS (maskSt ws st) s0) else L body st

def bodyOf (P : Program) (f : FuncId) : Code := match P.funcs[f]? with
  | some fn => match fn.body with | some c => c | none => .skip
  | none => .skip

/-- the loops of a function, by their numbers -/
def loopN (P : Program) (f : FuncId) (id : Nat) : Code := ((loopsOf (bodyOf P f)).find? fun c => Nat.beq (loopId c) id).getD .skip
def loopIds (P : Program) (f : FuncId) : List Nat := (loopsOf (bodyOf P f)).map loopId

section
variable {P : Program}

/-- what an oracle must keep for one function -/
def LOk (P : Program) (f : FuncId) (L : LoopOr) : Prop := ∀ fn c, P.funcs[f]? = some fn → fn.body = some c → ∀ body st l, LoopIn body c → L body st = some (l, true) → LoopOk P body st l

theorem noL_all {f : FuncId} : LOk P f noL := fun _ _ _ _ _ _ _ _ h => by cases h

theorem find_nodup : ∀ (l : List Code) (c : Code), c ∈ l → (l.map loopId).Nodup → ((l.find? fun x => Nat.beq (loopId x) (loopId c)).getD .skip) = c
  | [], c, h, _ => by cases h
  | x :: t, c, h, hn => by
    simp only [List.map_cons, List.nodup_cons] at hn
    rcases List.mem_cons.1 h with rfl | h
    · simp [List.find?_cons]
    · have : Nat.beq (loopId x) (loopId c) = false := by
        cases hb : Nat.beq (loopId x) (loopId c) with
        | false => rfl
        | true =>
          have := Nat.eq_of_beq_eq_true hb
          exact absurd (by rw [this]; exact List.mem_map_of_mem h) hn.1
      rw [List.find?_cons, this]
      exact find_nodup t c h hn.2

theorem LoopOk.masked {body : Code} {ws : List Nat} {st : St} {t : Tr (AX × St)} (h : LoopOk P body (maskSt ws st) t) : LoopOk P body st t := fun B F W0 ρ a W hr => h B F W0 ρ a W (hr.mask ws)
theorem LoopOk.same {body : Code} {st : St} {t t' : Tr (AX × St)} (h : LoopOk P body st t) (e : t'.get = t.get) : LoopOk P body st t' := fun B F W0 ρ a W hr => by rw [e]; exact h B F W0 ρ a W hr

theorem loopAt_all {f : FuncId} {id : Nat} {ws : List Nat} {s0 : St} {t : Tr (AX × St)} {L : LoopOr} (hn : (loopIds P f).Nodup) (h : LoopOk P (loopN P f id) s0 t) (hL : LOk P f L) : LOk P f (loopAt id ws s0 t L) := fun fn c hf hc body st l hin hl => by
  unfold loopAt at hl
  cases hb : Nat.beq (loopId body) id with
  | false => rw [hb] at hl; exact hL fn c hf hc body st l hin hl
  | true =>
    rw [hb] at hl
    simp only [cond_true, Option.some.injEq, Prod.mk.injEq] at hl
    obtain ⟨rfl, he⟩ := hl
    have he' := deqS_eq he
    rw [← he'] at h
    have hid := Nat.eq_of_beq_eq_true hb
    have hbo : bodyOf P f = c := by unfold bodyOf; rw [hf]; simp only; rw [hc]
    have hm := hin.mem
    have e : loopN P f id = body := by
      unfold loopN
      unfold loopIds at hn
      rw [hbo] at hn ⊢
      rw [← hid]
      exact find_nodup _ _ hm hn
    rw [← e]; exact h.masked

/-- what is kept of a state behind a round, and behind the loop -/
def maskE (ws we : List Nat) (e : AX) (st : St) : St := match e with | .nrm => maskSt ws st | _ => maskSt we st
def kE (ws we : List Nat) : AX → St → Option Ls := fun e st => some (.leaf (e, maskE ws we e st), true)

theorem loop_ind {call : CallerT} (hcall : CallerTOk P call) (hm : P.follows .mixedOrders = true) {body : Code} {L : LoopOr} {N : Nat} (hL : ∀ b st l, LoopIn b body → L b st = some (l, true) → LoopOk P b st l) {σ : Type} (ws we : List Nat) (S : σ → St) (inv : σ → Prop) (μ : σ → Nat) (res : σ → AX × St)
    (step : ∀ s, inv s → ∃ t, evC JS P call L N body (S s) (kE ws we) = some (t, true) ∧
      ((∃ s', t.get = (.nrm, S s') ∧ inv s' ∧ μ s' < μ s ∧ res s' = res s) ∨ (t.get = res s ∧ (res s).1 ≠ .nrm))) (s : σ) (hs : inv s) : LoopOk P body (S s) (.leaf (res s)) := by
  intro B F W0 ρ a W hr
  have key : ∀ (n : Nat) (s1 : σ), inv s1 → res s1 = res s → μ s1 < n → ∀ ρ1 a W, ExtB B ρ ρ1 → Rl B F W0 ρ1 (S s1) a W →
      Code.rounds P body (fun e a' W' => ∃ ρ', e = AXe (Tr.leaf (res s)).get.1 ∧ ExtB B ρ ρ' ∧ Rl B F W0 ρ' (Tr.leaf (res s)).get.2 a' W') n a W := by
    intro n
    induction n with
    | zero => intro s1 _ _ h; omega
    | succ n ih =>
      intro s1 hi hres hmu ρ1 a W he hr1
      rw [rounds_succ]
      obtain ⟨t, ht, hcase⟩ := step s1 hi
      refine wp_mono (evC_ok hcall hm JS_ok body hL (S s1) _ _ ht rfl ρ1 a W hr1) ?_
      rintro e a' W' ⟨ax, st', ρ', r', rfl, hk, ho, hle, he', hr'⟩
      simp only [kE, Option.some.injEq] at hk
      subst hk
      simp only [leS, Tr.get] at hle
      rcases hcase with ⟨s', hg, hi', hmu', hres'⟩ | ⟨hg, hne⟩
      · rw [hg] at hle
        simp only [Prod.mk.injEq] at hle
        obtain ⟨rfl, h2⟩ := hle
        exact ih s' hi' (hres'.trans hres) (by omega) ρ' a' W' (he.trans he') (by rw [h2]; exact hr'.mask ws)
      · rw [hg, hres] at hle
        rw [hres] at hne
        have h1 : (res s).1 = ax := by rw [hle]
        have h2 : (res s).2 = maskE ws we ax st' := by rw [hle]
        simp only [Tr.get]
        rw [h1] at hne
        rw [h1, h2]
        cases ax with
        | nrm => exact absurd rfl hne
        | ret => exact ⟨ρ', rfl, he.trans he', hr'.mask we⟩
        | ext i => exact ⟨ρ', rfl, he.trans he', hr'.mask we⟩
  exact wp_loop_rounds (μ s + 1) (key (μ s + 1) s hs rfl (by omega) ρ a W (ExtB.refl B ρ) hr)

end
end Go.Sx
