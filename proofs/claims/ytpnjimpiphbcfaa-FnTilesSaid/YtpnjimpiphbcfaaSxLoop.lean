/- Loops that turn as often as their input says: one round, told by the executor, and a measure that falls. -/
import Derived.Test.YtpnjimpiphbcfaaSxGc
set_option linter.unusedSimpArgs false
set_option linter.unusedVariables false
namespace Go.Sx
open Go.RowKit

noncomputable def deqS (a e : St) : Bool := @decide (a = e) (Classical.propDecidable _)
theorem deqS_self (a : St) : deqS a a = true := by unfold deqS; exact @decide_eq_true _ (Classical.propDecidable _) rfl
theorem deqS_eq {a e : St} (h : deqS a e = true) : a = e := @of_decide_eq_true _ (Classical.propDecidable _) h

/-- a number by which a loop is found: that of the first region within it -/
def loopId : Code → Nat
  | .region id _ _ => id + 1
  | .seq a b => match loopId a with | 0 => loopId b | n => n
  | .cond _ a b => match loopId a with | 0 => loopId b | n => n
  | .block _ c => loopId c
  | .loop c => loopId c
  | .scope c => loopId c
  | _ => 0

def loopsOf : Code → List Code
  | .seq a b => loopsOf a ++ loopsOf b
  | .cond _ a b => loopsOf a ++ loopsOf b
  | .block _ c => loopsOf c
  | .scope c => loopsOf c
  | .loop c => c :: loopsOf c
  | _ => []

theorem LoopIn.mem {body : Code} : ∀ {c : Code}, LoopIn body c → body ∈ loopsOf c
  | .seq a b, h => by
    simp only [loopsOf, List.mem_append]
    rcases h with h | h
    · exact .inl (LoopIn.mem h)
    · exact .inr (LoopIn.mem h)
  | .cond _ a b, h => by
    simp only [loopsOf, List.mem_append]
    rcases h with h | h
    · exact .inl (LoopIn.mem h)
    · exact .inr (LoopIn.mem h)
  | .block _ c, h => LoopIn.mem (c := c) h
  | .scope c, h => LoopIn.mem (c := c) h
  | .loop c, h => by
    simp only [loopsOf, List.mem_cons]
    rcases h with h | h
    · exact .inl h
    · exact .inr (LoopIn.mem h)
  | .skip, h => h.elim
  | .region .., h => h.elim
  | .exit _, h => h.elim
  | .label _, h => h.elim
  | .ret, h => h.elim
  | .rangeFunc .., h => h.elim
  | .goto _, h => h.elim
  | .refuse _, h => h.elim

/-- only some slots of a state, and nothing told as known -/
def maskL (ws : List Nat) : Nat → List AV → List AV
  | _, [] => []
  | i, x :: t => (bif memN ws i then delit x else .junk) :: maskL ws (i + 1) t
def maskSt (ws : List Nat) (st : St) : St := ⟨maskL ws 0 st.slots, st.heap⟩
theorem maskL_len (ws : List Nat) : ∀ (i : Nat) (l : List AV), (maskL ws i l).length = l.length
  | _, [] => rfl
  | i, x :: t => by simp [maskL, maskL_len ws (i + 1) t]
theorem maskL_get (ws : List Nat) : ∀ (i : Nat) (l : List AV) (j : Nat) (x : AV), (maskL ws i l)[j]? = some x → ∃ y, l[j]? = some y ∧ (x = delit y ∨ x = .junk)
  | _, [], _, _, h => by simp [maskL] at h
  | i, y :: l, 0, x, h => by
    simp only [maskL, List.getElem?_cons_zero, Option.some.injEq] at h
    refine ⟨y, by simp, ?_⟩
    subst h
    cases memN ws i <;> simp
  | i, y :: l, j + 1, x, h => by
    simp only [maskL, List.getElem?_cons_succ] at h
    obtain ⟨z, hz, e⟩ := maskL_get ws (i + 1) l j x h
    exact ⟨z, by simpa using hz, e⟩
theorem Rl.mask {B : Nat} {F : Nat → Prop} {W0 : World} {ρ : List Place} {st : St} {a : Act} {W : World} (h : Rl B F W0 ρ st a W) (ws : List Nat) : Rl B F W0 ρ (maskSt ws st) a W where
  s := ⟨by simp only [maskSt, maskL_len]; exact h.s.len, fun i x hi => by
    obtain ⟨y, hy, e⟩ := maskL_get ws 0 st.slots i x hi
    obtain ⟨v, hv, hr⟩ := h.s.get i y hy
    refine ⟨v, hv, ?_⟩
    rcases e with rfl | rfl
    · exact delit_rel hr
    · simp [VRel]⟩
  d := h.d
  c := h.c
  hB := h.hB

/-- an oracle for one loop at one state -/
noncomputable def loopAt (id : Nat) (ws : List Nat) (s0 : St) (t : Tr (AX × St)) (L : LoopOr) : LoopOr := fun body st => bif Nat.beq (loopId body) id then some (t, deqS (maskSt ws st) s0) else L body st

def bodyOf (P : Program) (f : FuncId) : Code := match P.funcs[f]? with
  | some fn => match fn.body with | some c => c | none => .skip
  | none => .skip

/-- the loops of a function, by their numbers -/
def loopN (P : Program) (f : FuncId) (id : Nat) : Code := ((loopsOf (bodyOf P f)).find? fun c => Nat.beq (loopId c) id).getD .skip
def loopIds (P : Program) (f : FuncId) : List Nat := (loopsOf (bodyOf P f)).map loopId

section
variable {P : Program}

/-- what an oracle must keep for one function -/
def LOk (P : Program) (B : Nat) (f : FuncId) (L : LoopOr) : Prop := ∀ fn c, P.funcs[f]? = some fn → fn.body = some c → ∀ body st l, LoopIn body c → L body st = some (l, true) → LoopOk P B body st l

theorem noL_all {B : Nat} {f : FuncId} : LOk P B f noL := fun _ _ _ _ _ _ _ _ h => by cases h

theorem find_nodup : ∀ (l : List Code) (c : Code), c ∈ l → (l.map loopId).Nodup → ((l.find? fun x => Nat.beq (loopId x) (loopId c)).getD .skip) = c
  | [], c, h, _ => by cases h
  | x :: t, c, h, hn => by
    simp only [List.map_cons, List.nodup_cons] at hn
    rcases List.mem_cons.1 h with rfl | h
    · simp [List.find?_cons]
    · have : Nat.beq (loopId x) (loopId c) = false := by
        cases hb : Nat.beq (loopId x) (loopId c) with
        | false => rfl
        | true =>
          have := Nat.eq_of_beq_eq_true hb
          exact absurd (by rw [this]; exact List.mem_map_of_mem h) hn.1
      rw [List.find?_cons, this]
      exact find_nodup t c h hn.2

theorem LoopOk.masked {B : Nat} {body : Code} {ws : List Nat} {st : St} {t : Tr (AX × St)} (h : LoopOk P B body (maskSt ws st) t) : LoopOk P B body st t := fun F W0 ρ a W hr => h F W0 ρ a W (hr.mask ws)
theorem LoopOk.same {B : Nat} {body : Code} {st : St} {t t' : Tr (AX × St)} (h : LoopOk P B body st t) (e : t'.get = t.get) : LoopOk P B body st t' := fun F W0 ρ a W hr => by rw [e]; exact h F W0 ρ a W hr

/-- what is told as known, and what is not, is the same -/
theorem SRel.lit {ρ : List Place} {l l' : List AV} {a : Array Value} (h : SRel ρ l a) (e : l'.map delit = l.map delit) : SRel ρ l' a := by
  refine ⟨by have := congrArg List.length e; simp at this; rw [h.len, this], fun i x hi => ?_⟩
  have h1 : (l'.map delit)[i]? = some (delit x) := by rw [List.getElem?_map, hi]; rfl
  rw [e, List.getElem?_map] at h1
  cases hy : l[i]? with
  | none => rw [hy] at h1; cases h1
  | some y =>
    rw [hy] at h1
    simp only [Option.map_some, Option.some.injEq] at h1
    obtain ⟨v, hv, hr⟩ := h.get i y hy
    exact ⟨v, hv, delit_iff.1 (by rw [← h1]; exact delit_iff.2 hr)⟩
/-- a state told by less -/
def SLe (x y : St) : Prop := x.slots.map delit = y.slots.map delit ∧ HLe x.heap y.heap
theorem SLe.refl (x : St) : SLe x x := ⟨rfl, HLe.refl _⟩
theorem SLe.of_eq {x y : St} (h : x = y) : SLe x y := h ▸ SLe.refl x
theorem Rl.weak {B : Nat} {F : Nat → Prop} {W0 : World} {ρ : List Place} {st st' : St} {a : Act} {W : World} (h : Rl B F W0 ρ st a W) (hl : SLe st st') : Rl B F W0 ρ st' a W :=
  ⟨h.s.lit hl.1.symm, h.d, h.c.weak hl.2, by rw [← hl.2.len]; exact h.hB⟩
def XLe (x y : AX × St) : Prop := x.1 = y.1 ∧ SLe x.2 y.2
theorem XLe.refl (x : AX × St) : XLe x x := ⟨rfl, SLe.refl _⟩
theorem XLe.of_eq {x y : AX × St} (h : x = y) : XLe x y := h ▸ XLe.refl x
theorem LoopOk.weak {B : Nat} {body : Code} {st : St} {t t' : Tr (AX × St)} (h : LoopOk P B body st t) (e : XLe t.get t'.get) : LoopOk P B body st t' := fun F W0 ρ a W hr => by
  refine wp_mono (h F W0 ρ a W hr) ?_
  rintro ex a' W' ⟨ρ', h1, h2, h3⟩
  exact ⟨ρ', by rw [← e.1]; exact h1, h2, h3.weak e.2⟩
theorem LoopOk.from {B : Nat} {body : Code} {st st' : St} {t : Tr (AX × St)} (h : LoopOk P B body st' t) (e : SLe st st') : LoopOk P B body st t := fun F W0 ρ a W hr => h F W0 ρ a W (hr.weak e)

theorem loopAt_all {B : Nat} {f : FuncId} {id : Nat} {ws : List Nat} {s0 : St} {t : Tr (AX × St)} {L : LoopOr} (hn : (loopIds P f).Nodup) (h : LoopOk P B (loopN P f id) s0 t) (hL : LOk P B f L) : LOk P B f (loopAt id ws s0 t L) := fun fn c hf hc body st l hin hl => by
  unfold loopAt at hl
  cases hb : Nat.beq (loopId body) id with
  | false => rw [hb] at hl; exact hL fn c hf hc body st l hin hl
  | true =>
    rw [hb] at hl
    simp only [cond_true, Option.some.injEq, Prod.mk.injEq] at hl
    obtain ⟨rfl, he⟩ := hl
    have he' := deqS_eq he
    rw [← he'] at h
    have hid := Nat.eq_of_beq_eq_true hb
    have hbo : bodyOf P f = c := by unfold bodyOf; rw [hf]; simp only; rw [hc]
    have hm := hin.mem
    have e : loopN P f id = body := by
      unfold loopN
      unfold loopIds at hn
      rw [hbo] at hn ⊢
      rw [← hid]
      exact find_nodup _ _ hm hn
    rw [← e]; exact h.masked

/-- what is kept of a state behind a round, and behind the loop -/
def gcO (pm : Option (List Nat)) (st : St) : St := match pm with | none => st | some m => gcSt m st
def pmO (B : Nat) (pm : Option (List Nat)) : Bool := match pm with | none => true | some m => pmB B m
def maskE (ws we : List Nat) (pn pe : Option (List Nat)) (e : AX) (st : St) : St := match e with | .nrm => gcO pn (maskSt ws st) | _ => gcO pe (maskSt we st)
def kG (B : Nat) (ws we : List Nat) (pn pe : Option (List Nat)) : AX → St → Option Ls := fun e st => some (.leaf (e, maskE ws we pn pe e st), match e with | .nrm => pmO B pn | _ => pmO B pe)
def kE (ws we : List Nat) : AX → St → Option Ls := kG 0 ws we none none

theorem Rl.gcO {B : Nat} {F : Nat → Prop} {W0 : World} {ρ : List Place} {st : St} {a : Act} {W : World} (h : Rl B F W0 ρ st a W) {pm : Option (List Nat)} (hm : pmO B pm = true) : ∃ ρ', ExtB B ρ ρ' ∧ Rl B F W0 ρ' (Sx.gcO pm st) a W := by
  cases pm with
  | none => exact ⟨ρ, ExtB.refl B ρ, h⟩
  | some m => exact ⟨_, (h.gc hm).1, (h.gc hm).2⟩

theorem rounds_mono {c : Code} {Q Q' : Exit → Act → World → Prop} (h : ∀ e a w, Q e a w → Q' e a w) : ∀ (n : Nat) (a : Act) (w : World), Code.rounds P c Q n a w → Code.rounds P c Q' n a w
  | 0, a, w, hr => hr.elim
  | n + 1, a, w, hr => by
    rw [rounds_succ] at *
    refine wp_mono hr fun e a' w' he => ?_
    cases e with
    | normal => exact rounds_mono h n a' w' he
    | _ => exact h _ _ _ he

/-- a loop, by what its rounds lead to -/
theorem loop_ex {call : CallerT} (hcall : CallerTOk P call) (hm : P.follows .mixedOrders = true) {body : Code} {L : LoopOr} {N : Nat} (B : Nat) (hL : ∀ b st l, LoopIn b body → L b st = some (l, true) → LoopOk P B b st l) {σ : Type} (ws we : List Nat) (pn pe : Option (List Nat)) (S : σ → St) (inv : σ → Prop) (μ : σ → Nat) (post : σ → AX × St → Prop)
    (step : ∀ s, inv s → ∃ t, evC JS P call L N body (S s) (kG B ws we pn pe) = some (t, true) ∧
      ((∃ s', XLe t.get (.nrm, S s') ∧ inv s' ∧ μ s' < μ s ∧ ∀ r, post s' r → post s r) ∨ (∃ r, XLe t.get r ∧ r.1 ≠ .nrm ∧ post s r))) (s : σ) (hs : inv s) : ∃ r, post s r ∧ LoopOk P B body (S s) (.leaf r) := by
  -- what one round does
  have one : ∀ (s1 : σ) (t : Tr (AX × St)), evC JS P call L N body (S s1) (kG B ws we pn pe) = some (t, true) → ∀ F W0 ρ a W, Rl B F W0 ρ (S s1) a W →
      body.wp P (fun e a' W' => ∃ ρ', e = AXe t.get.1 ∧ ExtB B ρ ρ' ∧ Rl B F W0 ρ' t.get.2 a' W') a W := by
    intro s1 t ht F W0 ρ a W hr
    refine wp_mono (evC_ok hcall hm JS_ok body hL (S s1) _ _ ht rfl ρ a W hr) ?_
    rintro e a' W' ⟨ax, st', ρ', r', rfl, hk, ho, hle, he', hr'⟩
    simp only [kG, Option.some.injEq] at hk
    subst hk
    simp only [leS, Tr.get] at hle
    rw [hle]
    simp only [okS] at ho
    cases ax with
    | nrm =>
      obtain ⟨ρ2, h1, h2⟩ := (hr'.mask ws).gcO ho
      exact ⟨ρ2, rfl, he'.trans h1, h2⟩
    | ret =>
      obtain ⟨ρ2, h1, h2⟩ := (hr'.mask we).gcO ho
      exact ⟨ρ2, rfl, he'.trans h1, h2⟩
    | ext i =>
      obtain ⟨ρ2, h1, h2⟩ := (hr'.mask we).gcO ho
      exact ⟨ρ2, rfl, he'.trans h1, h2⟩
  have key : ∀ (n : Nat) (s1 : σ), inv s1 → μ s1 < n → ∃ r, r.1 ≠ .nrm ∧ post s1 r ∧ ∀ F W0 ρ1 a W, Rl B F W0 ρ1 (S s1) a W →
      Code.rounds P body (fun e a' W' => ∃ ρ', e = AXe r.1 ∧ ExtB B ρ1 ρ' ∧ Rl B F W0 ρ' r.2 a' W') n a W := by
    intro n
    induction n with
    | zero => intro s1 _ h; omega
    | succ n ih =>
      intro s1 hi hmu
      obtain ⟨t, ht, hcase⟩ := step s1 hi
      rcases hcase with ⟨s', hg, hi', hmu', hpost⟩ | ⟨r, hg, hne, hp⟩
      · obtain ⟨r, hne, hp, hrun⟩ := ih s' hi' (by omega)
        refine ⟨r, hne, hpost r hp, fun F W0 ρ1 a W hr1 => ?_⟩
        rw [rounds_succ]
        refine wp_mono (one s1 t ht F W0 ρ1 a W hr1) ?_
        rintro e a' W' ⟨ρ', he, hx, hr'⟩
        rw [hg.1] at he
        subst he
        have := hrun F W0 ρ' a' W' (hr'.weak hg.2)
        refine rounds_mono ?_ n a' W' this
        rintro e2 a2 W2 ⟨ρ2, h1, h2, h3⟩
        exact ⟨ρ2, h1, hx.trans h2, h3⟩
      · refine ⟨r, hne, hp, fun F W0 ρ1 a W hr1 => ?_⟩
        rw [rounds_succ]
        refine wp_mono (one s1 t ht F W0 ρ1 a W hr1) ?_
        rintro e a' W' ⟨ρ', he, hx, hr'⟩
        rw [hg.1] at he
        have hr2 := hr'.weak hg.2
        subst he
        obtain ⟨r1, r2⟩ := r
        cases r1 with
        | nrm => exact absurd rfl hne
        | ret => exact ⟨ρ', rfl, hx, hr2⟩
        | ext i => exact ⟨ρ', rfl, hx, hr2⟩
  obtain ⟨r, hne, hp, hrun⟩ := key (μ s + 1) s hs (by omega)
  exact ⟨r, hp, fun F W0 ρ a W hr => wp_loop_rounds (μ s + 1) (hrun F W0 ρ a W hr)⟩

theorem loop_ind {call : CallerT} (hcall : CallerTOk P call) (hm : P.follows .mixedOrders = true) {body : Code} {L : LoopOr} {N : Nat} {B : Nat} (hL : ∀ b st l, LoopIn b body → L b st = some (l, true) → LoopOk P B b st l) {σ : Type} (ws we : List Nat) (pn pe : Option (List Nat)) (S : σ → St) (inv : σ → Prop) (μ : σ → Nat) (res : σ → AX × St)
    (step : ∀ s, inv s → ∃ t, evC JS P call L N body (S s) (kG B ws we pn pe) = some (t, true) ∧
      ((∃ s', XLe t.get (.nrm, S s') ∧ inv s' ∧ μ s' < μ s ∧ res s' = res s) ∨ (XLe t.get (res s) ∧ (res s).1 ≠ .nrm))) (s : σ) (hs : inv s) : LoopOk P B body (S s) (.leaf (res s)) := by
  obtain ⟨r, rfl, h⟩ := loop_ex hcall hm (N := N) B hL ws we pn pe S inv μ (fun s r => r = res s) (fun s hi => by
    obtain ⟨t, ht, hc⟩ := step s hi
    refine ⟨t, ht, ?_⟩
    rcases hc with ⟨s', h1, h2, h3, h4⟩ | ⟨h1, h2⟩
    · exact .inl ⟨s', h1, h2, h3, fun r hr => by rw [hr, h4]⟩
    · exact .inr ⟨res s, h1, h2, rfl⟩) s hs
  exact h

/-- an oracle for one loop at a family of states -/
noncomputable def loopFam {X : Type} (id : Nat) (ws : List Nat) (sel : St → Option X) (S : X → St) (t : X → Tr (AX × St)) (g : X → Bool) (L : LoopOr) : LoopOr := fun body st =>
  bif Nat.beq (loopId body) id then (match sel st with | some x => some (t x, andB (g x) (deqS (maskSt ws st) (S x))) | none => none) else L body st

theorem loopFam_all {X : Type} {B : Nat} {f : FuncId} {id : Nat} {ws : List Nat} {sel : St → Option X} {S : X → St} {t : X → Tr (AX × St)} {g : X → Bool} {L : LoopOr} (hn : (loopIds P f).Nodup) (h : ∀ x, g x = true → LoopOk P B (loopN P f id) (S x) (t x)) (hL : LOk P B f L) : LOk P B f (loopFam id ws sel S t g L) := fun fn c hf hc body st l hin hl => by
  unfold loopFam at hl
  cases hb : Nat.beq (loopId body) id with
  | false => rw [hb] at hl; exact hL fn c hf hc body st l hin hl
  | true =>
    rw [hb] at hl
    simp only [cond_true] at hl
    split at hl
    · rename_i x hx
      simp only [Option.some.injEq, Prod.mk.injEq] at hl
      obtain ⟨rfl, he⟩ := hl
      obtain ⟨hg, he⟩ := andB_true he
      have he' := deqS_eq he
      have h := h x hg
      rw [← he'] at h
      have hid := Nat.eq_of_beq_eq_true hb
      have hbo : bodyOf P f = c := by unfold bodyOf; rw [hf]; simp only; rw [hc]
      have hm := hin.mem
      have e : loopN P f id = body := by
        unfold loopN
        unfold loopIds at hn
        rw [hbo] at hn ⊢
        rw [← hid]
        exact find_nodup _ _ hm hn
      rw [← e]; exact h.masked
    · cases hl

theorem LoopOk.lit {B : Nat} {body : Code} {st : St} {t t' : Tr (AX × St)} (h : LoopOk P B body st t) (e1 : t'.get.1 = t.get.1) (e2 : t'.get.2.slots.map delit = t.get.2.slots.map delit) (e3 : t'.get.2.heap = t.get.2.heap) : LoopOk P B body st t' := fun F W0 ρ a W hr => by
  refine wp_mono (h F W0 ρ a W hr) ?_
  rintro ex a' W' ⟨ρ', h1, h2, h3⟩
  exact ⟨ρ', by rw [e1]; exact h1, h2, ⟨h3.s.lit e2, h3.d, by rw [e3]; exact h3.c, by rw [e3]; exact h3.hB⟩⟩

/-- all below a number -/
def allB : Nat → (Nat → Bool) → Bool
  | 0, _ => true
  | n + 1, ok => allB n ok && ok n
theorem allB_true {n : Nat} {ok : Nat → Bool} : allB n ok = true ↔ ∀ k, k < n → ok k = true := by
  induction n with
  | zero => simp [allB]
  | succ n ih =>
    simp only [allB, Bool.and_eq_true, ih]
    constructor
    · rintro ⟨h1, h2⟩ k hk
      rcases Nat.lt_or_ge k n with h | h
      · exact h1 k h
      · rw [show k = n by omega]; exact h2
    · intro h
      exact ⟨fun k hk => h k (by omega), h n (by omega)⟩
theorem allB_false {n k : Nat} {ok : Nat → Bool} (hk : k < n) (h : ok k = false) : allB n ok = false := by
  cases ha : allB n ok with
  | false => rfl
  | true => rw [allB_true.1 ha k hk] at h; cases h

/-- a loop over `n` rounds, that may end early -/
theorem loop_for {call : CallerT} (hcall : CallerTOk P call) (hm : P.follows .mixedOrders = true) {body : Code} {L : LoopOr} {N : Nat} {B : Nat} (hL : ∀ b st l, LoopIn b body → L b st = some (l, true) → LoopOk P B b st l) (ws we : List Nat) (pn pe : Option (List Nat)) (S : Nat → St) (n : Nat) (ok : Nat → Bool) (early exit : AX × St)
    (h1 : early.1 ≠ .nrm) (h2 : exit.1 ≠ .nrm)
    (step : ∀ k, k < n → allB k ok = true → ∃ t, evC JS P call L N body (S k) (kG B ws we pn pe) = some (t, true) ∧ (ok k = true → XLe t.get (.nrm, S (k + 1))) ∧ (ok k = false → XLe t.get early))
    (last : allB n ok = true → ∃ t, evC JS P call L N body (S n) (kG B ws we pn pe) = some (t, true) ∧ XLe t.get exit) : LoopOk P B body (S 0) (.node (allB n ok) (.leaf exit) (.leaf early)) := by
  have := loop_ind hcall hm (N := N) hL ws we pn pe S (fun k => k ≤ n ∧ allB k ok = true) (fun k => n - k) (fun _ => bif allB n ok then exit else early) (fun k ⟨hk, ha⟩ => by
    rcases Nat.lt_or_ge k n with hlt | hge
    · obtain ⟨t, ht, ht1, ht2⟩ := step k hlt ha
      refine ⟨t, ht, ?_⟩
      cases hok : ok k with
      | true => exact .inl ⟨k + 1, ht1 hok, ⟨hlt, by simp [allB, ha, hok]⟩, by omega, rfl⟩
      | false =>
        right
        rw [allB_false hlt hok]
        exact ⟨ht2 hok, h1⟩
    · have : k = n := by omega
      subst this
      obtain ⟨t, ht, ht1⟩ := last ha
      refine ⟨t, ht, .inr ?_⟩
      rw [ha]
      exact ⟨ht1, h2⟩) 0 ⟨Nat.zero_le _, rfl⟩
  refine this.same ?_
  cases allB n ok <;> rfl

/-- the first round that fails -/
def fb (ok : Nat → Bool) : Nat → Nat
  | 0 => 0
  | n + 1 => bif allB n ok then n else fb ok n
theorem fb_eq {ok : Nat → Bool} {k : Nat} (ha : allB k ok = true) (hk : ok k = false) : ∀ n, k < n → fb ok n = k
  | 0, h => absurd h (Nat.not_lt_zero k)
  | n + 1, h => by
    unfold fb
    cases hn : allB n ok with
    | true =>
      rcases Nat.lt_or_ge k n with h1 | h1
      · rw [allB_false h1 hk] at hn; cases hn
      · show n = k; omega
    | false =>
      refine fb_eq ha hk n ?_
      rcases Nat.lt_or_ge k n with h1 | h1
      · exact h1
      · have : k = n := by omega
        subst this
        rw [ha] at hn; cases hn
/-- the same, where what an early end leaves hangs on the round -/
theorem loop_forE {call : CallerT} (hcall : CallerTOk P call) (hm : P.follows .mixedOrders = true) {body : Code} {L : LoopOr} {N : Nat} {B : Nat} (hL : ∀ b st l, LoopIn b body → L b st = some (l, true) → LoopOk P B b st l) (ws we : List Nat) (pn pe : Option (List Nat)) (S : Nat → St) (n : Nat) (ok : Nat → Bool) (early : Nat → AX × St) (exit : AX × St)
    (h1 : ∀ k, (early k).1 ≠ .nrm) (h2 : exit.1 ≠ .nrm)
    (step : ∀ k, k < n → allB k ok = true → ∃ t, evC JS P call L N body (S k) (kG B ws we pn pe) = some (t, true) ∧ (ok k = true → XLe t.get (.nrm, S (k + 1))) ∧ (ok k = false → XLe t.get (early k)))
    (last : allB n ok = true → ∃ t, evC JS P call L N body (S n) (kG B ws we pn pe) = some (t, true) ∧ XLe t.get exit) : LoopOk P B body (S 0) (.node (allB n ok) (.leaf exit) (.leaf (early (fb ok n)))) := by
  have := loop_ind hcall hm (N := N) hL ws we pn pe S (fun k => k ≤ n ∧ allB k ok = true) (fun k => n - k) (fun _ => bif allB n ok then exit else early (fb ok n)) (fun k ⟨hk, ha⟩ => by
    rcases Nat.lt_or_ge k n with hlt | hge
    · obtain ⟨t, ht, ht1, ht2⟩ := step k hlt ha
      refine ⟨t, ht, ?_⟩
      cases hok : ok k with
      | true => exact .inl ⟨k + 1, ht1 hok, ⟨hlt, by simp [allB, ha, hok]⟩, by omega, rfl⟩
      | false =>
        right
        rw [allB_false hlt hok, fb_eq ha hok n hlt]
        exact ⟨ht2 hok, h1 k⟩
    · have : k = n := by omega
      subst this
      obtain ⟨t, ht, ht1⟩ := last ha
      refine ⟨t, ht, .inr ?_⟩
      rw [ha]
      exact ⟨ht1, h2⟩) 0 ⟨Nat.zero_le _, rfl⟩
  refine this.same ?_
  cases allB n ok <;> rfl

/-- a loop over `n` rounds -/
theorem loop_all {call : CallerT} (hcall : CallerTOk P call) (hm : P.follows .mixedOrders = true) {body : Code} {L : LoopOr} {N : Nat} {B : Nat} (hL : ∀ b st l, LoopIn b body → L b st = some (l, true) → LoopOk P B b st l) (ws we : List Nat) (pn pe : Option (List Nat)) (S : Nat → St) (n : Nat) (exit : AX × St) (h2 : exit.1 ≠ .nrm)
    (step : ∀ k, k < n → ∃ t, evC JS P call L N body (S k) (kG B ws we pn pe) = some (t, true) ∧ XLe t.get (.nrm, S (k + 1)))
    (last : ∃ t, evC JS P call L N body (S n) (kG B ws we pn pe) = some (t, true) ∧ XLe t.get exit) : LoopOk P B body (S 0) (.leaf exit) := by
  exact loop_ind hcall hm (N := N) hL ws we pn pe S (fun k => k ≤ n) (fun k => n - k) (fun _ => exit) (fun k hk => by
    rcases Nat.lt_or_ge k n with hlt | hge
    · obtain ⟨t, ht, ht1⟩ := step k hlt
      exact ⟨t, ht, .inl ⟨k + 1, ht1, hlt, by omega, rfl⟩⟩
    · have : k = n := by omega
      subst this
      obtain ⟨t, ht, ht1⟩ := last
      exact ⟨t, ht, .inr ⟨ht1, h2⟩⟩) 0 (Nat.zero_le _)

end
end Go.Sx
