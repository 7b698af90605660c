/- Loops whose blocks are numbered anew by what the state names. -/
import Derived.Test.YtpnjimpiphbcfaaSxLoop
set_option linter.unusedSimpArgs false
set_option linter.unusedVariables false
namespace Go.Sx
open Go.RowKit
section
variable {P : Program}

/-- what is kept of a state behind a round, and behind the loop; the blocks by the state -/
def maskX (ws we : List Nat) (e : AX) (st : St) : St := match e with | .nrm => maskSt ws st | _ => maskSt we st
def kH (B : Nat) (ws we : List Nat) (g : AX → St → Option (List Nat)) : AX → St → Option Ls := fun e st => some (.leaf (e, gcO (g e st) (maskX ws we e st)), pmO B (g e st))
def iotaN : Nat → List Nat → List Nat
  | 0, l => l
  | n + 1, l => iotaN n (n :: l)
/-- the first blocks, then those that the slots name, and those that these name -/
def autoP (B : Nat) (st : St) : List Nat := refB st.heap (refB st.heap (refVL st.slots (iotaN B [])) (refVL st.slots (iotaN B []))) (refB st.heap (refVL st.slots (iotaN B [])) (refVL st.slots (iotaN B [])))
def gA (B : Nat) (ws we : List Nat) : AX → St → Option (List Nat) := fun e st => some (autoP B (maskX ws we e st))
/-- the same, numbered by what is named -/
def kA (B : Nat) (ws we : List Nat) : AX → St → Option Ls := kH B ws we (gA B ws we)

/-- a loop, by what its rounds lead to -/
theorem loop_exH {call : CallerT} (hcall : CallerTOk P call) (hm : P.follows .mixedOrders = true) {body : Code} {L : LoopOr} {N : Nat} (B : Nat) (hL : ∀ b st l, LoopIn b body → L b st = some (l, true) → LoopOk P B b st l) {σ : Type} (ws we : List Nat) (g : AX → St → Option (List Nat)) (S : σ → St) (inv : σ → Prop) (μ : σ → Nat) (post : σ → AX × St → Prop)
    (step : ∀ s, inv s → ∃ t, evC JS P call L N body (S s) (kH B ws we g) = some (t, true) ∧
      ((∃ s', XLe t.get (.nrm, S s') ∧ inv s' ∧ μ s' < μ s ∧ ∀ r, post s' r → post s r) ∨ (∃ r, XLe t.get r ∧ r.1 ≠ .nrm ∧ post s r))) (s : σ) (hs : inv s) : ∃ r, post s r ∧ LoopOk P B body (S s) (.leaf r) := by
  -- what one round does
  have one : ∀ (s1 : σ) (t : Tr (AX × St)), evC JS P call L N body (S s1) (kH B ws we g) = some (t, true) → ∀ F W0 ρ a W, Rl B F W0 ρ (S s1) a W →
      body.wp P (fun e a' W' => ∃ ρ', e = AXe t.get.1 ∧ ExtB B ρ ρ' ∧ Rl B F W0 ρ' t.get.2 a' W') a W := by
    intro s1 t ht F W0 ρ a W hr
    refine wp_mono (evC_ok hcall hm JS_ok body hL (S s1) _ _ ht rfl ρ a W hr) ?_
    rintro e a' W' ⟨ax, st', ρ', r', rfl, hk, ho, hle, he', hr'⟩
    simp only [kH, Option.some.injEq] at hk
    subst hk
    simp only [leS, Tr.get] at hle
    rw [hle]
    simp only [okS] at ho
    cases ax with
    | nrm =>
      obtain ⟨ρ2, h1, h2⟩ := (hr'.mask ws).gcO ho
      exact ⟨ρ2, rfl, he'.trans h1, h2⟩
    | ret =>
      obtain ⟨ρ2, h1, h2⟩ := (hr'.mask we).gcO ho
      exact ⟨ρ2, rfl, he'.trans h1, h2⟩
    | ext i =>
      obtain ⟨ρ2, h1, h2⟩ := (hr'.mask we).gcO ho
      exact ⟨ρ2, rfl, he'.trans h1, h2⟩
  have key : ∀ (n : Nat) (s1 : σ), inv s1 → μ s1 < n → ∃ r, r.1 ≠ .nrm ∧ post s1 r ∧ ∀ F W0 ρ1 a W, Rl B F W0 ρ1 (S s1) a W →
      Code.rounds P body (fun e a' W' => ∃ ρ', e = AXe r.1 ∧ ExtB B ρ1 ρ' ∧ Rl B F W0 ρ' r.2 a' W') n a W := by
    intro n
    induction n with
    | zero => intro s1 _ h; omega
    | succ n ih =>
      intro s1 hi hmu
      obtain ⟨t, ht, hcase⟩ := step s1 hi
      rcases hcase with ⟨s', hg, hi', hmu', hpost⟩ | ⟨r, hg, hne, hp⟩
      · obtain ⟨r, hne, hp, hrun⟩ := ih s' hi' (by omega)
        refine ⟨r, hne, hpost r hp, fun F W0 ρ1 a W hr1 => ?_⟩
        rw [rounds_succ]
        refine wp_mono (one s1 t ht F W0 ρ1 a W hr1) ?_
        rintro e a' W' ⟨ρ', he, hx, hr'⟩
        rw [hg.1] at he
        subst he
        have := hrun F W0 ρ' a' W' (hr'.weak hg.2)
        refine rounds_mono ?_ n a' W' this
        rintro e2 a2 W2 ⟨ρ2, h1, h2, h3⟩
        exact ⟨ρ2, h1, hx.trans h2, h3⟩
      · refine ⟨r, hne, hp, fun F W0 ρ1 a W hr1 => ?_⟩
        rw [rounds_succ]
        refine wp_mono (one s1 t ht F W0 ρ1 a W hr1) ?_
        rintro e a' W' ⟨ρ', he, hx, hr'⟩
        rw [hg.1] at he
        have hr2 := hr'.weak hg.2
        subst he
        obtain ⟨r1, r2⟩ := r
        cases r1 with
        | nrm => exact absurd rfl hne
        | ret => exact ⟨ρ', rfl, hx, hr2⟩
        | ext i => exact ⟨ρ', rfl, hx, hr2⟩
  obtain ⟨r, hne, hp, hrun⟩ := key (μ s + 1) s hs (by omega)
  exact ⟨r, hp, fun F W0 ρ a W hr => wp_loop_rounds (μ s + 1) (hrun F W0 ρ a W hr)⟩

theorem loop_indH {call : CallerT} (hcall : CallerTOk P call) (hm : P.follows .mixedOrders = true) {body : Code} {L : LoopOr} {N : Nat} {B : Nat} (hL : ∀ b st l, LoopIn b body → L b st = some (l, true) → LoopOk P B b st l) {σ : Type} (ws we : List Nat) (g : AX → St → Option (List Nat)) (S : σ → St) (inv : σ → Prop) (μ : σ → Nat) (res : σ → AX × St)
    (step : ∀ s, inv s → ∃ t, evC JS P call L N body (S s) (kH B ws we g) = some (t, true) ∧
      ((∃ s', XLe t.get (.nrm, S s') ∧ inv s' ∧ μ s' < μ s ∧ res s' = res s) ∨ (XLe t.get (res s) ∧ (res s).1 ≠ .nrm))) (s : σ) (hs : inv s) : LoopOk P B body (S s) (.leaf (res s)) := by
  obtain ⟨r, rfl, h⟩ := loop_exH hcall hm (N := N) B hL ws we g S inv μ (fun s r => r = res s) (fun s hi => by
    obtain ⟨t, ht, hc⟩ := step s hi
    refine ⟨t, ht, ?_⟩
    rcases hc with ⟨s', h1, h2, h3, h4⟩ | ⟨h1, h2⟩
    · exact .inl ⟨s', h1, h2, h3, fun r hr => by rw [hr, h4]⟩
    · exact .inr ⟨res s, h1, h2, rfl⟩) s hs
  exact h

/-- the same, where what an early end leaves hangs on the round -/
theorem loop_forH {call : CallerT} (hcall : CallerTOk P call) (hm : P.follows .mixedOrders = true) {body : Code} {L : LoopOr} {N : Nat} {B : Nat} (hL : ∀ b st l, LoopIn b body → L b st = some (l, true) → LoopOk P B b st l) (ws we : List Nat) (g : AX → St → Option (List Nat)) (S : Nat → St) (n : Nat) (ok : Nat → Bool) (early : Nat → AX × St) (exit : AX × St)
    (h1 : ∀ k, (early k).1 ≠ .nrm) (h2 : exit.1 ≠ .nrm)
    (step : ∀ k, k < n → allB k ok = true → ∃ t, evC JS P call L N body (S k) (kH B ws we g) = some (t, true) ∧ (ok k = true → XLe t.get (.nrm, S (k + 1))) ∧ (ok k = false → XLe t.get (early k)))
    (last : allB n ok = true → ∃ t, evC JS P call L N body (S n) (kH B ws we g) = some (t, true) ∧ XLe t.get exit) : LoopOk P B body (S 0) (.node (allB n ok) (.leaf exit) (.leaf (early (fb ok n)))) := by
  have := loop_indH hcall hm (N := N) hL ws we g S (fun k => k ≤ n ∧ allB k ok = true) (fun k => n - k) (fun _ => bif allB n ok then exit else early (fb ok n)) (fun k ⟨hk, ha⟩ => by
    rcases Nat.lt_or_ge k n with hlt | hge
    · obtain ⟨t, ht, ht1, ht2⟩ := step k hlt ha
      refine ⟨t, ht, ?_⟩
      cases hok : ok k with
      | true => exact .inl ⟨k + 1, ht1 hok, ⟨hlt, by simp [allB, ha, hok]⟩, by omega, rfl⟩
      | false =>
        right
        rw [allB_false hlt hok, fb_eq ha hok n hlt]
        exact ⟨ht2 hok, h1 k⟩
    · have : k = n := by omega
      subst this
      obtain ⟨t, ht, ht1⟩ := last ha
      refine ⟨t, ht, .inr ?_⟩
      rw [ha]
      exact ⟨ht1, h2⟩) 0 ⟨Nat.zero_le _, rfl⟩
  refine this.same ?_
  cases allB n ok <;> rfl

/-- a loop over `n` rounds -/
theorem loop_allH {call : CallerT} (hcall : CallerTOk P call) (hm : P.follows .mixedOrders = true) {body : Code} {L : LoopOr} {N : Nat} {B : Nat} (hL : ∀ b st l, LoopIn b body → L b st = some (l, true) → LoopOk P B b st l) (ws we : List Nat) (g : AX → St → Option (List Nat)) (S : Nat → St) (n : Nat) (exit : AX × St) (h2 : exit.1 ≠ .nrm)
    (step : ∀ k, k < n → ∃ t, evC JS P call L N body (S k) (kH B ws we g) = some (t, true) ∧ XLe t.get (.nrm, S (k + 1)))
    (last : ∃ t, evC JS P call L N body (S n) (kH B ws we g) = some (t, true) ∧ XLe t.get exit) : LoopOk P B body (S 0) (.leaf exit) := by
  exact loop_indH hcall hm (N := N) hL ws we g S (fun k => k ≤ n) (fun k => n - k) (fun _ => exit) (fun k hk => by
    rcases Nat.lt_or_ge k n with hlt | hge
    · obtain ⟨t, ht, ht1⟩ := step k hlt
      exact ⟨t, ht, .inl ⟨k + 1, ht1, hlt, by omega, rfl⟩⟩
    · have : k = n := by omega
      subst this
      obtain ⟨t, ht, ht1⟩ := last
      exact ⟨t, ht, .inr ⟨ht1, h2⟩⟩) 0 (Nat.zero_le _)


end
end Go.Sx
