/- What is printed is finite: bounds of overprints, roots, areas and their sums. -/
import Derived.Test.YtpnjimpiphbcfaaSxC5
import Derived.Test.YtpnjimpiphbcfaaSxFq
set_option linter.unusedVariables false
set_option linter.unusedSimpArgs false
set_option exponentiation.threshold 3000
namespace Go.Sx.C5
open Go.Sx Go.Sx.Fl

noncomputable def rt (x : Option Nat) : Option Nat := fnar (fsqrt (fwide x))
noncomputable def rok (x : Option Nat) : Bool := fnarOk (fsqrt (fwide x))
def kb (n i : Nat) : Bool := Nat.beq (n / 2 ^ i % 2) 1
/-- the overprint of a number, at a wavelength -/
noncomputable def oN (f : Nat → Option Nat) (n w : Nat) : Option Nat := ov f (kb n 0) (kb n 1) (kb n 2) (kb n 3) w
noncomputable def rF (f : Nat → Option Nat) (j : Nat) : Option Nat := rt (oN f (j / 16) (j % 16))
noncomputable def ar (x : Bool) (a : Option Nat) : Option Nat := cond x a (fop .sub .f32 (some 1065353216) a)
/-- the area of a number -/
noncomputable def area (c : Nat → Option Nat) (n : Nat) : Option Nat := mu (mu (mu (ar (kb n 0) (c 0)) (ar (kb n 1) (c 1))) (ar (kb n 2) (c 2))) (ar (kb n 3) (c 3))
noncomputable def gr (g : Option Nat) (c : Nat → Option Nat) (i : Nat) : Option Nat := grow g (c i)
/-- the sum at a wavelength -/
noncomputable def sm (a R : Nat → Option Nat) (w : Nat) : Nat → Option Nat
  | 0 => mu (a 0) (R (0 * 16 + w))
  | n + 1 => fop .add .f32 (sm a R w n) (mu (a (n + 1)) (R ((n + 1) * 16 + w)))
noncomputable def pr (f c R : Nat → Option Nat) (w : Nat) : Option Nat := mu (sm (area (gr (f 80) c)) R w 15) (sm (area (gr (f 80) c)) R w 15)

theorem FOk.or' {o : Option Nat} (h : FOk .f32 o) : o = none ∨ ∃ x, o = some x ∧ (FloatKind.f32.decode x).isNaN = false := by
  obtain ⟨b, _, hb⟩ := h
  unfold nrm at hb
  cases h : (FloatKind.f32.decode b).isNaN with
  | true => rw [h] at hb; exact .inl hb.symm
  | false => rw [h] at hb; exact .inr ⟨b, hb.symm, h⟩
theorem share {o : Option Nat} (ho : FOk .f32 o) (h : sh o = true) : LE 1 o := by
  obtain ⟨h1, h2⟩ := cond_t h
  exact LE_of_cmp (FOk.or' ho) NV_one h1 h2
theorem shL_get : ∀ {l : List (Option Nat)}, shL l = true → ∀ x ∈ l, sh x = true
  | [], _, x, hx => by cases hx
  | a :: t, h, x, hx => by
    unfold shL at h
    cases ha : sh a with
    | false => rw [ha] at h; cases h
    | true =>
      rw [ha] at h
      rcases List.mem_cons.1 hx with rfl | hx
      · exact ha
      · exact shL_get h x hx
theorem l16_mem (f : Nat → Option Nat) (b w : Nat) (h : w < 16) : f (b + w) ∈ l16 f b := by
  unfold l16
  rcases w with _ | _ | _ | _ | _ | _ | _ | _ | _ | _ | _ | _ | _ | _ | _ | _ | w <;> first | (simp; done) | omega
/-- all numbers of a valid press are shares -/
theorem pV_LE {f : Nat → Option Nat} (hF : ∀ i, FOk .f32 (f i)) (h : pV f = true) : (∀ i, i < 80 → LE 1 (f i)) ∧ LE 1 (f 80) := by
  unfold pV pS at h
  cases h1 : shL (l16 f 16) with
  | false => rw [h1] at h; cases h
  | true => cases h2 : shL (l16 f 32) with
    | false => rw [h1, h2] at h; cases h
    | true => cases h3 : shL (l16 f 48) with
      | false => rw [h1, h2, h3] at h; cases h
      | true => cases h4 : shL (l16 f 64) with
        | false => rw [h1, h2, h3, h4] at h; cases h
        | true =>
          rw [h1, h2, h3, h4] at h
          obtain ⟨h5, h6⟩ := cond_t h
          refine ⟨fun i hi => ?_, share (hF 80) h6⟩
          have key : ∀ b, shL (l16 f b) = true → b ≤ i → i < b + 16 → LE 1 (f i) := fun b hb h7 h8 => by
            have := shL_get hb _ (l16_mem f b (i - b) (by omega))
            rw [show b + (i - b) = i by omega] at this
            exact share (hF i) this
          rcases Nat.lt_or_ge i 16 with h7 | h7
          · exact key 0 h5 (by omega) (by omega)
          rcases Nat.lt_or_ge i 32 with h8 | h8
          · exact key 16 h1 h7 (by omega)
          rcases Nat.lt_or_ge i 48 with h9 | h9
          · exact key 32 h2 h8 (by omega)
          rcases Nat.lt_or_ge i 64 with h10 | h10
          · exact key 48 h3 h9 (by omega)
          · exact key 64 h4 h10 (by omega)
theorem mu1 {a b : Option Nat} (ha : LE 1 a) (hb : LE 1 b) : LE 1 (mu a b) := LE.mul (j := 1) (k := 1) ha hb (by decide)
theorem ov1_LE {k : Bool} {x y : Option Nat} (hx : LE 1 x) (hy : LE 1 y) : LE 1 (ov1 k x y) := by
  cases k
  · exact hx
  · exact mu1 hx hy
theorem oN_LE {f : Nat → Option Nat} (h : ∀ i, i < 80 → LE 1 (f i)) (n w : Nat) (hw : w < 16) : LE 1 (oN f n w) :=
  ov1_LE (ov1_LE (ov1_LE (ov1_LE (h _ (by omega)) (h _ (by omega))) (h _ (by omega))) (h _ (by omega))) (h _ (by omega))
theorem rok_true {f : Nat → Option Nat} (h : ∀ i, i < 80 → LE 1 (f i)) (n w : Nat) (hw : w < 16) : rok (oN f n w) = true := (root_LE (oN_LE h n w hw)).1
theorem rF_LE {f : Nat → Option Nat} (h : ∀ i, i < 80 → LE 1 (f i)) (j : Nat) : LE 2 (rF f j) := (root_LE (oN_LE h _ _ (Nat.mod_lt _ (by decide)))).2
theorem NV_four : NV (some 1082130432) (4 * 2 ^ 1074) := NV.of ⟨2 ^ 23, -21, by decide +kernel, by decide, by decide +kernel⟩
theorem gain_LE {g a : Option Nat} (hg : LE 1 g) (ha : LE 1 a) : LE 5 (gain g a) := by
  have h1 := mu1 (mu1 hg ha) ha.compl
  have h2 := LE.mul (j := 4) (k := 1) ⟨_, NV_four, Nat.le_refl _⟩ h1 (by decide)
  exact LE.add (j := 1) (k := 4 * 1) ha h2 (by decide)
theorem grow_LE {g a : Option Nat} (hg : LE 1 g) (ha : LE 1 a) : LE 1 (grow g a) := by
  obtain ⟨B, h1, _⟩ := gain_LE hg ha
  unfold grow
  cases h : fcmp .gtr .f32 (gain g a) (some 1065353216) with
  | true => exact ⟨_, NV_one, Nat.le_refl _⟩
  | false =>
    have := (fcmp_NV h1 NV_one).1
    rw [h] at this
    have := of_decide_eq_false this.symm
    exact ⟨B, h1, by omega⟩
theorem ar_LE {x : Bool} {a : Option Nat} (ha : LE 1 a) : LE 1 (ar x a) := by
  cases x
  · exact ha.compl
  · exact ha
theorem area_LE {c : Nat → Option Nat} (hc : ∀ i, i < 4 → LE 1 (c i)) (n : Nat) : LE 1 (area c n) :=
  mu1 (mu1 (mu1 (ar_LE (hc 0 (by decide))) (ar_LE (hc 1 (by decide)))) (ar_LE (hc 2 (by decide)))) (ar_LE (hc 3 (by decide)))
theorem sm_LE {a R : Nat → Option Nat} (ha : ∀ n, LE 1 (a n)) (hR : ∀ j, LE 2 (R j)) (w : Nat) : ∀ n, n ≤ 15 → LE (2 * (n + 1)) (sm a R w n)
  | 0, _ => LE.mul (j := 1) (k := 2) (ha 0) (hR _) (by decide)
  | n + 1, h => by
    have h1 := sm_LE ha hR w n (by omega)
    have h2 := LE.mul (j := 1) (k := 2) (ha (n + 1)) (hR ((n + 1) * 16 + w)) (by decide)
    have h3 : 2 * (n + 1) + 1 * 2 ≤ 2 ^ 24 := by
      have : (2 : Nat) ^ 24 = 16777216 := by decide
      omega
    exact (LE.add h1 h2 h3).mono (by omega)
theorem pr_fin {f c R : Nat → Option Nat} (hg : LE 1 (f 80)) (hc : ∀ i, i < 4 → LE 1 (c i)) (hR : ∀ j, LE 2 (R j)) (w : Nat) : finS (pr f c R w) = true := by
  have ha := area_LE (c := gr (f 80) c) fun i hi => grow_LE hg (hc i hi)
  have h1 := sm_LE ha hR w 15 (Nat.le_refl _)
  have h32 : 2 * (15 + 1) = 32 := rfl
  rw [h32] at h1
  exact finS_LE (LE.mul (j := 32) (k := 32) h1 h1 (by decide))
theorem cov_LE {c : Nat → Option Nat} (hF : ∀ i, FOk .f32 (c i)) (h : cov (c 0) (c 1) (c 2) (c 3) = true) : ∀ i, i < 4 → LE 1 (c i) := by
  obtain ⟨h, h3⟩ := cond_t h
  obtain ⟨h, h2⟩ := cond_t h
  obtain ⟨h0, h1⟩ := cond_t h
  intro i hi
  rcases i with _ | _ | _ | _ | i
  · exact share (hF 0) h0
  · exact share (hF 1) h1
  · exact share (hF 2) h2
  · exact share (hF 3) h3
  · omega
/-- numbers that came in -/
def AllO : List (Option Nat) → Prop
  | [] => True
  | x :: t => FOk .f32 x ∧ AllO t
theorem FOk_none : FOk .f32 none := ⟨2143289344, by decide, by decide +kernel⟩
theorem AllO.getD : ∀ {l : List (Option Nat)}, AllO l → ∀ i, FOk .f32 (l.getD i none)
  | [], _, i => by simpa using FOk_none
  | x :: t, h, 0 => h.1
  | x :: t, h, i + 1 => by
    have := AllO.getD h.2 i
    simpa using this
end Go.Sx.C5
