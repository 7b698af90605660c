/- A region in a drawn order whose last operation waits for all the others: that one may write memory. -/
import Derived.Test.YtpnjimpiphbcfaaSxRegion
set_option linter.unusedSimpArgs false
set_option linter.unusedVariables false
namespace Go.Sx
open Go.RowKit

section
variable {P : Program} {ops : Array Oper} {C : World → Prop} {ρ : List Place} {md : Region.Mode}

/-- what is listed, with all that it waits for -/
def Down (md : Region.Mode) (ops : Array Oper) (listed : Array Bool) : Prop := ∀ j, listed.getD j false = true → ∀ k ∈ edgesOf md ops j, listed.getD k false = true

theorem edges_mem {j k : Nat} : k ∈ edgesOf md ops j ↔ ∃ o, ops[j]? = some o ∧ ∃ e ∈ o.after, Region.binds md e = true ∧ e.on = k := by
  unfold edgesOf
  cases h : ops[j]? with
  | none => simp
  | some o =>
    simp only [List.mem_map, List.mem_filter, Array.mem_toList_iff, Option.some.injEq, exists_eq_left']
    constructor
    · rintro ⟨e, ⟨h1, h2⟩, h3⟩; exact ⟨e, h1, h2, h3⟩
    · rintro ⟨e, h1, h2, h3⟩; exact ⟨e, ⟨h1, h2⟩, h3⟩

theorem ready_edges {j : Nat} {listed : Array Bool} (h : j ∈ Region.ready md ops listed) : ∀ k ∈ edgesOf md ops j, listed.getD k false = true := by
  intro k hk
  obtain ⟨o, ho, e, he, hb, rfl⟩ := edges_mem.1 hk
  obtain ⟨_, o', ho', hall⟩ := mem_ready.1 h
  rw [ho] at ho'
  cases ho'
  exact hall e he hb

theorem getD_set {listed : Array Bool} {i k : Nat} (h : listed.getD k false = true) : (listed.setIfInBounds i true).getD k false = true := by
  simp only [Array.getD_eq_getD_getElem?] at *
  by_cases hik : i = k
  · subst hik
    cases hg : listed[i]? with
    | none => rw [hg] at h; simp at h
    | some b =>
      have hlt := (Array.getElem?_eq_some_iff.1 hg).1
      rw [Array.getElem?_setIfInBounds_self_of_lt hlt]; rfl
  · rw [Array.getElem?_setIfInBounds_ne hik]; exact h

theorem Down.step {listed : Array Bool} (h : Down md ops listed) {i : Nat} (hi : i ∈ Region.ready md ops listed) : Down md ops (listed.setIfInBounds i true) := by
  intro j hj k hk
  apply getD_set
  by_cases hij : i = j
  · subst hij; exact ready_edges hi k hk
  · refine h j ?_ k hk
    simp only [Array.getD_eq_getD_getElem?] at *
    rwa [Array.getElem?_setIfInBounds_ne hij] at hj

theorem clo_listed {listed : Array Bool} (h : Down md ops listed) : ∀ (k : Nat) (acc : List Nat), (∀ j ∈ acc, listed.getD j false = true) → ∀ j ∈ cloFrom md ops k acc, listed.getD j false = true
  | 0, acc, ha, j, hj => ha j hj
  | k + 1, acc, ha, j, hj => by
    simp only [cloFrom] at hj
    refine clo_listed h k _ ?_ j hj
    cases hk : acc.any (Nat.beq k) with
    | false => simpa using ha
    | true =>
      simp only [cond_true]
      intro m hm
      rcases List.mem_append.1 hm with hm | hm
      · exact ha m hm
      · obtain ⟨x, hx, he⟩ := List.any_eq_true.1 hk
        have := Nat.eq_of_beq_eq_true he; subst this
        exact h k (ha k hx) m hm

theorem getD_both {listed : Array Bool} {k : Nat} (h1 : listed.getD k true = false) (h2 : listed.getD k false = true) : False := by
  simp only [Array.getD_eq_getD_getElem?] at *
  cases hg : listed[k]? with
  | none => rw [hg] at h2; simp at h2
  | some b => rw [hg] at h1 h2; simp at h1 h2; rw [h1] at h2; cases h2
end

end Go.Sx
