/- A region in a drawn order whose last operation waits for all the others: that one may write memory. -/
import Derived.Test.YtpechflfloolkaaSxRegion
set_option linter.unusedSimpArgs false
set_option linter.unusedVariables false
namespace Go.Sx
open Go.RowKit

section
variable {P : Program} {ops : Array Oper} {C : World → Prop} {ρ : List Place} {md : Region.Mode}

/-- what is listed, with all that it waits for -/
def Down (md : Region.Mode) (ops : Array Oper) (listed : Array Bool) : Prop := ∀ j, listed.getD j false = true → ∀ k ∈ edgesOf md ops j, listed.getD k false = true

theorem edges_mem {j k : Nat} : k ∈ edgesOf md ops j ↔ ∃ o, ops[j]? = some o ∧ ∃ e ∈ o.after, Region.binds md e = true ∧ e.on = k := by
  unfold edgesOf
  cases h : ops[j]? with
  | none => simp
  | some o =>
    simp only [List.mem_map, List.mem_filter, Array.mem_toList_iff, Option.some.injEq, exists_eq_left']
    constructor
    · rintro ⟨e, ⟨h1, h2⟩, h3⟩; exact ⟨e, h1, h2, h3⟩
    · rintro ⟨e, h1, h2, h3⟩; exact ⟨e, ⟨h1, h2⟩, h3⟩

theorem ready_edges {j : Nat} {listed : Array Bool} (h : j ∈ Region.ready md ops listed) : ∀ k ∈ edgesOf md ops j, listed.getD k false = true := by
  intro k hk
  obtain ⟨o, ho, e, he, hb, rfl⟩ := edges_mem.1 hk
  obtain ⟨_, o', ho', hall⟩ := mem_ready.1 h
  rw [ho] at ho'
  cases ho'
  exact hall e he hb

theorem getD_set {listed : Array Bool} {i k : Nat} (h : listed.getD k false = true) : (listed.setIfInBounds i true).getD k false = true := by
  simp only [Array.getD_eq_getD_getElem?] at *
  by_cases hik : i = k
  · subst hik
    cases hg : listed[i]? with
    | none => rw [hg] at h; simp at h
    | some b =>
      have hlt := (Array.getElem?_eq_some_iff.1 hg).1
      rw [Array.getElem?_setIfInBounds_self_of_lt hlt]; rfl
  · rw [Array.getElem?_setIfInBounds_ne hik]; exact h

theorem Down.step {listed : Array Bool} (h : Down md ops listed) {i : Nat} (hi : i ∈ Region.ready md ops listed) : Down md ops (listed.setIfInBounds i true) := by
  intro j hj k hk
  apply getD_set
  by_cases hij : i = j
  · subst hij; exact ready_edges hi k hk
  · refine h j ?_ k hk
    simp only [Array.getD_eq_getD_getElem?] at *
    rwa [Array.getElem?_setIfInBounds_ne hij] at hj

theorem clo_listed {listed : Array Bool} (h : Down md ops listed) : ∀ (k : Nat) (acc : List Nat), (∀ j ∈ acc, listed.getD j false = true) → ∀ j ∈ cloFrom md ops k acc, listed.getD j false = true
  | 0, acc, ha, j, hj => ha j hj
  | k + 1, acc, ha, j, hj => by
    simp only [cloFrom] at hj
    refine clo_listed h k _ ?_ j hj
    cases hk : acc.any (Nat.beq k) with
    | false => simpa using ha
    | true =>
      simp only [cond_true]
      intro m hm
      rcases List.mem_append.1 hm with hm | hm
      · exact ha m hm
      · obtain ⟨x, hx, he⟩ := List.any_eq_true.1 hk
        have := Nat.eq_of_beq_eq_true he; subst this
        exact h k (ha k hx) m hm

/-- where the last one may come, all others have been -/
theorem last_all {z : Nat} (hz : ops.size = z + 1) (hc : cloB md ops = true) {listed : Array Bool} (h : Down md ops listed) (hr : z ∈ Region.ready md ops listed) : ∀ k, k < z → listed.getD k false = true := by
  intro k hk
  unfold cloB at hc
  rw [hz] at hc
  simp only [List.all_eq_true, List.mem_range] at hc
  obtain ⟨x, hx, he⟩ := List.any_eq_true.1 (hc k hk)
  have := Nat.eq_of_beq_eq_true he; subst this
  exact clo_listed h z _ (ready_edges hr) k hx

theorem getD_both {listed : Array Bool} {k : Nat} (h1 : listed.getD k true = false) (h2 : listed.getD k false = true) : False := by
  simp only [Array.getD_eq_getD_getElem?] at *
  cases hg : listed[k]? with
  | none => rw [hg] at h2; simp at h2
  | some b => rw [hg] at h1 h2; simp at h1 h2; rw [h1] at h2; cases h2

-- whatever order, the last one at the end
def anyZ (P : Program) (md : Region.Mode) (ops : Array Oper) (C : World → Prop) (ρ : List Place) (z : Nat) (K : List AV → Prop) : Nat → Array Bool → List AV → Prop
  | 0, listed, σ => z ∈ Region.ready md ops listed ∧ (∀ i ∈ Region.ready md ops listed, i = z) ∧ K σ ∧ Region.ready md ops (listed.setIfInBounds z true) = []
  | fuel + 1, listed, σ => Region.ready md ops listed ≠ [] ∧ z ∉ Region.ready md ops listed ∧
    ∀ i ∈ Region.ready md ops listed, ∃ o x, ops[i]? = some o ∧ YA P ops C ρ o x σ ∧ anyZ P md ops C ρ z K fuel (listed.setIfInBounds i true) (ptD σ o.dst x)

theorem anyZ_first {z : Nat} (hz : ops.size = z + 1) (hcl : cloB md ops = true) {K : List AV → Prop} {i : Nat} {oi : Oper} {x : AV} (hiz : i < z) (hC : ∃ W, C W) (hi : ops[i]? = some oi) (hsel : ∀ (j : Nat) (o : Oper) cs b, ops[j]? = some o → o.op ≠ .select cs b) :
    ∀ (fuel : Nat) (listed : Array Bool) (σ : List AV), (∃ a0 : Act, SRel ρ σ a0.tmps) → Down md ops listed →
      (∀ j oj, ops[j]? = some oj → j ≠ i → listed.getD j true = false → (∀ e ∈ oj.after, Region.binds md e = true → e.on ≠ i) → oi.apart ops oj = true) →
      i ∈ Region.ready md ops listed → YA P ops C ρ oi x σ →
      anyZ P md ops C ρ z K fuel (listed.setIfInBounds i true) (ptD σ oi.dst x) → anyZ P md ops C ρ z K (fuel + 1) listed σ := by
  intro fuel
  induction fuel with
  | zero =>
    intro listed σ _ hd _ hr hy H
    have hnz : z ∉ Region.ready md ops listed := fun h => getD_both (mem_ready.1 hr).1 (last_all hz hcl hd h i hiz)
    refine ⟨fun h => (by rw [h] at hr; cases hr), hnz, fun j hj => ?_⟩
    by_cases hji : j = i
    · subst hji; exact ⟨oi, x, hi, hy, H⟩
    · have := H.2.1 j (ready_mono hj hji)
      subst this
      exact absurd hj hnz
  | succ fuel ih =>
    intro listed σ ha hd hfree hr hy H
    have hnz : z ∉ Region.ready md ops listed := fun h => getD_both (mem_ready.1 hr).1 (last_all hz hcl hd h i hiz)
    refine ⟨fun h => (by rw [h] at hr; cases hr), hnz, fun j hj => ?_⟩
    by_cases hji : j = i
    · subst hji; exact ⟨oi, x, hi, hy, H⟩
    · obtain ⟨oj, y, hoj, hyj, hK⟩ := H.2.2 j (ready_mono hj hji)
      obtain ⟨hjun, oj', hoj', hall⟩ := mem_ready.1 hj
      rw [hoj] at hoj'; cases hoj'
      have hnot : ∀ e ∈ oj.after, Region.binds md e = true → e.on ≠ i := fun e he hb heq => by
        have h1 := hall e he hb
        have h0 := (mem_ready.1 hr).1
        rw [heq] at h1
        exact getD_both h0 h1
      have hap := hfree j oj hoj hji hjun hnot
      obtain ⟨p1, p2, p3⟩ := Oper.apart_spec hap
      obtain ⟨a0, ha0⟩ := ha
      have hyj' : YA P ops C ρ oj y σ := YA.move hC p1 (fun cs b => hsel j oj cs b hoj) hy hyj
      have hfree' : ∀ k ok, ops[k]? = some ok → k ≠ i → (listed.setIfInBounds j true).getD k true = false →
          (∀ e ∈ ok.after, Region.binds md e = true → e.on ≠ i) → oi.apart ops ok = true := fun k ok hk hki hun hno => by
        refine hfree k ok hk hki ?_ hno
        by_cases hjk : j = k
        · subst hjk; exact hjun
        · rw [getD_set_ne true hjk] at hun; exact hun
      refine ⟨oj, y, hoj, hyj', ih (listed.setIfInBounds j true) _ ?_ (hd.step hj) hfree' (ready_mono hr (Ne.symm hji)) (YA.put ha0 p3 (fun cs b => hsel i oi cs b hi) hy) ?_⟩
      · obtain ⟨v, hv⟩ := hyj'.val hC ha0
        exact ⟨_, ha0.ptD oj.dst hv⟩
      · rw [Array.setIfInBounds_comm _ _ hji, ← ptD_comm σ x y p2]
        exact hK

theorem anyZ_lex {z : Nat} (hz : ops.size = z + 1) (hcl : cloB md ops = true) {K : List AV → Prop} (hC : ∃ W, C W) (hs : Region.noSelect ops = true) : ∀ (l : List Oper) (k : Nat) (listed : Array Bool) (σ : List AV), (∃ a0 : Act, SRel ρ σ a0.tmps) → Down md ops listed →
    (∀ j, j < l.length → l[j]? = ops[k + j]?) → k + l.length = z → (∀ j, j < k → listed.getD j true = true) →
    Region.lexFrom md ops (l.length + 1) k listed = true → wpA P ops C ρ l σ K → anyZ P md ops C ρ z K l.length listed σ
  | [], k, listed, σ, _, hd, _, hkz, hlo, hB, h => by
    simp only [List.length_nil, Nat.add_zero] at hkz
    subst hkz
    simp only [List.length_nil, Nat.zero_add, Region.lexFrom, Bool.and_eq_true] at hB
    obtain ⟨⟨hr, hf⟩, hB'⟩ := hB
    refine ⟨by simpa using hr, fun i hi => ?_, h, by simpa using hB'⟩
    have h1 := (mem_ready.1 hi).1
    obtain ⟨_, o, ho, _⟩ := mem_ready.1 hi
    have hlt := (Array.getElem?_eq_some_iff.1 ho).1
    rcases Nat.lt_trichotomy i k with hik | hik | hik
    · rw [hlo i hik] at h1; cases h1
    · exact hik
    · omega
  | o :: l, k, listed, σ, ha, hd, hl, hkz, hlo, hB, ⟨x, hx, h⟩ => by
    have h0 : ops[k]? = some o := by simpa using (hl 0 (by simp)).symm
    rw [List.length_cons] at hB
    unfold Region.lexFrom at hB
    simp only [Bool.and_eq_true] at hB
    obtain ⟨⟨hr, hf⟩, hB'⟩ := hB
    obtain ⟨a0, ha0⟩ := ha
    obtain ⟨v, hv⟩ := hx.val hC ha0
    have hrk : k ∈ Region.ready md ops listed := by simpa using hr
    simp only [List.length_cons] at hkz
    refine anyZ_first hz hcl (by omega) hC h0 (Region.noSelect_spec hs) l.length listed σ ⟨a0, ha0⟩ hd (Region.free_spec h0 hf) hrk hx
      (anyZ_lex hz hcl hC hs l (k + 1) _ _ ⟨_, ha0.ptD o.dst hv⟩ (hd.step hrk) (fun j hj => by have := hl (j + 1) (by simp; omega); simpa [Nat.add_assoc, Nat.add_comm 1 j] using this) (by omega) ?_ hB' h)
    intro j hj
    by_cases hjk : j = k
    · subst hjk
      have hlt : ∀ b, (listed.setIfInBounds j true).getD j b = true ∨ listed.size ≤ j := fun b => by
        rcases Nat.lt_or_ge j listed.size with h | h
        · left; simp [Array.getD_eq_getD_getElem?, h]
        · exact .inr h
      rcases hlt true with h | h
      · exact h
      · simp [Array.getD_eq_getD_getElem?, Array.getElem?_eq_none (by simpa using h : (listed.setIfInBounds j true).size ≤ j)]
    · have hlj := hlo j (by omega)
      simp only [Array.getD_eq_getD_getElem?] at *
      rw [Array.getElem?_setIfInBounds_ne (Ne.symm hjk)]; exact hlj

theorem any_of_anyZ {z : Nat} {oz : Oper} (hoz : ops[z]? = some oz) {K : List AV → Prop} {Q : Exit → Act → World → Prop} {df : List Deferred}
    (hQ : ∀ σ (a : Act) W, SRel ρ σ a.tmps → a.defers = df → C W → K σ → ∀ K' : Act → World → Prop, (∀ a' W', Q .normal a' W' → K' a' W') → wpOp P ops Q z K' a W) :
    ∀ (fuel : Nat) (listed : Array Bool) (σ : List AV) (a : Act) (W : World), anyZ P md ops C ρ z K fuel listed σ → SRel ρ σ a.tmps → a.defers = df → C W → wpAny P md ops Q (fuel + 1) listed a W
  | 0, listed, σ, a, W, h, ha, hd, hW => by
    obtain ⟨h1, h2, h3, h4⟩ := h
    refine ⟨fun h0 => (by rw [h0] at h1; cases h1), fun i hi => ?_⟩
    have := h2 i hi
    subst this
    exact hQ σ a W ha hd hW h3 _ fun a' W' hq => ⟨h4, hq⟩
  | fuel + 1, listed, σ, a, W, h, ha, hd, hW => by
    obtain ⟨h1, h2, h3⟩ := h
    refine ⟨fun h0 => absurd h0 h1, fun i hi => ?_⟩
    obtain ⟨o, x, ho, hx, hr⟩ := h3 i hi
    unfold wpOp
    simp only [ho]
    rcases hx with hx | ⟨hx, rfl⟩
    · obtain ⟨hw, hok⟩ := hx a ha
      rw [if_pos hw]
      exact .inl (op_wp (σ := σ) (hok W hW) fun v W' hv hW' => any_of_anyZ hoz hQ fuel _ _ _ W' hr (ha.ptD o.dst hv) (by rw [put_defers]; exact hd) hW')
    · rw [if_neg (by rw [hx a ha]; simp)]
      exact any_of_anyZ hoz hQ fuel _ _ _ W hr (ha.ptD o.dst (by simp [VRel, VRels, undef])) (by rw [put_defers]; exact hd) hW
end

end Go.Sx
