/- A region's operations one after the other, and in whatever order the region draws. -/
import Derived.Test.YtpnjimpiphbcfaaSxOp3
import Derived.Tactics
set_option linter.unusedSimpArgs false
set_option linter.unusedVariables false
namespace Go.Sx
open Go.RowKit

section
variable {P : Program} {ops : Array Oper} {C : World → Prop} {ρ : List Place}

/-- what an operation yields at all frames that the slots stand for -/
def YA (P : Program) (ops : Array Oper) (C : World → Prop) (ρ : List Place) (o : Oper) (x : AV) (σ : List AV) : Prop :=
  (∀ a : Act, SRel ρ σ a.tmps → Region.wanted o (yielded ops a.tmps) = true ∧ ∀ W, C W → OkNext P C (VRel ρ x) ((execOp a.eval o).run P W)) ∨
  ((∀ a : Act, SRel ρ σ a.tmps → Region.wanted o (yielded ops a.tmps) = false) ∧ x = .tup [])

def ptD (σ : List AV) (d : Option Tmp) (x : AV) : List AV :=
  match d with
  | some t => pt σ t x
  | none => σ

/-- the operations in the order of the text -/
def wpA (P : Program) (ops : Array Oper) (C : World → Prop) (ρ : List Place) : List Oper → List AV → (List AV → Prop) → Prop
  | [], σ, K => K σ
  | o :: t, σ, K => ∃ x, YA P ops C ρ o x σ ∧ wpA P ops C ρ t (ptD σ o.dst x) K

theorem wpA_mono {K K' : List AV → Prop} (h : ∀ σ, K σ → K' σ) : ∀ (l : List Oper) (σ : List AV), wpA P ops C ρ l σ K → wpA P ops C ρ l σ K'
  | [], σ, hh => h σ hh
  | o :: t, σ, ⟨x, hx, hh⟩ => ⟨x, hx, wpA_mono h t _ hh⟩
theorem wpA_append {K : List AV → Prop} : ∀ (l m : List Oper) (σ : List AV), wpA P ops C ρ l σ (fun σ => wpA P ops C ρ m σ K) → wpA P ops C ρ (l ++ m) σ K
  | [], m, σ, h => h
  | o :: t, m, σ, ⟨x, hx, h⟩ => ⟨x, hx, wpA_append t m _ h⟩

theorem ptD_len (σ : List AV) (d : Option Tmp) (x : AV) : (ptD σ d x).length = σ.length := by cases d <;> simp [ptD, pt_len]
theorem ptD_other {σ : List AV} {d : Option Tmp} {x : AV} {i : Nat} (h : d ≠ some i) : (ptD σ d x)[i]? = σ[i]? := by
  cases d with
  | none => rfl
  | some t =>
    simp only [ptD, pt_get]
    rw [if_neg]
    rintro ⟨rfl, _⟩
    exact h rfl

/-- nothing but the operations' own places turns -/
theorem wpA_keep {K : List AV → Prop} : ∀ (l : List Oper) (σ : List AV), wpA P ops C ρ l σ K → wpA P ops C ρ l σ (fun σ' => K σ' ∧ σ'.length = σ.length ∧ ∀ i, (∀ o ∈ l, o.dst ≠ some i) → σ'[i]? = σ[i]?)
  | [], σ, h => ⟨h, rfl, fun _ _ => rfl⟩
  | o :: t, σ, ⟨x, hx, h⟩ => ⟨x, hx, wpA_mono (fun σ' ⟨h1, h2, h3⟩ => ⟨h1, by rw [h2, ptD_len], fun i hi => by
      rw [h3 i fun o' ho' => hi o' (List.mem_cons_of_mem _ ho'), ptD_other (hi o List.mem_cons_self)]⟩) t _ (wpA_keep t _ h)⟩

theorem SRel.ptD {σ : List AV} {a : Act} (h : SRel ρ σ a.tmps) (d : Option Tmp) {x : AV} {v : Value} (hv : VRel ρ x v) : SRel ρ (Sx.ptD σ d x) (a.put d v).tmps := by
  cases d with
  | none => exact h
  | some t => exact h.pt t hv

/-- a value is there -/
theorem ok_some {V : Value → Prop} {r : Result Next} (h : OkNext P C V r) : ∃ v, V v := by
  cases r with
  | halt x w => exact h.elim
  | ok n w =>
    cases n <;> simp only [OkNext] at h
    case value u => exact ⟨u, h.2⟩
    case skip => exact ⟨_, h.2⟩
    case enter f args =>
      obtain ⟨e, w', fr, ⟨v, _, hv, _⟩, _⟩ := h []
      exact ⟨v, hv⟩

theorem YA.val (hC : ∃ W, C W) {o : Oper} {x : AV} {σ : List AV} (h : YA P ops C ρ o x σ) {a : Act} (ha : SRel ρ σ a.tmps) : ∃ v, VRel ρ x v := by
  rcases h with h | ⟨_, rfl⟩
  · obtain ⟨W, hW⟩ := hC
    exact ok_some ((h a ha).2 W hW)
  · exact ⟨undef, by simp [VRel, VRels, undef]⟩

-- whatever order
def anyA (P : Program) (md : Region.Mode) (ops : Array Oper) (C : World → Prop) (ρ : List Place) (K : List AV → Prop) : Nat → Array Bool → List AV → Prop
  | 0, listed, σ => Region.ready md ops listed = [] ∧ K σ
  | fuel + 1, listed, σ => (Region.ready md ops listed = [] → K σ) ∧
    ∀ i ∈ Region.ready md ops listed, ∃ o x, ops[i]? = some o ∧ YA P ops C ρ o x σ ∧ anyA P md ops C ρ K fuel (listed.setIfInBounds i true) (ptD σ o.dst x)

theorem ptD_comm (σ : List AV) {d e : Option Tmp} (x y : AV) (h : ∀ t, d = some t → e ≠ some t) : ptD (ptD σ d x) e y = ptD (ptD σ e y) d x := by
  cases d with
  | none => rfl
  | some t =>
    cases e with
    | none => rfl
    | some u =>
      have hne : u ≠ t := fun he => h t rfl (by rw [he])
      apply List.ext_getElem?
      intro i
      simp only [ptD, pt_get, pt_len]
      by_cases h1 : u = i ∧ u < σ.length
      · rw [if_pos h1, if_neg (by rintro ⟨rfl, _⟩; exact hne h1.1), if_pos h1]
      · rw [if_neg h1]
        by_cases h2 : t = i ∧ t < σ.length
        · rw [if_pos h2, if_pos h2]
        · rw [if_neg h2, if_neg h2, if_neg h1]

/-- an operation apart from another yields the same before and behind it -/
theorem YA.move {oi oj : Oper} {x y : AV} {σ : List AV} (hC : ∃ W, C W) (hap : ∀ t, oi.dst = some t → t ∉ oj.looksAt ops) (hsj : ∀ cs b, oj.op ≠ .select cs b)
    (hi : YA P ops C ρ oi x σ) (hj : YA P ops C ρ oj y (ptD σ oi.dst x)) : YA P ops C ρ oj y σ := by
  rcases hj with hj | ⟨hj, rfl⟩
  · left
    intro a ha
    obtain ⟨v, hv⟩ := hi.val hC ha
    have := hj (a.put oi.dst v) (ha.ptD oi.dst hv)
    rw [wanted_put oj a oi.dst v hap, execOp_put oj hsj a oi.dst v hap] at this
    exact this
  · right
    refine ⟨fun a ha => ?_, rfl⟩
    obtain ⟨v, hv⟩ := hi.val hC ha
    have := hj (a.put oi.dst v) (ha.ptD oi.dst hv)
    rwa [wanted_put oj a oi.dst v hap] at this

/-- a frame before one that has been put -/
theorem unput {σ : List AV} {a0 : Act} (h0 : SRel ρ σ a0.tmps) (d : Option Tmp) (y : AV) (a : Act) (ha : SRel ρ (ptD σ d y) a.tmps) : ∃ (a' : Act) (v : Value), SRel ρ σ a'.tmps ∧ a = a'.put d v := by
  cases d with
  | none => exact ⟨a, undef, ha, rfl⟩
  | some t =>
    by_cases ht : t < σ.length
    · have hsz : a.tmps.size = σ.length := by rw [ha.len]; simp [ptD, pt_len]
      have hta : t < a.tmps.size := by rw [hsz]; exact ht
      obtain ⟨v0, hv0, hr0⟩ := h0.get t σ[t] (List.getElem?_eq_getElem ht)
      refine ⟨{ a with tmps := a.tmps.setIfInBounds t v0 }, a.tmps[t], ⟨by simp [hsz], fun i z hi => ?_⟩, ?_⟩
      · by_cases hit : t = i
        · subst hit
          rw [List.getElem?_eq_getElem ht] at hi
          cases hi
          exact ⟨v0, by simp [hta], hr0⟩
        · obtain ⟨w, hw, hr⟩ := ha.get i z (by simp only [ptD, pt_get]; rw [if_neg (fun h => hit h.1)]; exact hi)
          exact ⟨w, by simp [Array.getElem?_setIfInBounds_ne hit, hw], hr⟩
      · obtain ⟨tm, df⟩ := a
        simp only [Act.put, Act.mk.injEq, and_true]
        apply Array.ext_getElem?
        intro i
        by_cases hit : t = i
        · subst hit
          rw [Array.getElem?_setIfInBounds_self_of_lt (by simpa using hta), Array.getElem?_eq_getElem hta]
        · rw [Array.getElem?_setIfInBounds_ne hit, Array.getElem?_setIfInBounds_ne hit]
    · refine ⟨a, undef, ⟨by rw [ha.len]; simp [ptD, pt_len], fun i z hi => ha.get i z (by simp only [ptD, pt_get]; rw [if_neg (fun h => ht h.2)]; exact hi)⟩, ?_⟩
      obtain ⟨tm, df⟩ := a
      have hsz : tm.size = σ.length := by have := ha.len; simpa [ptD, pt_len] using this
      simp only [Act.put, Act.mk.injEq, and_true]
      rw [Array.setIfInBounds_eq_of_size_le (by rw [hsz]; exact Nat.le_of_not_lt ht)]

theorem YA.put {oi oj : Oper} {x y : AV} {σ : List AV} {a0 : Act} (h0 : SRel ρ σ a0.tmps) (hap : ∀ t, oj.dst = some t → t ∉ oi.looksAt ops) (hsi : ∀ cs b, oi.op ≠ .select cs b)
    (hi : YA P ops C ρ oi x σ) : YA P ops C ρ oi x (ptD σ oj.dst y) := by
  rcases hi with hi | ⟨hi, rfl⟩
  · left
    intro a ha
    obtain ⟨a', v, ha', rfl⟩ := unput h0 oj.dst y a ha
    rw [wanted_put oi a' oj.dst v hap, execOp_put oi hsi a' oj.dst v hap]
    exact hi a' ha'
  · right
    refine ⟨fun a ha => ?_, rfl⟩
    obtain ⟨a', v, ha', rfl⟩ := unput h0 oj.dst y a ha
    rw [wanted_put oi a' oj.dst v hap]
    exact hi a' ha'

/-- an operation that may come up now may be taken first, if every other one either waits for it or is apart from it -/
theorem anyA_first {md : Region.Mode} {K : List AV → Prop} {i : Nat} {oi : Oper} {x : AV} (hC : ∃ W, C W) (hi : ops[i]? = some oi) (hsel : ∀ (j : Nat) (o : Oper) cs b, ops[j]? = some o → o.op ≠ .select cs b) :
    ∀ (fuel : Nat) (listed : Array Bool) (σ : List AV), (∃ a0 : Act, SRel ρ σ a0.tmps) →
      (∀ j oj, ops[j]? = some oj → j ≠ i → listed.getD j true = false → (∀ e ∈ oj.after, Region.binds md e = true → e.on ≠ i) → oi.apart ops oj = true) →
      i ∈ Region.ready md ops listed → YA P ops C ρ oi x σ →
      anyA P md ops C ρ K fuel (listed.setIfInBounds i true) (ptD σ oi.dst x) → anyA P md ops C ρ K (fuel + 1) listed σ := by
  intro fuel
  induction fuel with
  | zero =>
    intro listed σ _ _ hr hy H
    refine ⟨fun h => (by rw [h] at hr; cases hr), fun j hj => ?_⟩
    by_cases hji : j = i
    · subst hji; exact ⟨oi, x, hi, hy, H⟩
    · have := ready_mono hj hji
      rw [H.1] at this
      cases this
  | succ fuel ih =>
    intro listed σ ha hfree hr hy H
    refine ⟨fun h => (by rw [h] at hr; cases hr), fun j hj => ?_⟩
    by_cases hji : j = i
    · subst hji; exact ⟨oi, x, hi, hy, H⟩
    · obtain ⟨oj, y, hoj, hyj, hK⟩ := H.2 j (ready_mono hj hji)
      obtain ⟨hjun, oj', hoj', hall⟩ := mem_ready.1 hj
      rw [hoj] at hoj'; cases hoj'
      have hnot : ∀ e ∈ oj.after, Region.binds md e = true → e.on ≠ i := fun e he hb heq => by
        have h1 := hall e he hb
        have h0 := (mem_ready.1 hr).1
        rw [heq] at h1
        rcases Nat.lt_or_ge i listed.size with h' | h'
        · simp [h'] at h0 h1; rw [h0] at h1; cases h1
        · simp [Array.getElem?_eq_none h'] at h1
      have hap := hfree j oj hoj hji hjun hnot
      obtain ⟨p1, p2, p3⟩ := Oper.apart_spec hap
      obtain ⟨a0, ha0⟩ := ha
      have hyj' : YA P ops C ρ oj y σ := YA.move hC p1 (fun cs b => hsel j oj cs b hoj) hy hyj
      have hfree' : ∀ k ok, ops[k]? = some ok → k ≠ i → (listed.setIfInBounds j true).getD k true = false →
          (∀ e ∈ ok.after, Region.binds md e = true → e.on ≠ i) → oi.apart ops ok = true := fun k ok hk hki hun hno => by
        refine hfree k ok hk hki ?_ hno
        by_cases hjk : j = k
        · subst hjk; exact hjun
        · rw [getD_set_ne true hjk] at hun; exact hun
      refine ⟨oj, y, hoj, hyj', ih (listed.setIfInBounds j true) _ ?_ hfree' (ready_mono hr (Ne.symm hji)) (YA.put ha0 p3 (fun cs b => hsel i oi cs b hi) hy) ?_⟩
      · obtain ⟨v, hv⟩ := hyj'.val hC ha0
        exact ⟨_, ha0.ptD oj.dst hv⟩
      · rw [Array.setIfInBounds_comm _ _ hji, ← ptD_comm σ x y p2]
        exact hK

theorem anyA_lex {K : List AV → Prop} {md : Region.Mode} (hC : ∃ W, C W) (hs : Region.noSelect ops = true) : ∀ (l : List Oper) (k : Nat) (listed : Array Bool) (σ : List AV), (∃ a0 : Act, SRel ρ σ a0.tmps) → (∀ j, l[j]? = ops[k + j]?) →
    Region.lexFrom md ops l.length k listed = true → wpA P ops C ρ l σ K → anyA P md ops C ρ K l.length listed σ
  | [], _, _, _, _, _, hB, h => ⟨by simpa [Region.lexFrom] using hB, h⟩
  | o :: l, k, listed, σ, ha, hl, hB, ⟨x, hx, h⟩ => by
    have h0 : ops[k]? = some o := by simpa using (hl 0).symm
    simp only [List.length_cons, Region.lexFrom, Bool.and_eq_true] at hB
    obtain ⟨⟨hr, hf⟩, hB'⟩ := hB
    obtain ⟨a0, ha0⟩ := ha
    obtain ⟨v, hv⟩ := hx.val hC ha0
    exact anyA_first hC h0 (Region.noSelect_spec hs) l.length listed σ ⟨a0, ha0⟩ (Region.free_spec h0 hf) (by simpa using hr) hx
      (anyA_lex hC hs l (k + 1) _ _ ⟨_, ha0.ptD o.dst hv⟩ (fun j => by have := hl (j + 1); simpa [Nat.add_assoc, Nat.add_comm 1 j] using this) hB' h)

/-- from slots to frames -/
theorem op_wp {o : Oper} {x : AV} {σ : List AV} {a : Act} {W : World} {K : Act → World → Prop} {Q : Exit → Act → World → Prop} (hx : OkNext P C (VRel ρ x) ((execOp a.eval o).run P W))
    (hK : ∀ v W', VRel ρ x v → C W' → K (a.put o.dst v) W') : o.wp P a W K Q := by
  unfold Oper.wp
  generalize (execOp a.eval o).run P W = r at hx
  cases r with
  | halt h w => exact hx.elim
  | ok n w =>
    cases n <;> simp only [OkNext] at hx <;> simp only [Oper.upon]
    case value u => exact hK u w hx.2 hx.1
    case skip => exact hK _ w hx.2 hx.1
    case enter f args => exact hx.mono fun e w'' ⟨v, he, hv, hw⟩ => by subst he; exact hK v w'' hv hw

theorem any_of_anyA {md : Region.Mode} {K : List AV → Prop} {Q : Exit → Act → World → Prop} {df : List Deferred} (hQ : ∀ σ (a : Act) W, SRel ρ σ a.tmps → a.defers = df → C W → K σ → Q .normal a W) :
    ∀ (fuel : Nat) (listed : Array Bool) (σ : List AV) (a : Act) (W : World), anyA P md ops C ρ K fuel listed σ → SRel ρ σ a.tmps → a.defers = df → C W → wpAny P md ops Q fuel listed a W
  | 0, _, σ, a, W, h, ha, hd, hW => ⟨h.1, hQ σ a W ha hd hW h.2⟩
  | fuel + 1, listed, σ, a, W, h, ha, hd, hW => ⟨fun h0 => hQ σ a W ha hd hW (h.1 h0), fun i hi => by
    obtain ⟨o, x, ho, hx, hr⟩ := h.2 i hi
    unfold wpOp
    simp only [ho]
    rcases hx with hx | ⟨hx, rfl⟩
    · obtain ⟨hw, hok⟩ := hx a ha
      rw [if_pos hw]
      exact .inl (op_wp (σ := σ) (hok W hW) fun v W' hv hW' => any_of_anyA hQ fuel _ _ _ W' hr (ha.ptD o.dst hv) (by rw [put_defers]; exact hd) hW')
    · rw [if_neg (by rw [hx a ha]; simp)]
      exact any_of_anyA hQ fuel _ _ _ W hr (ha.ptD o.dst (by simp [VRel, VRels, undef])) (by rw [put_defers]; exact hd) hW⟩

/-- a list of operations, with what follows -/
def wpK (P : Program) (ops : Array Oper) (Q : Exit → Act → World → Prop) (K : Act → World → Prop) : List Oper → Act → World → Prop
  | [], a, w => K a w
  | o :: rest, a, w => if Region.wanted o (yielded ops a.tmps) then o.wp P a w (wpK P ops Q K rest) Q ∨ (o.asks P a w ∧ LetsOut Q) else wpK P ops Q K rest (a.put o.dst undef) w
theorem wpK_list {Q : Exit → Act → World → Prop} : ∀ (l : List Oper), wpK P ops Q (Q .normal) l = wpList P ops Q l
  | [] => rfl
  | o :: t => by funext a w; simp only [wpK, wpList, wpK_list t]
theorem wpK_append {Q : Exit → Act → World → Prop} {K : Act → World → Prop} : ∀ (l m : List Oper) , wpK P ops Q K (l ++ m) = wpK P ops Q (wpK P ops Q K m) l
  | [], m => rfl
  | o :: t, m => by funext a w; simp only [List.cons_append, wpK, wpK_append t m]

theorem wpK_of_wpA {K : List AV → Prop} {Q : Exit → Act → World → Prop} {K' : Act → World → Prop} {df : List Deferred} (hQ : ∀ σ (a : Act) W, SRel ρ σ a.tmps → a.defers = df → C W → K σ → K' a W) :
    ∀ (l : List Oper) (σ : List AV) (a : Act) (W : World), wpA P ops C ρ l σ K → SRel ρ σ a.tmps → a.defers = df → C W → wpK P ops Q K' l a W
  | [], σ, a, W, h, ha, hd, hW => hQ σ a W ha hd hW h
  | o :: t, σ, a, W, ⟨x, hx, h⟩, ha, hd, hW => by
    unfold wpK
    rcases hx with hx | ⟨hx, rfl⟩
    · obtain ⟨hw, hok⟩ := hx a ha
      rw [if_pos hw]
      exact .inl (op_wp (σ := σ) (hok W hW) fun v W' hv hW' => wpK_of_wpA hQ t _ _ W' h (ha.ptD o.dst hv) (by rw [put_defers]; exact hd) hW')
    · rw [if_neg (by rw [hx a ha]; simp)]
      exact wpK_of_wpA hQ t _ _ W h (ha.ptD o.dst (by simp [VRel, VRels, undef])) (by rw [put_defers]; exact hd) hW
end

end Go.Sx
