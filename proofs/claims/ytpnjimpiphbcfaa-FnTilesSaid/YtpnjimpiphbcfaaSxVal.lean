/- A region's operations that leave memory as it is: what the executor says of them all. -/
import Derived.Test.YtpnjimpiphbcfaaSxRegion
set_option linter.unusedSimpArgs false
set_option linter.unusedVariables false
namespace Go.Sx
open Go.RowKit

/-- slots that say no less -/
def Le (ρ : List Place) (σ τ : List AV) : Prop := σ.length = τ.length ∧ ∀ i v, VRel ρ (gt σ i) v → VRel ρ (gt τ i) v
theorem Le.refl (ρ : List Place) (σ : List AV) : Le ρ σ σ := ⟨rfl, fun _ _ h => h⟩
theorem Le.trans {ρ : List Place} {a b c : List AV} (h : Le ρ a b) (k : Le ρ b c) : Le ρ a c := ⟨h.1.trans k.1, fun i v hv => k.2 i v (h.2 i v hv)⟩

theorem gt_some {l : List AV} {i : Nat} {x : AV} (h : l[i]? = some x) : gt l i = x := by rw [gt_get, h]; rfl
theorem gt_pt (l : List AV) (i j : Nat) (x : AV) : gt (pt l i x) j = if i = j ∧ i < l.length then x else gt l j := by
  rw [gt_get, pt_get]
  split
  · rfl
  · rw [gt_get]

theorem SRel.le {ρ : List Place} {σ τ : List AV} {tmps : Array Value} (h : SRel ρ σ tmps) (hl : Le ρ σ τ) : SRel ρ τ tmps := by
  refine ⟨h.len.trans hl.1, fun i x hi => ?_⟩
  have hlt : i < σ.length := by rw [hl.1]; exact (List.getElem?_eq_some_iff.1 hi).1
  obtain ⟨v, hv, hr⟩ := h.get i σ[i] (List.getElem?_eq_getElem hlt)
  refine ⟨v, hv, ?_⟩
  have := hl.2 i v (by rw [gt_some (List.getElem?_eq_getElem hlt)]; exact hr)
  rwa [gt_some hi] at this

theorem Le.ptD {ρ : List Place} {σ τ : List AV} (h : Le ρ σ τ) (d : Option Tmp) {x y : AV} (hxy : ∀ v, VRel ρ x v → VRel ρ y v) : Le ρ (Sx.ptD σ d x) (Sx.ptD τ d y) := by
  cases d with
  | none => exact h
  | some t =>
    refine ⟨by simp [Sx.ptD, pt_len, h.1], fun i v hv => ?_⟩
    simp only [Sx.ptD, gt_pt] at *
    split at hv
    · rename_i hc; rw [if_pos ⟨hc.1, by rw [← h.1]; exact hc.2⟩]; exact hxy v hv
    · rename_i hc; rw [if_neg (fun e => hc ⟨e.1, by rw [h.1]; exact e.2⟩)]; exact h.2 i v hv

theorem putDst_slots (st : St) (d : Option Tmp) (x : AV) : (putDst st d x).slots = ptD st.slots d x := by cases d <;> rfl

def AsmOk (ρ : List Place) (all : Array Oper) (asm : List (Nat × Bool)) (l : List Oper) (σ : List AV) : Prop :=
  ∀ j b, memG asm (j, b) = true → ∃ d, dstOf all j = some d ∧ d < σ.length ∧ (∀ v, VRel ρ (gt σ d) v → v = .bool b) ∧ ∀ o ∈ l, o.dst ≠ some d

theorem AsmOk.step {ρ : List Place} {all : Array Oper} {asm : List (Nat × Bool)} {o : Oper} {l : List Oper} {σ : List AV} (h : AsmOk ρ all asm (o :: l) σ) (x : AV) : AsmOk ρ all asm l (ptD σ o.dst x) := fun j b hm => by
  obtain ⟨d, h1, h2, h3, h4⟩ := h j b hm
  refine ⟨d, h1, by rw [ptD_len]; exact h2, fun v hv => h3 v ?_, fun o' ho' => h4 o' (List.mem_cons_of_mem _ ho')⟩
  rw [gt_get, ptD_other (h4 o List.mem_cons_self), ← gt_get] at hv
  exact hv

theorem yields_of {ρ : List Place} {all : Array Oper} {j d : Nat} {b : Bool} {σ : List AV} {tmps : Array Value} (hs : SRel ρ σ tmps) (hd : dstOf all j = some d) (hlt : d < σ.length) (hv : ∀ v, VRel ρ (gt σ d) v → v = .bool b) :
    yielded all tmps j = some b := by
  obtain ⟨v, h1, h2⟩ := hs.get d σ[d] (List.getElem?_eq_getElem hlt)
  have := hv v (by rw [gt_some (List.getElem?_eq_getElem hlt)]; exact h2)
  subst this
  unfold yielded
  unfold dstOf at hd
  rw [hd]
  simp [h1]

theorem wanted_asm {ρ : List Place} {all : Array Oper} {asm : List (Nat × Bool)} {o : Oper} {l : List Oper} {σ : List AV} {tmps : Array Value} (h : AsmOk ρ all asm l σ) (ho : openG asm o = false) (hs : SRel ρ σ tmps) :
    Region.wanted o (yielded all tmps) = true := by
  unfold openG at ho
  unfold Region.wanted
  cases hg : o.guard with
  | none => rfl
  | some g =>
    rw [hg] at ho
    simp only [Bool.not_eq_false'] at ho
    obtain ⟨j, want⟩ := g
    obtain ⟨d, h1, h2, h3, _⟩ := h j want ho
    simp only [yields_of hs h1 h2 h3]
    simp

theorem takeG_open (asm : List (Nat × Bool)) : ∀ (l : List Oper), takeG asm l ++ dropG asm l = l
  | [] => rfl
  | o :: t => by
    simp only [takeG, dropG]
    cases openG asm o
    · rfl
    · simp [takeG_open asm t]
theorem dropG_head (asm : List (Nat × Bool)) : ∀ (l : List Oper) (p : Oper) (r : List Oper), dropG asm l = p :: r → openG asm p = false
  | [], p, r, h => by simp [dropG] at h
  | o :: t, p, r, h => by
    simp only [dropG] at h
    cases ho : openG asm o
    · rw [ho] at h; simp only [cond_false, List.cons.injEq] at h; rw [← h.1]; exact ho
    · rw [ho] at h; exact dropG_head asm t p r (by simpa using h)

/-- slots behind a segment that is passed by -/
def skipA (σ : List AV) : List Oper → List AV
  | [] => σ
  | o :: t => skipA (ptD σ o.dst (.tup [])) t
theorem skipA_len : ∀ (l : List Oper) (σ : List AV), (skipA σ l).length = σ.length
  | [], σ => rfl
  | o :: t, σ => by simp only [skipA, skipA_len t, ptD_len]
theorem skipA_keep : ∀ (l : List Oper) (σ : List AV) (i : Nat), (∀ o ∈ l, o.dst ≠ some i) → (skipA σ l)[i]? = σ[i]?
  | [], σ, i, _ => rfl
  | o :: t, σ, i, h => by
    simp only [skipA]
    rw [skipA_keep t _ i fun o' ho' => h o' (List.mem_cons_of_mem _ ho'), ptD_other (h o List.mem_cons_self)]
theorem junkAll_heap : ∀ (l : List Oper) (st : St), (junkAll st l).heap = st.heap
  | [], st => rfl
  | o :: t, st => by simp only [junkAll, junkAll_heap t, putDst_heap]
theorem junkAll_len : ∀ (l : List Oper) (st : St), (junkAll st l).slots.length = st.slots.length
  | [], st => rfl
  | o :: t, st => by simp only [junkAll, junkAll_len t, putDst_slots, ptD_len]
theorem junkAll_keep : ∀ (l : List Oper) (st : St) (i : Nat), (∀ o ∈ l, o.dst ≠ some i) → (junkAll st l).slots[i]? = st.slots[i]?
  | [], st, i, _ => rfl
  | o :: t, st, i, h => by
    simp only [junkAll]
    rw [junkAll_keep t _ i fun o' ho' => h o' (List.mem_cons_of_mem _ ho'), putDst_slots, ptD_other (h o List.mem_cons_self)]
theorem junkAll_junk : ∀ (l : List Oper) (st : St) (i : Nat), (∃ o ∈ l, o.dst = some i) → gt (junkAll st l).slots i = .junk
  | [], st, i, ⟨_, h, _⟩ => by cases h
  | o :: t, st, i, ⟨o', ho', hd⟩ => by
    simp only [junkAll]
    by_cases hin : ∃ o ∈ t, o.dst = some i
    · exact junkAll_junk t _ i hin
    · have hno : ∀ o ∈ t, o.dst ≠ some i := fun o ho hd => hin ⟨o, ho, hd⟩
      rw [gt_get, junkAll_keep t _ i hno, ← gt_get, putDst_slots]
      rcases List.mem_cons.1 ho' with rfl | h
      · rw [hd]
        simp only [ptD, gt_pt]
        split
        · rfl
        · rename_i hc
          rw [gt_get, List.getElem?_eq_none (by have : ¬ i < st.slots.length := fun h => hc (by simpa using h); omega)]; rfl
      · exact absurd hd (hno o' h)

/-- anything refines a segment's places forgotten -/
theorem le_junkAll {ρ : List Place} {l : List Oper} {st : St} {σ : List AV} (hlen : σ.length = st.slots.length) (h : ∀ i, (∀ o ∈ l, o.dst ≠ some i) → ∀ v, VRel ρ (gt σ i) v → VRel ρ (gt st.slots i) v) : Le ρ σ (junkAll st l).slots := by
  refine ⟨by rw [junkAll_len]; exact hlen, fun i v hv => ?_⟩
  by_cases hin : ∃ o ∈ l, o.dst = some i
  · rw [junkAll_junk l st i hin]; simp [VRel]
  · have hno : ∀ o ∈ l, o.dst ≠ some i := fun o ho hd => hin ⟨o, ho, hd⟩
    rw [gt_get, junkAll_keep l st i hno, ← gt_get]
    exact h i hno v hv

theorem beqB_eq {a b : Bool} (h : beqB a b = true) : a = b := by cases a <;> cases b <;> first | rfl | (simp [beqB] at h)
theorem isDst_eq {d : Option Tmp} {n : Nat} : isDst d n = true ↔ d = some n := by
  cases d with
  | none => simp [isDst]
  | some t => simp [isDst]
theorem isTmp_eq {x : Operand} {n : Nat} (h : isTmp x n = true) : x = .tmp n := by
  cases x <;> simp [isTmp] at h
  subst h; rfl

theorem segOk_dst {all : Array Oper} {j : Nat} {want : Bool} {d : Nat} : ∀ (l : List Oper) (seen : List Nat), segOk all j want d seen l = true → ∀ o ∈ l, o.dst ≠ some d
  | [], _, _, o, ho => by cases ho
  | x :: t, seen, h, o, ho => by
    simp only [segOk, Bool.and_eq_true] at h
    rcases List.mem_cons.1 ho with rfl | ho
    · intro e; have := h.1.2; rw [isDst_eq.2 e] at this; cases this
    · exact segOk_dst t _ h.2 o ho

section
variable {P : Program} {all : Array Oper} {C : World → Prop} {ρ : List Place}

/-- where the guard is not as wanted the whole segment is passed by -/
theorem skip_seg {j d : Nat} {want : Bool} (hd : dstOf all j = some d) : ∀ (l : List Oper) (seen : List Nat) (σ : List AV), segOk all j want d seen l = true → d < σ.length → (∀ v, VRel ρ (gt σ d) v → v = .bool (!want)) →
    (∀ d', memN seen d' = true → d' < σ.length → gt σ d' = .tup []) → ∀ K : List AV → Prop, K (skipA σ l) → wpA P all C ρ l σ K
  | [], seen, σ, _, _, _, _, K, hK => hK
  | o :: t, seen, σ, hseg, hlt, hv, hseen, K, hK => by
    simp only [segOk, Bool.and_eq_true] at hseg
    obtain ⟨⟨hg, hnd⟩, ht⟩ := hseg
    have hdst : o.dst ≠ some d := fun e => by rw [isDst_eq.2 e] at hnd; cases hnd
    refine ⟨.tup [], .inr ⟨fun a ha => ?_, rfl⟩, skip_seg hd t _ (ptD σ o.dst (.tup [])) ht (by rw [ptD_len]; exact hlt) (fun v h => hv v ?_) ?_ K hK⟩
    · unfold Region.wanted
      cases hgd : o.guard with
      | none => rw [hgd] at hg; cases hg
      | some g =>
        obtain ⟨j', w'⟩ := g
        rw [hgd] at hg
        simp only [Bool.or_eq_true, Bool.and_eq_true] at hg
        rcases hg with ⟨h1, h2⟩ | h2
        · have := Nat.eq_of_beq_eq_true h1; subst this
          have := beqB_eq h2; subst this
          simp only [yields_of ha hd hlt hv]
          cases want <;> rfl
        · cases hd' : dstOf all j' with
          | none => rw [hd'] at h2; cases h2
          | some d' =>
            rw [hd'] at h2
            have hy : yielded all a.tmps j' = none := by
              unfold yielded
              unfold dstOf at hd'
              rw [hd']
              simp only [Option.bind_some]
              by_cases hl : d' < σ.length
              · obtain ⟨v, hv1, hv2⟩ := ha.get d' σ[d'] (List.getElem?_eq_getElem hl)
                have e := hseen d' h2 hl
                rw [gt_some (List.getElem?_eq_getElem hl)] at e
                rw [e] at hv2
                simp only [VRel, VRels] at hv2
                obtain ⟨ar, rfl, har⟩ := hv2
                rw [hv1]
              · rw [Array.getElem?_eq_none (by rw [ha.len]; exact Nat.le_of_not_lt hl)]
            simp only [hy]
            rfl
    · rw [gt_get, ptD_other hdst, ← gt_get] at h; exact h
    · intro d' hm hl'
      rw [ptD_len] at hl'
      cases hod : o.dst with
      | none =>
        rw [hod] at hm
        exact hseen d' hm hl'
      | some x =>
        rw [hod] at hm
        simp only [memN, Bool.or_eq_true] at hm
        simp only [ptD, gt_pt]
        by_cases hx : x = d'
        · subst hx; rw [if_pos ⟨rfl, hl'⟩]
        · rw [if_neg (fun e => hx e.1)]
          rcases hm with hm | hm
          · exact absurd (Nat.eq_of_beq_eq_true hm) hx
          · exact hseen d' hm hl'

theorem andB_true {a b : Bool} (h : andB a b = true) : a = true ∧ b = true := by cases a <;> cases b <;> first | exact ⟨rfl, rfl⟩ | (simp [andB] at h)

/-- what is asked of the segment's inner walk -/
def Inner (P : Program) (all : Array Oper) (C : World → Prop) (ρ : List Place) (asm : List (Nat × Bool)) (seg : List Oper) (st : St) (r : Option (St × Bool)) : Prop :=
  ∀ st1, r = some (st1, true) → st1.heap = st.heap ∧ st1.slots.length = st.slots.length ∧ (∀ i, (∀ o ∈ seg, o.dst ≠ some i) → gt st1.slots i = gt st.slots i) ∧
    ∀ σ, AsmOk ρ all asm seg σ → Le ρ σ st.slots → wpA P all C ρ seg σ (fun σ' => Le ρ σ' st1.slots)

theorem litIf_ex (c b : Bool) : ∃ q, litIf c b = q ∧ ∀ (ρ : List Place) (v : Value), VRel ρ q v ↔ v = .bool b := by
  refine ⟨_, rfl, fun ρ v => ?_⟩
  cases c <;> simp [litIf, VRel]

theorem seg_val {asm : List (Nat × Bool)} {j d : Nat} {want g : Bool} {seg : List Oper} {p : Oper} {st st2 : St} {r : Option (St × Bool)}
    (h : segStep all j want d g seg p st r = some (st2, true)) (hin : Inner P all C ρ ((j, want) :: asm) seg ⟨pt st.slots d (.bool want), st.heap⟩ r)
    (hd : dstOf all j = some d) (hg : delit (gt st.slots d) = .bool g) (hp : openG asm p = false) :
    st2.heap = st.heap ∧ st2.slots.length = st.slots.length ∧ (∀ i, (∀ o ∈ seg ++ [p], o.dst ≠ some i) → gt st2.slots i = gt st.slots i) ∧
    (∀ F W0 H, C = Cls F W0 ρ H → ∀ σ, AsmOk ρ all asm (seg ++ [p]) σ → Le ρ σ st.slots → wpA P all C ρ (seg ++ [p]) σ (fun σ' => Le ρ σ' st2.slots)) := by
  unfold segStep at h
  split at h
  · rename_i c a b pd st1 ob hop hdst
    obtain ⟨hc, h'⟩ := cond_some h
    simp only [Bool.and_eq_true] at hc
    obtain ⟨hct, hseg⟩ := hc
    have hct := isTmp_eq hct
    split at h'
    · rename_i x y ex ey
      obtain ⟨q, hq, hqr⟩ := litIf_ex (isLit (gt st.slots d) && isLit (cond g (bif want then st1.raw a else (junkAll st seg).raw a) (bif want then (junkAll st seg).raw b else st1.raw b))) (cond g x y)
      rw [hq] at h'
      simp only [Option.some.injEq, Prod.mk.injEq] at h'
      obtain ⟨rfl, hob⟩ := h'
      have hnd := segOk_dst seg [] hseg
      have hlt : d < st.slots.length := by
        rcases Nat.lt_or_ge d st.slots.length with h | h
        · exact h
        · rw [gt_get, List.getElem?_eq_none h] at hg; cases hg
      refine ⟨by rw [putDst_heap, junkAll_heap], by rw [putDst_slots, ptD_len, junkAll_len], fun i hi => ?_, fun F W0 H hC σ hasm hle => ?_⟩
      · have h1 : p.dst ≠ some i := hi p (by simp)
        rw [gt_get, putDst_slots, ← hdst, ptD_other h1, junkAll_keep seg st i fun o ho => hi o (List.mem_append_left _ ho), ← gt_get]
      · subst hC
        have hσd : ∀ v, VRel ρ (gt σ d) v → v = .bool g := fun v hv => by have := delit_rel (hle.2 d v hv); rw [hg] at this; exact this
        have hσlt : d < σ.length := by rw [hle.1]; exact hlt
        -- the pick, from slots in which one of its operands is told
        have pick : ∀ σ1 : List AV, σ1.length = σ.length → (∀ v, VRel ρ (gt σ1 d) v → v = .bool g) → AsmOk ρ all asm [p] σ1 → Le ρ σ1 (junkAll st seg).slots →
            (∀ a' : Act, SRel ρ σ1 a'.tmps → (if g then a'.eval a else a'.eval b) = .bool (cond g x y)) →
            wpA P all (Cls F W0 ρ H) ρ [p] σ1 (fun σ' => Le ρ σ' (putDst (junkAll st seg) (some pd) q).slots) := by
          intro σ1 hl1 hd1 hasm1 hle1 hev
          refine ⟨q, .inl fun a' ha' => ⟨wanted_asm hasm1 hp ha', fun W hW => ?_⟩, ?_⟩
          · have hcv : a'.eval c = .bool g := by
              rw [hct]
              obtain ⟨v, h1, h2⟩ := ha'.get d σ1[d] (List.getElem?_eq_getElem (by omega))
              have := hd1 v (by rw [gt_some (List.getElem?_eq_getElem (by omega))]; exact h2)
              subst this
              simp [Act.eval, Array.getD_eq_getD_getElem?, h1]
            have he := hev a' ha'
            obtain ⟨dst, op, type, pos, after, guard⟩ := p
            simp only at hop
            subst hop
            simp only [execOp, Sem.run_bind, hcv, asBool, Sem.run_pure, Result.andThen_ok]
            refine ⟨hW, ?_⟩
            rw [he]; exact (hqr ρ _).2 rfl
          · simp only [wpA]
            rw [putDst_slots, hdst]
            exact hle1.ptD (some pd) fun v hv => hv
        apply wpA_append
        by_cases hgw : g = want
        · -- as wanted
          subst hgw
          have hob' : ob = true := by cases ob <;> cases g <;> simp [impB] at hob ⊢
          subst hob'
          obtain ⟨e1, e2, e3, e4⟩ := hin st1 rfl
          have hle' : Le ρ σ (pt st.slots d (.bool g)) := by
            refine ⟨by rw [pt_len]; exact hle.1, fun i v hv => ?_⟩
            rw [gt_pt]
            split
            · rename_i hc; rw [← hc.1] at hv; rw [hσd v hv]; simp [VRel]
            · exact hle.2 i v hv
          have hasm' : AsmOk ρ all ((j, g) :: asm) seg σ := fun j' b' hm => by
            simp only [memG, Bool.or_eq_true, Bool.and_eq_true] at hm
            rcases hm with ⟨h1, h2⟩ | hm
            · have := Nat.eq_of_beq_eq_true h1; subst this
              have hb : b' = g := by cases g <;> cases b' <;> simp at h2 ⊢
              subst hb
              exact ⟨d, hd, hσlt, hσd, hnd⟩
            · obtain ⟨d', q1, q2, q3, q4⟩ := hasm j' b' hm
              exact ⟨d', q1, q2, q3, fun o ho => q4 o (List.mem_append_left _ ho)⟩
          refine wpA_mono (fun σ1 ⟨hσ1, hl1, hk1⟩ => ?_) seg σ (wpA_keep seg σ (e4 σ hasm' hle'))
          refine pick σ1 hl1 ?_ ?_ ?_ ?_
          · intro v hv
            rw [gt_get, hk1 d hnd, ← gt_get] at hv
            exact hσd v hv
          · intro j' b' hm
            obtain ⟨d', q1, q2, q3, q4⟩ := hasm j' b' hm
            refine ⟨d', q1, by rw [hl1]; exact q2, fun v hv => q3 v ?_, fun o ho => q4 o (List.mem_append_right _ ho)⟩
            rw [gt_get, hk1 d' fun o ho => q4 o (List.mem_append_left _ ho), ← gt_get] at hv
            exact hv
          · refine le_junkAll (by rw [hl1]; exact hle.1) fun i hi v hv => ?_
            rw [gt_get, hk1 i hi, ← gt_get] at hv
            exact hle.2 i v hv
          · intro a' ha'
            have hs1 : SRel ρ st1.slots a'.tmps := ha'.le hσ1
            cases g
            · simp only [cond_false] at ey ⊢
              have := ev_rel hs1 b
              rw [ey] at this
              simpa using VRel_bool this
            · simp only [cond_true] at ex ⊢
              have := ev_rel hs1 a
              rw [ex] at this
              simpa using VRel_bool this
        · -- passed by
          have hgn : g = !want := by cases g <;> cases want <;> simp at hgw ⊢
          have hsk : ∀ i, (∀ o ∈ seg, o.dst ≠ some i) → (skipA σ seg)[i]? = σ[i]? := skipA_keep seg σ
          refine skip_seg hd seg [] σ hseg hσlt (fun v hv => by rw [← hgn]; exact hσd v hv) (fun d' hm _ => by simp [memN] at hm) _ ?_
          have hleJ : Le ρ (skipA σ seg) (junkAll st seg).slots := le_junkAll (by rw [skipA_len]; exact hle.1) fun i hi v hv => by
            rw [gt_get, hsk i hi, ← gt_get] at hv
            exact hle.2 i v hv
          refine pick (skipA σ seg) (skipA_len seg σ) ?_ ?_ hleJ ?_
          · intro v hv
            rw [gt_get, hsk d hnd, ← gt_get] at hv
            exact hσd v hv
          · intro j' b' hm
            obtain ⟨d', q1, q2, q3, q4⟩ := hasm j' b' hm
            refine ⟨d', q1, by rw [skipA_len]; exact q2, fun v hv => q3 v ?_, fun o ho => q4 o (List.mem_append_right _ ho)⟩
            rw [gt_get, hsk d' fun o ho => q4 o (List.mem_append_left _ ho), ← gt_get] at hv
            exact hv
          · intro a' ha'
            have hs1 : SRel ρ (junkAll st seg).slots a'.tmps := ha'.le hleJ
            cases want
            · simp only [Bool.not_false] at hgn; subst hgn
              simp only [cond_false] at ex
              have := ev_rel hs1 a
              rw [ex] at this
              simpa using VRel_bool this
            · simp only [Bool.not_true] at hgn; subst hgn
              simp only [cond_true] at ey
              have := ev_rel hs1 b
              rw [ey] at this
              simpa using VRel_bool this
    · cases h'
  · cases h

theorem AsmOk.drop {asm : List (Nat × Bool)} {l m : List Oper} {σ σ' : List AV} (h : AsmOk ρ all asm (l ++ m) σ) (hl : σ'.length = σ.length) (hk : ∀ i, (∀ o ∈ l, o.dst ≠ some i) → σ'[i]? = σ[i]?) : AsmOk ρ all asm m σ' := fun j b hm => by
  obtain ⟨d, q1, q2, q3, q4⟩ := h j b hm
  refine ⟨d, q1, by rw [hl]; exact q2, fun v hv => q3 v ?_, fun o ho => q4 o (List.mem_append_right _ ho)⟩
  rw [gt_get, hk d fun o ho => q4 o (List.mem_append_left _ ho), ← gt_get] at hv
  exact hv

theorem evOps_val {call : Caller} (hcall : CallerOk P call) {F : Nat → Prop} {W0 : World} {H : List Blk} : ∀ (fuel : Nat) (asm : List (Nat × Bool)) (l : List Oper) (st st' : St),
    evOps P call all fuel false asm l st = some (st', true) → st.heap = H →
    st'.heap = st.heap ∧ st'.slots.length = st.slots.length ∧ (∀ i, (∀ o ∈ l, o.dst ≠ some i) → gt st'.slots i = gt st.slots i) ∧
    ∀ σ, AsmOk ρ all asm l σ → Le ρ σ st.slots → wpA P all (Cls F W0 ρ H) ρ l σ (fun σ' => Le ρ σ' st'.slots)
  | 0, _, _, _, _, h, _ => by simp [evOps] at h
  | fuel + 1, asm, [], st, st', h, _ => by
    simp only [evOps, Option.some.injEq, Prod.mk.injEq, and_true] at h; subst h
    exact ⟨rfl, rfl, fun _ _ => rfl, fun σ _ hle => hle⟩
  | fuel + 1, asm, o :: rest, st, st', h, hH => by
    unfold evOps at h
    cases hop : openG asm o with
    | true =>
      rw [hop] at h
      simp only [cond_true] at h
      split at h
      · cases h
      · rename_i j want hgd
        split at h
        · cases h
        · rename_i d hd
          split at h
          · rename_i g p rest' hg hdrop
            split at h
            · rename_i st2 ob hseg
              split at h
              · rename_i st3 ob3 hrest
                simp only [Option.some.injEq, Prod.mk.injEq] at h
                obtain ⟨rfl, hob⟩ := h
                obtain ⟨rfl, rfl⟩ := andB_true hob
                have hsplit : takeG asm (o :: rest) ++ p :: rest' = o :: rest := by rw [← hdrop]; exact takeG_open asm _
                have hp := dropG_head asm _ _ _ hdrop
                have hin : Inner P all (Cls F W0 ρ H) ρ ((j, want) :: asm) (takeG asm (o :: rest)) ⟨pt st.slots d (.bool want), st.heap⟩
                    (evOps P call all fuel false ((j, want) :: asm) (takeG asm (o :: rest)) ⟨pt st.slots d (.bool want), st.heap⟩) := fun st1 h1 => evOps_val hcall fuel _ _ _ _ h1 hH
                obtain ⟨e1, e2, e3, e4⟩ := seg_val hseg hin hd hg hp
                obtain ⟨f1, f2, f3, f4⟩ := evOps_val hcall (F := F) (W0 := W0) (H := H) fuel asm rest' st2 st3 hrest (e1.trans hH)
                have hsplit' : (takeG asm (o :: rest) ++ [p]) ++ rest' = o :: rest := by simpa using hsplit
                refine ⟨f1.trans e1, f2.trans e2, fun i hi => ?_, fun σ hasm hle => ?_⟩
                · rw [← hsplit'] at hi
                  rw [f3 i fun o' ho' => hi o' (List.mem_append_right _ ho'), e3 i fun o' ho' => hi o' (List.mem_append_left _ ho')]
                · rw [← hsplit'] at hasm ⊢
                  apply wpA_append
                  have hasm1 : AsmOk ρ all asm (takeG asm (o :: rest) ++ [p]) σ := fun j' b' hm => by
                    obtain ⟨d', q1, q2, q3, q4⟩ := hasm j' b' hm
                    exact ⟨d', q1, q2, q3, fun o' ho' => q4 o' (List.mem_append_left _ ho')⟩
                  exact wpA_mono (fun σ1 ⟨h1, h2, h3⟩ => f4 σ1 (hasm.drop h2 h3) h1) _ σ (wpA_keep _ σ (e4 F W0 H rfl σ hasm1 hle))
              · cases h
            · cases h
          · cases h
    | false =>
      rw [hop] at h
      simp only [cond_false] at h
      split at h
      · rename_i v ob hv
        split at h
        · rename_i st2 ob2 hrest
          simp only [Option.some.injEq, Prod.mk.injEq] at h
          obtain ⟨rfl, hob⟩ := h
          obtain ⟨rfl, rfl⟩ := andB_true hob
          obtain ⟨f1, f2, f3, f4⟩ := evOps_val hcall (F := F) (W0 := W0) (H := H) fuel asm rest (putDst st o.dst v) st2 hrest ((putDst_heap _ _ _).trans hH)
          refine ⟨by rw [f1, putDst_heap], by rw [f2, putDst_slots, ptD_len], fun i hi => ?_, fun σ hasm hle => ?_⟩
          · rw [f3 i fun o' ho' => hi o' (List.mem_cons_of_mem _ ho'), gt_get, putDst_slots, ptD_other (hi o List.mem_cons_self), ← gt_get]
          · refine ⟨v, .inl fun a ha => ⟨wanted_asm hasm hop ha, fun W hW => ?_⟩, f4 _ (hasm.step v) (by rw [putDst_slots]; exact hle.ptD o.dst fun _ h => h)⟩
            subst hH
            exact evV_ok hcall hv (ha.le hle) hW
        · cases h
      · simp at h
end

end Go.Sx
