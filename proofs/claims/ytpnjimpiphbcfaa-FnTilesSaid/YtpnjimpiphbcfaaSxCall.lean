/- Calls: what a table of calls says; old memory and what a call has made. -/
import Derived.Test.YtpnjimpiphbcfaaSxMem
import Derived.Test.YtpnjimpiphbcfaaSxZ
import Derived.LoopN
import Derived.Scope
set_option linter.unusedSimpArgs false
set_option linter.unusedVariables false
namespace Go.Sx
open Go.RowKit

/-- the places below a number stay -/
def ExtB (B : Nat) (ρ ρ' : List Place) : Prop := ∀ (b : Nat) (p : Place), b < B → ρ[b]? = some p → ρ'[b]? = some p
theorem Ext.toB {B : Nat} {ρ ρ' : List Place} (h : Ext ρ ρ') : ExtB B ρ ρ' := fun b p _ hp => h b p hp
theorem ExtB.refl (B : Nat) (ρ : List Place) : ExtB B ρ ρ := fun _ _ _ h => h
theorem ExtB.trans {B : Nat} {a b c : List Place} (h : ExtB B a b) (k : ExtB B b c) : ExtB B a c := fun i p hi hp => k i p hi (h i p hi hp)

/-- no block goes -/
def Keep (H H' : List Blk) : Prop := H.length ≤ H'.length
theorem Keep.refl (H : List Blk) : Keep H H := Nat.le_refl _
theorem Keep.trans {a b c : List Blk} (h : Keep a b) (k : Keep b c) : Keep a c := Nat.le_trans h k
theorem Keep.append (H nb : List Blk) : Keep H (H ++ nb) := by simp [Keep]
theorem Ext.len {ρ ρ' : List Place} (h : Ext ρ ρ') : ρ.length ≤ ρ'.length := by
  rcases Nat.lt_or_ge ρ'.length ρ.length with hl | hl
  · have := h ρ'.length ρ[ρ'.length] (List.getElem?_eq_getElem hl)
    rw [List.getElem?_eq_none (Nat.le_refl _)] at this; cases this
  · exact hl
theorem Cls.keep {F : Nat → Prop} {W0 : World} {ρ ρ' : List Place} {H H' : List Blk} {W W' : World} (h : Cls F W0 ρ H W) (he : Ext ρ ρ') (h' : Cls F W0 ρ' H' W') : H.length ≤ H'.length := by
  rw [← h.rel.len, ← h'.rel.len]; exact he.len

/-- the executor's state stands for a frame and a world; the places below `B` stay -/
structure Rl (B : Nat) (F : Nat → Prop) (W0 : World) (ρ : List Place) (st : St) (a : Act) (W : World) : Prop where
  s : SRel ρ st.slots a.tmps
  d : a.defers = []
  c : Cls F W0 ρ st.heap W
  hB : B ≤ st.heap.length

/-- what comes of an operation that calls -/
def OkT (P : Program) (Q : Value → World → Prop) : Result Next → Prop
  | .ok (.value u) w' => Q u w'
  | .ok .skip w' => Q undef w'
  | .ok (.enter f args) w' => Calls P f args w' (fun e w'' => ∃ v, e = .returned v ∧ Q v w'')
  | _ => False

theorem OkT.mono {P : Program} {Q Q' : Value → World → Prop} (hQ : ∀ u w, Q u w → Q' u w) {r : Result Next} (h : OkT P Q r) : OkT P Q' r := by
  cases r with
  | halt h' w => exact h.elim
  | ok n w =>
    cases n with
    | value u => exact hQ _ _ h
    | skip => exact hQ _ _ h
    | enter f args => exact Calls.mono h fun e w ⟨v, he, hv⟩ => ⟨v, he, hQ _ _ hv⟩
    | _ => exact h.elim

/-- memory behind a leaf -/
def hp (H : List Blk) (x : AV × Option (List Blk)) : List Blk := match x.2 with | some H' => H' | none => H

/-- a table of calls that holds -/
def CallerTOk (P : Program) (call : CallerT) : Prop :=
  ∀ f args H t, call f args H = some (t, true) → ∀ F W0 ρ W vals, Cls F W0 ρ H W → VRels ρ args vals →
    OkT P (fun u W' => ∃ ρ', Ext ρ ρ' ∧ Cls F W0 ρ' (hp H t.get) W' ∧ VRel ρ' t.get.1 u ∧ Keep H (hp H t.get)) ((callFunc f vals.toArray).run P W)

theorem Cls.roOf {F : Nat → Prop} {W0 : World} {ρ : List Place} {H : List Blk} {W : World} (h : Cls F W0 ρ H W) : Cls (· < W.heap.size) W ρ (roH H) W :=
  ⟨h.rel.ro, ⟨rfl, rfl, rfl, Nat.le_refl _, fun _ _ => rfl⟩, fun _ h => h, fun b x p hx hp hw => by
    rw [roH_get] at hx
    cases hb : H[b]? with
    | none => rw [hb] at hx; cases hx
    | some z => rw [hb] at hx; cases hx; rw [ro_wr] at hw; cases hw⟩

theorem Cls.toBelow {W W' : World} {ρ : List Place} {H : List Blk} (h : Cls (· < W.heap.size) W ρ H W') : Below W.heap.size W W' := ⟨h.fr.os, h.fr.tape, h.fr.output, h.fr.size, h.fr.keep⟩

theorem one1_ok {P : Program} {call : CallerT} (h : CallerTOk P call) : CallerOk P (one1 call) := fun f args H v hv F W0 ρ W vals hC hvs => by
  unfold one1 at hv
  split at hv
  · rename_i w x ob hc
    obtain ⟨hp, hv⟩ := cond_some hv
    simp only [Option.some.injEq, Prod.mk.injEq] at hv
    obtain ⟨rfl, rfl⟩ := hv
    have := h f args (roH H) _ hc _ _ ρ W vals hC.roOf hvs
    generalize (callFunc f vals.toArray).run P W = r at this
    cases r with
    | halt h' w => exact this.elim
    | ok n w =>
      cases n with
      | value u =>
        obtain ⟨ρ', he, hc', hr, _⟩ := this
        exact ⟨hC.below hc'.toBelow, pure_rel hp hr⟩
      | skip =>
        obtain ⟨ρ', he, hc', hr, _⟩ := this
        exact ⟨hC.below hc'.toBelow, pure_rel hp hr⟩
      | enter f args =>
        exact Calls.mono this fun e w ⟨v, he, ρ', _, hc', hr, _⟩ => ⟨v, he, pure_rel hp hr, hC.below hc'.toBelow⟩
      | _ => exact this.elim
  · cases hv


theorem dropH_eq : ∀ (H l : List Blk), dropH H l = l.drop H.length
  | [], l => by simp [dropH]
  | x :: H, [] => by simp [dropH]
  | x :: H, y :: l => by simp [dropH, dropH_eq H l]
theorem appH_eq : ∀ (l m : List Blk), appH l m = l ++ m
  | [], m => rfl
  | x :: t, m => by simp [appH, appH_eq t m]
theorem allFresh_get : ∀ {l : List Blk}, allFresh l = true → ∀ (b : Nat) (x : Blk), l[b]? = some x → x.fresh = true
  | [], _, b, x, h => by simp at h
  | y :: t, hs, 0, x, h => by simp only [allFresh, Bool.and_eq_true] at hs; simp at h; exact h ▸ hs.1
  | y :: t, hs, b + 1, x, h => by simp only [allFresh, Bool.and_eq_true] at hs; exact allFresh_get hs.2 b x (by simpa using h)
theorem fresh_wr {x : Blk} (h : x.fresh = true) (hl : x.live = true) : x.wr = true := by cases x <;> simp_all [Blk.fresh, Blk.live, Blk.wr]
theorem wr_live {x : Blk} (h : x.wr = true) : x.live = true := by cases x <;> simp_all [Blk.live, Blk.wr]

/-- old memory and what a call has made -/
theorem Cls.grow {F : Nat → Prop} {W0 W W' : World} {ρ ρ' : List Place} {H H' : List Blk} (h : Cls F W0 ρ H W) (h' : Cls (· < W.heap.size) W ρ' H' W') (he : ExtB H.length ρ ρ') (hl : H.length ≤ H'.length)
    (hf : allFresh (H'.drop H.length) = true) : Ext ρ ρ' ∧ Cls F W0 ρ' (H ++ H'.drop H.length) W' := by
  have hE : Ext ρ ρ' := fun b p hp => he b p (by rw [← h.rel.len]; exact (List.getElem?_eq_some_iff.1 hp).1) hp
  have hbel := h'.toBelow
  have old : ∀ (b : Nat) (x : Blk) (p : Place), (H ++ H'.drop H.length)[b]? = some x → ρ'[b]? = some p → (b < H.length ∧ H[b]? = some x ∧ ρ[b]? = some p) ∨ (H'[b]? = some x ∧ (x.live = true → x.wr = true)) := by
    intro b x p hx hp
    rcases Nat.lt_or_ge b H.length with hb | hb
    · left
      rw [List.getElem?_append_left hb] at hx
      have hb' : b < ρ.length := by rw [h.rel.len]; exact hb
      have := hE b ρ[b] (List.getElem?_eq_getElem hb')
      rw [hp] at this
      cases this
      exact ⟨hb, hx, List.getElem?_eq_getElem hb'⟩
    · right
      rw [List.getElem?_append_right hb] at hx
      refine ⟨?_, fun hlv => fresh_wr (allFresh_get hf _ _ hx) hlv⟩
      rw [List.getElem?_drop] at hx
      rwa [show H.length + (b - H.length) = b by omega] at hx
  refine ⟨hE, ⟨?_, ?_, ?_⟩, h.fr.below h.low hbel, h.low, ?_⟩
  · rw [h'.rel.len]; simp; omega
  · intro b x p hx hp
    rcases old b x p hx hp with ⟨_, h1, h2⟩ | ⟨h1, _⟩
    · exact ((h.rel.below hbel).blk b x p h1 h2).ext hE
    · exact h'.rel.blk b x p h1 hp
  · intro b c x y p q hne hx hy hp hq hw hlv hcp hcq
    rcases old b x p hx hp with ⟨_, h1, h2⟩ | ⟨h1, h1'⟩
    · rcases old c y q hy hq with ⟨_, h3, h4⟩ | ⟨h3, h3'⟩
      · exact h.rel.apart b c x y p q hne h1 h3 h2 h4 hw hlv hcp hcq
      · have := h.rel.lt h1 h2 (wr_live hw) hcp
        have := h'.free c y q h3 hq (h3' hlv) hcq
        omega
    · rcases old c y q hy hq with ⟨_, h3, h4⟩ | ⟨h3, h3'⟩
      · have := h.rel.lt h3 h4 hlv hcq
        have := h'.free b x p h1 hp hw hcp
        omega
      · exact h'.rel.apart b c x y p q hne h1 h3 hp hq hw hlv hcp hcq
  · intro b x p hx hp hw hcp hF
    rcases old b x p hx hp with ⟨_, h1, h2⟩ | ⟨h1, _⟩
    · exact h.free b x p h1 h2 hw hcp hF
    · have := h'.free b x p h1 hp hw hcp
      have := h.low _ hF
      have := h.fr.size
      omega


theorem memN_iff : ∀ {l : List Nat} {n : Nat}, memN l n = true ↔ n ∈ l
  | [], n => by simp [memN]
  | x :: t, n => by
    simp only [memN, Bool.or_eq_true, memN_iff (l := t), List.mem_cons]
    constructor
    · rintro (h | h)
      · exact .inl (Nat.eq_of_beq_eq_true h).symm
      · exact .inr h
    · rintro (h | h)
      · left; subst h; exact Nat.beq_refl _
      · exact .inr h

/-- a call or another operation, and what follows -/
theorem opT_wp {P : Program} {o : Oper} {a : Act} {W : World} {K : Act → World → Prop} {Q : Exit → Act → World → Prop} {V : Value → World → Prop} (hx : OkT P V ((execOp a.eval o).run P W))
    (hK : ∀ v W', V v W' → K (a.put o.dst v) W') : o.wp P a W K Q := by
  unfold Oper.wp
  generalize (execOp a.eval o).run P W = r at hx
  cases r with
  | halt h w => exact hx.elim
  | ok n w =>
    cases n <;> simp only [OkT] at hx <;> simp only [Oper.upon]
    case value u => exact hK u w hx
    case skip => exact hK _ w hx
    case enter f args => exact hx.mono fun e w'' ⟨v, he, hv⟩ => by subst he; exact hK v w'' hv


end Go.Sx
