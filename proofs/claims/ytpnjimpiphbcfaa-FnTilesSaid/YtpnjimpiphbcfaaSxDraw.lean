/- A region in a drawn order: operations on values, new variables, calls one behind the other that make memory; at its end operations in a row. -/
import Derived.Test.YtpnjimpiphbcfaaSxCall
set_option linter.unusedSimpArgs false
set_option linter.unusedVariables false
namespace Go.Sx
open Go.RowKit

-- more memory does no harm to operations on values
theorem ev_heap (σ : List AV) (H H' : List Blk) : St.ev ⟨σ, H⟩ = St.ev ⟨σ, H'⟩ := funext fun x => by cases x <;> rfl
theorem raw_heap (σ : List AV) (H H' : List Blk) : St.raw ⟨σ, H⟩ = St.raw ⟨σ, H'⟩ := funext fun x => by cases x <;> rfl
theorem evL_heap (σ : List AV) (H H' : List Blk) : evL ⟨σ, H⟩ = evL ⟨σ, H'⟩ := funext fun l => by
  induction l with
  | nil => rfl
  | cons x t ih => simp only [evL, ih, ev_heap σ H H']
theorem rawL_heap (σ : List AV) (H H' : List Blk) : rawL ⟨σ, H⟩ = rawL ⟨σ, H'⟩ := funext fun l => by
  induction l with
  | nil => rfl
  | cons x t ih => simp only [rawL, ih, raw_heap σ H H']
theorem evP_heap (σ : List AV) (H H' : List Blk) : evP ⟨σ, H⟩ = evP ⟨σ, H'⟩ := funext fun l => by
  induction l with
  | nil => rfl
  | cons x t ih => obtain ⟨i, x⟩ := x; simp only [evP, ih, ev_heap σ H H']
theorem litL_heap (σ : List AV) (H H' : List Blk) : litL ⟨σ, H⟩ = litL ⟨σ, H'⟩ := funext fun l => by
  induction l with
  | nil => rfl
  | cons x t ih => simp only [litL, ih, raw_heap σ H H']
theorem litO_heap (σ : List AV) (H H' : List Blk) : litO ⟨σ, H⟩ = litO ⟨σ, H'⟩ := funext fun l => by
  cases l with
  | none => rfl
  | some x => simp only [litO, raw_heap σ H H']
theorem litOp_heap (σ : List AV) (H H' : List Blk) (o : Oper) : litOp ⟨σ, H⟩ o = litOp ⟨σ, H'⟩ o := by
  simp only [litOp, raw_heap σ H H', litL_heap σ H H', litO_heap σ H H']
theorem rowOf_mono : ∀ {H nb : List Blk} {b r : Nat} {x : List AV × Bool}, rowOf H b r = some x → rowOf (H ++ nb) b r = some x
  | [], _, _, _, _, h => by simp [rowOf] at h
  | .one _ _ :: t, nb, 0, 0, x, h => by simpa [rowOf] using h
  | .one _ _ :: t, nb, 0, r + 1, x, h => by simp [rowOf] at h
  | .rows _ _ _ _ :: t, nb, 0, r, x, h => by simpa [rowOf] using h
  | .dead :: t, nb, 0, r, x, h => by simp [rowOf] at h
  | .one _ _ :: t, nb, b + 1, r, x, h => by simpa [rowOf] using rowOf_mono (H := t) (by simpa [rowOf] using h)
  | .rows _ _ _ _ :: t, nb, b + 1, r, x, h => by simpa [rowOf] using rowOf_mono (H := t) (by simpa [rowOf] using h)
  | .dead :: t, nb, b + 1, r, x, h => by simpa [rowOf] using rowOf_mono (H := t) (by simpa [rowOf] using h)
theorem bsz_mono : ∀ {H nb : List Blk} {b n : Nat}, bsz H b = some n → bsz (H ++ nb) b = some n
  | [], _, _, _, h => by simp [bsz] at h
  | .one _ _ :: t, nb, 0, n, h => by simpa [bsz] using h
  | .rows _ _ _ _ :: t, nb, 0, n, h => by simpa [bsz] using h
  | .dead :: t, nb, 0, n, h => by simp [bsz] at h
  | .one _ _ :: t, nb, b + 1, n, h => by simpa [bsz] using bsz_mono (H := t) (by simpa [bsz] using h)
  | .rows _ _ _ _ :: t, nb, b + 1, n, h => by simpa [bsz] using bsz_mono (H := t) (by simpa [bsz] using h)
  | .dead :: t, nb, b + 1, n, h => by simpa [bsz] using bsz_mono (H := t) (by simpa [bsz] using h)
theorem blkOf_mono {H nb : List Blk} {b n : Nat} (h : bsz H b = some n) : blkOf (H ++ nb) b = blkOf H b := by
  obtain ⟨x, hx, _⟩ := bsz_spec (ρ := []) (W := default) h
  rw [blkOf_get, blkOf_get, List.getElem?_append_left (List.getElem?_eq_some_iff.1 hx).1]
theorem loadA_mono {P : Program} {H nb : List Blk} {t : TypeId} {a : AV} {r : AV × Bool} (h : loadA P H t a = some r) : loadA P (H ++ nb) t a = some r := by
  unfold loadA at *
  split at h
  · rename_i b q o
    cases hr : rowOf H b q with
    | none => rw [hr] at h; cases h
    | some x =>
      rw [hr] at h
      simp only [rowOf_mono hr]
      exact h
  · cases h
theorem sliceA_mono {P : Program} {H nb : List Blk} {t : TypeId} {x : AV} {lo hi : Option AV} {mx : Bool} {r : AV × Bool} (h : sliceA P H t x lo hi mx = some r) : sliceA P (H ++ nb) t x lo hi mx = some r := by
  unfold sliceA at *
  split at h
  · cases h
  · exact h
  · exact h
  · rename_i e b q n hu
    cases hb : bsz H b with
    | none => rw [hb] at h; split at h <;> simp_all
    | some m =>
      simp only [bsz_mono hb, blkOf_mono hb]
      rw [hb] at h
      exact h
  · cases h

theorem evV0_mono {P : Program} {σ : List AV} {H nb : List Blk} {o : Oper} {r : AV × Bool} (h : evV0 P noC ⟨σ, H⟩ o = some r) : evV0 P noC ⟨σ, H ++ nb⟩ o = some r := by
  obtain ⟨dst, op, type, pos, after, guard⟩ := o
  cases op <;> simp only [evV0, reduceCtorEq] at h ⊢ <;> (try simp only [ev_heap σ (H ++ nb) H, evL_heap σ (H ++ nb) H, evP_heap σ (H ++ nb) H]) <;> try exact h
  case load => exact loadA_mono h
  case slice => exact sliceA_mono h
  case indexAddr t x ix =>
    split at h
    · exact h
    · rename_i e b r n k i hu ex ei
      cases hb : bsz H b with
      | none => rw [hb] at h; split at h <;> simp_all
      | some m =>
        simp only [bsz_mono hb]
        rw [hb] at h
        exact h
    · exact h
    · cases h
theorem evV_mono {P : Program} {σ : List AV} {H nb : List Blk} {o : Oper} {r : AV × Bool} (h : evV P noC ⟨σ, H⟩ o = some r) : evV P noC ⟨σ, H ++ nb⟩ o = some r := by
  unfold evV at *
  split at h
  · rename_i v ob hv
    rw [evV0_mono hv, litOp_heap σ (H ++ nb) H]
    exact h
  · cases h
theorem noC_ok {P : Program} : CallerOk P noC := fun f args H v h => by cases h

-- slots but those that are asked for forgotten
theorem maskK_get (ws : List Nat) : ∀ (i : Nat) (l : List AV) (j : Nat) (x : AV), (maskK ws i l)[j]? = some x → (x = .junk ∧ j < l.length) ∨ (i + j ∈ ws ∧ l[j]? = some x)
  | _, [], _, _, h => by simp [maskK] at h
  | i, y :: l, 0, x, h => by
    simp only [maskK, List.getElem?_cons_zero, Option.some.injEq] at h
    cases hm : memN ws i with
    | true => rw [hm] at h; right; exact ⟨memN_iff.1 hm, by simpa using h⟩
    | false => rw [hm] at h; left; exact ⟨h.symm, by simp⟩
  | i, y :: l, j + 1, x, h => by
    simp only [maskK, List.getElem?_cons_succ] at h
    rcases maskK_get ws (i + 1) l j x h with ⟨h1, h2⟩ | ⟨h1, h2⟩
    · exact .inl ⟨h1, by simpa using h2⟩
    · right; exact ⟨by rw [show i + (j + 1) = i + 1 + j by omega]; exact h1, by simpa using h2⟩
theorem maskK_len (ws : List Nat) : ∀ (i : Nat) (l : List AV), (maskK ws i l).length = l.length
  | _, [] => rfl
  | i, x :: t => by simp [maskK, maskK_len ws (i + 1) t]
theorem maskK_congr (ws : List Nat) : ∀ (i : Nat) (l m : List AV), l.length = m.length → (∀ j, i + j ∈ ws → l[j]? = m[j]?) → maskK ws i l = maskK ws i m
  | _, [], [], _, _ => rfl
  | _, [], _ :: _, h, _ => by simp at h
  | _, _ :: _, [], h, _ => by simp at h
  | i, x :: l, y :: m, hl, h => by
    simp only [maskK]
    rw [maskK_congr ws (i + 1) l m (by simpa using hl) fun j hj => by have := h (j + 1) (by rw [show i + (j + 1) = i + 1 + j by omega]; exact hj); simpa using this]
    cases hm : memN ws i with
    | false => rfl
    | true =>
      have := h 0 (by simpa using memN_iff.1 hm)
      simp at this
      rw [this]

theorem Ext.eq_len {ρ ρ' : List Place} (h : Ext ρ ρ') (hl : ρ'.length = ρ.length) : ρ' = ρ := by
  apply List.ext_getElem?
  intro i
  rcases Nat.lt_or_ge i ρ.length with hi | hi
  · rw [h i _ (List.getElem?_eq_getElem hi), List.getElem?_eq_getElem hi]
  · rw [List.getElem?_eq_none hi, List.getElem?_eq_none (by omega)]

section
variable {P : Program}

/-- what an operation that may make memory comes to -/
def SF (P : Program) (σ : List AV) (H nb : List Blk) (o : Oper) (x : AV) : Prop :=
  ∀ F W0 ρ W (a : Act), Cls F W0 ρ H W → SRel ρ σ a.tmps → OkT P (fun u W' => ∃ ρ', Ext ρ ρ' ∧ Cls F W0 ρ' (H ++ nb) W' ∧ VRel ρ' x u) ((execOp a.eval o).run P W)

theorem okT_of_next {C : World → Prop} {V : Value → Prop} {r : Result Next} (h : OkNext P C V r) : (∃ w, r = .ok .skip w) ∨ OkT P (fun u W' => V u ∧ C W') r := by
  cases r with
  | halt h' w => exact h.elim
  | ok n w =>
    cases n with
    | value u => exact .inr ⟨h.2, h.1⟩
    | skip => exact .inl ⟨w, rfl⟩
    | enter f args => exact .inr (Calls.mono h fun e w ⟨v, he, hv, hc⟩ => ⟨v, he, hv, hc⟩)
    | _ => exact h.elim

theorem evD1_S {call : CallerT} (hcall : CallerTOk P call) {σ : List AV} {H nb : List Blk} {o : Oper} {x : AV}
    (h : (match callOf o with
        | some (fx, args) => match (St.mk σ H).ev fx with
          | .fn (.func f) first captured => match call f (first ++ rawL ⟨σ, H⟩ args.toList ++ captured) (roH H) with
            | some (.leaf (v, none), ob) => some (v, some [], ob)
            | some (.leaf (v, some H'), ob) => bif allFresh (dropH H H') then some (v, some (dropH H H'), ob) else none
            | _ => none
          | _ => none
        | none => match evH P ⟨σ, roH H⟩ o with
          | some (v, H', ob) => bif allFresh (dropH H H') then some (v, some (dropH H H'), ob) else none
          | none => none) = some (x, some nb, true)) : SF P σ H nb o x := by
  intro F W0 ρ W a hC hs
  split at h
  · rename_i fx args hco
    split at h
    · rename_i f first captured hfx
      obtain ⟨dst, op, type, pos, after, guard⟩ := o
      unfold callOf at hco
      cases op <;> simp only [reduceCtorEq] at hco
      rename_i c
      obtain ⟨callee, cargs, argTypes⟩ := c
      cases callee <;> simp only [reduceCtorEq, Option.some.injEq, Prod.mk.injEq] at hco
      rename_i f'
      obtain ⟨rfl, rfl⟩ := hco
      have hf := ev_rel (st := ⟨σ, H⟩) hs f'
      rw [hfx] at hf
      simp only [VRel] at hf
      obtain ⟨fs, cs, hf, h1, h2⟩ := hf
      have e : (fs.toList ++ List.map a.eval cargs.toList ++ cs.toList).toArray = fs ++ cargs.map a.eval ++ cs := by
        apply Array.ext'; simp
      have main : ∀ (t : Tr (AV × Option (List Blk))), call f (first ++ rawL ⟨σ, H⟩ cargs.toList ++ captured) (roH H) = some (t, true) →
          OkT P (fun u W' => ∃ ρ', Ext ρ ρ' ∧ Cls (· < W.heap.size) W ρ' (hp (roH H) t.get) W' ∧ VRel ρ' t.get.1 u ∧ Keep (roH H) (hp (roH H) t.get)) ((execOp a.eval ⟨dst, .call ⟨.value f', cargs, argTypes⟩, type, pos, after, guard⟩).run P W) := fun t ht => by
        have := hcall _ _ _ _ ht _ _ ρ W _ hC.roOf ((h1.append (rawL_rel (st := ⟨σ, H⟩) hs cargs.toList)).append h2)
        rw [e] at this
        simpa [execOp, resolve, hf, Deferred.ofValue, invoke] using this
      split at h
      · rename_i v ob ht
        simp only [Option.some.injEq, Prod.mk.injEq] at h
        obtain ⟨rfl, rfl, rfl⟩ := h
        refine (main _ ht).mono fun u W' ⟨ρ', he, hc, hv, _⟩ => ?_
        simp only [hp, Tr.get] at hc hv
        have : ρ' = ρ := he.eq_len (by rw [hc.rel.len, roH_len, hC.rel.len])
        subst this
        exact ⟨ρ', Ext.refl _, by rw [List.append_nil]; exact hC.below hc.toBelow, hv⟩
      · rename_i v H' ob ht
        obtain ⟨hf', h⟩ := cond_some h
        simp only [Option.some.injEq, Prod.mk.injEq] at h
        obtain ⟨rfl, rfl, rfl⟩ := h
        refine (main _ ht).mono fun u W' ⟨ρ', he, hc, hv, hk⟩ => ?_
        simp only [hp, Tr.get] at hc hv hk
        rw [dropH_eq] at hf' ⊢
        have hk : H.length ≤ H'.length := by have := hk; simp only [Keep, roH_len] at this; exact this
        obtain ⟨g1, g2⟩ := hC.grow hc he.toB hk hf'
        exact ⟨ρ', g1, g2, hv⟩
      · cases h
    · cases h
  · split at h
    · rename_i v H' ob hv
      obtain ⟨hf', h⟩ := cond_some h
      simp only [Option.some.injEq, Prod.mk.injEq] at h
      obtain ⟨rfl, rfl, rfl⟩ := h
      obtain ⟨ρ', he, hok⟩ := evH_ok (P := P) (a := a) hv hs hC.roOf
      have fin : ∀ u W', VRel ρ' v u → Cls (· < W.heap.size) W ρ' H' W' → ∃ ρ', Ext ρ ρ' ∧ Cls F W0 ρ' (H ++ dropH H H') W' ∧ VRel ρ' v u := fun u W' hu hc => by
        rw [dropH_eq] at hf' ⊢
        have hk : H.length ≤ H'.length := by
          have := hC.roOf.keep he hc
          rwa [roH_len] at this
        obtain ⟨g1, g2⟩ := hC.grow hc he.toB hk hf'
        exact ⟨ρ', g1, g2, hu⟩
      generalize (execOp a.eval o).run P W = r at hok
      cases r with
      | halt h' w => exact hok.elim
      | ok n w =>
        cases n with
        | value u => exact fin _ _ hok.2 hok.1
        | skip => exact fin _ _ hok.2 hok.1
        | enter f args => exact Calls.mono hok fun e w ⟨v, he, hv, hc⟩ => ⟨v, he, fin _ _ hv hc⟩
        | _ => exact hok.elim
    · cases h

theorem atH_eq : ∀ (Hs : List (List Blk)) (k : Nat), atH Hs k = Hs[k]?
  | [], k => by simp [atH]
  | x :: t, 0 => by simp [atH]
  | x :: t, k + 1 => by simp [atH, atH_eq t k]
theorem lastH_eq : ∀ (Hs : List (List Blk)), Hs ≠ [] → Hs[Hs.length - 1]? = some (lastH Hs)
  | [], h => absurd rfl h
  | [x], _ => by simp [lastH]
  | x :: y :: t, _ => by
    have := lastH_eq (y :: t) (by simp)
    simp only [List.length_cons, Nat.add_sub_cancel] at this ⊢
    simpa [lastH] using this
theorem dstIn_iff {w : Nat} : ∀ {l : List Oper}, dstIn w l = true ↔ ∃ o ∈ l, o.dst = some w
  | [] => by simp [dstIn]
  | o :: t => by
    simp only [dstIn, Bool.or_eq_true, isDst_eq, dstIn_iff (l := t)]
    constructor
    · rintro (h | ⟨x, hx, h⟩)
      · exact ⟨o, by simp, h⟩
      · exact ⟨x, by simp [hx], h⟩
    · rintro ⟨x, hx, h⟩
      rcases List.mem_cons.1 hx with rfl | hx
      · exact .inl h
      · exact .inr ⟨x, hx, h⟩
theorem dstIn_false {w : Nat} {l : List Oper} (h : dstIn w l = false) : ∀ o ∈ l, o.dst ≠ some w := fun o ho hd => by
  rw [dstIn_iff.2 ⟨o, ho, hd⟩] at h; cases h

def putD (σ : List AV) (o : Oper) (v : AV) : List AV := match o.dst with | some d => pt σ d v | none => σ
theorem putD_len (σ : List AV) (o : Oper) (v : AV) : (putD σ o v).length = σ.length := by unfold putD; split <;> simp [pt_len]
theorem putD_other {σ : List AV} {o : Oper} {v : AV} {w : Nat} (h : o.dst ≠ some w) : (putD σ o v)[w]? = σ[w]? := by
  unfold putD
  split
  · rename_i d hd
    rw [pt_get, if_neg]
    rintro ⟨rfl, _⟩
    exact h hd
  · rfl
theorem putAll_len : ∀ (l : List Oper) (vs σ : List AV), (putAll l vs σ).length = σ.length
  | [], vs, σ => by simp [putAll]
  | o :: t, [], σ => by simp [putAll]
  | o :: t, v :: vs, σ => by
    have := putAll_len t vs (putD σ o v)
    rw [putD_len] at this
    exact this
theorem putAll_keep : ∀ (l : List Oper) (vs σ : List AV) (w : Nat), (∀ o ∈ l, o.dst ≠ some w) → (putAll l vs σ)[w]? = σ[w]?
  | [], vs, σ, w, _ => by simp [putAll]
  | o :: t, [], σ, w, _ => by simp [putAll]
  | o :: t, v :: vs, σ, w, h => by
    have := putAll_keep t vs (putD σ o v) w fun o' ho' => h o' (List.mem_cons_of_mem _ ho')
    rw [putD_other (h o List.mem_cons_self)] at this
    exact this
theorem putAll_get : ∀ (l : List Oper) (vs σ : List AV) (w : Nat) (x : AV), (putAll l vs σ)[w]? = some x →
    (∃ (k : Nat) (o : Oper), l[k]? = some o ∧ o.dst = some w ∧ vs[k]? = some x) ∨ σ[w]? = some x ∧ ∀ (k : Nat) (o : Oper), l[k]? = some o → k < vs.length → o.dst ≠ some w
  | [], vs, σ, w, x, h => .inr ⟨by simpa [putAll] using h, by simp⟩
  | o :: t, [], σ, w, x, h => .inr ⟨by simpa [putAll] using h, by simp⟩
  | o :: t, v :: vs, σ, w, x, h => by
    rcases putAll_get t vs (putD σ o v) w x h with ⟨k, o', h1, h2, h3⟩ | ⟨h1, h2⟩
    · exact .inl ⟨k + 1, o', by simpa using h1, h2, by simpa using h3⟩
    · by_cases hd : o.dst = some w
      · left
        refine ⟨0, o, by simp, hd, ?_⟩
        unfold putD at h1
        rw [hd] at h1
        simp only [pt_get] at h1
        split at h1
        · simpa using h1
        · rename_i hc
          exact absurd ⟨trivial, (List.getElem?_eq_some_iff.1 h1).1⟩ hc
      · right
        rw [putD_other hd] at h1
        refine ⟨h1, fun k o' hk hl => ?_⟩
        cases k with
        | zero => simp at hk; subst hk; exact hd
        | succ k => exact h2 k o' (by simpa using hk) (by simpa using hl)

def isS2 (ops : Array Oper) (n : Nat) : Bool := match ops[n]? with | some o => Nat.beq (kindD o) 2 | none => false
theorem rankS_succ (ops : Array Oper) (n : Nat) : rankS ops (n + 1) = if isS2 ops n = true then rankS ops n + 1 else rankS ops n := by
  show (bif isS2 ops n then rankS ops n + 1 else rankS ops n) = _
  cases isS2 ops n <;> rfl
theorem rankS_mono (ops : Array Oper) {m n : Nat} (h : m ≤ n) : rankS ops m ≤ rankS ops n := by
  induction n with
  | zero => rw [show m = 0 by omega]; exact Nat.le_refl _
  | succ n ih =>
    rcases Nat.lt_or_ge m (n + 1) with hl | hl
    · have := ih (by omega)
      rw [rankS_succ]; split <;> omega
    · rw [show m = n + 1 by omega]; exact Nat.le_refl _
theorem rankS_lt (ops : Array Oper) {m n : Nat} (h : m < n) (hs : isS2 ops m = true) : rankS ops m < rankS ops n := by
  have h1 : rankS ops (m + 1) = rankS ops m + 1 := by rw [rankS_succ, if_pos hs]
  have := rankS_mono ops (show m + 1 ≤ n by omega)
  omega
theorem rankS_hit (ops : Array Oper) : ∀ {n k : Nat}, k < rankS ops n → ∃ m, m < n ∧ isS2 ops m = true ∧ rankS ops m = k
  | 0, k, h => by simp [rankS] at h
  | n + 1, k, h => by
    rw [rankS_succ] at h
    split at h
    · rename_i hs
      rcases Nat.lt_or_ge k (rankS ops n) with hl | hl
      · obtain ⟨m, h1, h2, h3⟩ := rankS_hit ops hl
        exact ⟨m, by omega, h2, h3⟩
      · exact ⟨n, by omega, hs, by omega⟩
    · obtain ⟨m, h1, h2, h3⟩ := rankS_hit ops h
      exact ⟨m, by omega, h2, h3⟩
theorem cntS_succ (ops : Array Oper) (c : List Nat) (n : Nat) : cntS ops c (n + 1) = if isS2 ops n = true ∧ c.any (Nat.beq n) = true then cntS ops c n + 1 else cntS ops c n := by
  show (bif isS2 ops n && c.any (Nat.beq n) then cntS ops c n + 1 else cntS ops c n) = _
  cases isS2 ops n <;> cases c.any (Nat.beq n) <;> rfl
theorem cntS_le (ops : Array Oper) (c : List Nat) (n : Nat) : cntS ops c n ≤ rankS ops n := by
  induction n with
  | zero => simp [cntS]
  | succ n ih =>
    rw [cntS_succ, rankS_succ]
    by_cases hs : isS2 ops n = true
    · rw [if_pos hs]; split <;> omega
    · rw [if_neg hs, if_neg (fun h => hs h.1)]; exact ih
theorem anyBeq {c : List Nat} {n : Nat} : c.any (Nat.beq n) = true ↔ n ∈ c := by
  rw [List.any_eq_true]
  constructor
  · rintro ⟨x, hx, he⟩
    have := Nat.eq_of_beq_eq_true he; subst this; exact hx
  · intro h; exact ⟨n, h, Nat.beq_refl n⟩
theorem cntS_all (ops : Array Oper) (c : List Nat) : ∀ {n : Nat}, cntS ops c n = rankS ops n → ∀ m, m < n → isS2 ops m = true → m ∈ c
  | 0, _, m, hm, _ => by omega
  | n + 1, h, m, hm, hs => by
    rw [cntS_succ, rankS_succ] at h
    have hle := cntS_le ops c n
    by_cases hsn : isS2 ops n = true
    · rw [if_pos hsn] at h
      split at h
      · rename_i hc
        rcases Nat.lt_or_ge m n with hl | hl
        · exact cntS_all ops c (by omega) m hl hs
        · rw [show m = n by omega]; exact anyBeq.1 hc.2
      · omega
    · rw [if_neg hsn, if_neg (fun h => hsn h.1)] at h
      rcases Nat.lt_or_ge m n with hl | hl
      · exact cntS_all ops c h m hl hs
      · rw [show m = n by omega] at hs; exact absurd hs hsn
theorem cntS_bound (ops : Array Oper) (c : List Nat) {k : Nat} : ∀ {n : Nat}, (∀ m, m < n → isS2 ops m = true → m ∈ c → rankS ops m < k) → cntS ops c n ≤ k
  | 0, _ => by simp [cntS]
  | n + 1, h => by
    rw [cntS_succ]
    split
    · rename_i hc
      have h1 := h n (by omega) hc.1 (anyBeq.1 hc.2)
      have h2 := cntS_le ops c n
      omega
    · exact cntS_bound ops c fun m hm => h m (by omega)

theorem kindD_le (o : Oper) : kindD o ≤ 3 := by
  unfold kindD
  split <;> try omega
  split <;> omega

/-- what the walk of a drawn region says of one operation -/
def Fact (P : Program) (ops : Array Oper) (σ : List AV) (Hs : List (List Blk)) (j : Nat) (o : Oper) (x : AV) : Prop :=
  o.guard = none ∧ (∀ w ∈ opnd o, ∀ (n : Nat) (o' : Oper), n < j → ops[n]? = some o' → o'.dst = some w → n ∈ cl .any ops j) ∧
  ((isS2 ops j = false ∧ (∀ t, o.op ≠ .alloc t) ∧ (∀ e, stTo o e = false) ∧ ∃ H, Hs[cntS ops (cl .any ops j) j]? = some H ∧ evV P noC ⟨maskK (opnd o) 0 σ, H⟩ o = some (x, true)) ∨
   (isS2 ops j = false ∧ ∃ t z l, o.op = .alloc t ∧ zeroT P t = some z ∧ z.cells = some l ∧ x = .junk) ∨
   (isS2 ops j = false ∧ o.dst = none ∧ ∃ t d y n l m ta zz lz om, o.op = .store t (.tmp d) y ∧ d < σ.length ∧ stOnly ops d j ops.size = true ∧ ((St.mk (maskK (opnd o) 0 σ) []).ev y).cells = some l ∧ szT P t = some n ∧ l.length = n ∧ x = .agg l ∧
      m < j ∧ ops[m]? = some om ∧ om.op = .alloc ta ∧ om.dst = some d ∧ zeroT P ta = some zz ∧ zz.cells = some lz ∧ lz.length = n) ∨
   (isS2 ops j = true ∧ (∀ t, o.op ≠ .alloc t) ∧ (∀ e, stTo o e = false) ∧ cntS ops (cl .any ops j) j = rankS ops j ∧ ∃ H nb, Hs[rankS ops j]? = some H ∧ Hs[rankS ops j + 1]? = some (H ++ nb) ∧ allFresh nb = true ∧ SF P (maskK (opnd o) 0 σ) H nb o x))

theorem Fact.more {ops : Array Oper} {σ : List AV} {Hs Hs' : List (List Blk)} {j : Nat} {o : Oper} {x : AV} (h : Fact P ops σ Hs j o x) (hH : ∀ (k : Nat) H, Hs[k]? = some H → Hs'[k]? = some H) : Fact P ops σ Hs' j o x := by
  obtain ⟨hg, hp, h⟩ := h
  refine ⟨hg, hp, ?_⟩
  rcases h with ⟨h1, h2, h0, H, h3, h4⟩ | h | h | ⟨h1, h2, h0, h3, H, nb, h4, h5, h6⟩
  · exact .inl ⟨h1, h2, h0, H, hH _ _ h3, h4⟩
  · exact .inr (.inl h)
  · exact .inr (.inr (.inl h))
  · exact .inr (.inr (.inr ⟨h1, h2, h0, h3, H, nb, hH _ _ h4, hH _ _ h5, h6⟩))

theorem allocLen_spec {ops : Array Oper} {d : Nat} : ∀ {i n : Nat}, allocLen P ops d i = some n → ∃ m om ta zz lz, m < i ∧ ops[m]? = some om ∧ om.op = .alloc ta ∧ om.dst = some d ∧ zeroT P ta = some zz ∧ zz.cells = some lz ∧ lz.length = n
  | 0, n, h => by simp [allocLen] at h
  | i + 1, n, h => by
    have nxt : allocLen P ops d i = some n → ∃ m om ta zz lz, m < i + 1 ∧ ops[m]? = some om ∧ om.op = .alloc ta ∧ om.dst = some d ∧ zeroT P ta = some zz ∧ zz.cells = some lz ∧ lz.length = n := fun h => by
      obtain ⟨m, om, ta, zz, lz, h1, r⟩ := allocLen_spec h
      exact ⟨m, om, ta, zz, lz, by omega, r⟩
    simp only [allocLen] at h
    split at h
    · rename_i o ho
      split at h
      · rename_i t hop
        cases hd : isDst o.dst d with
        | false => rw [hd] at h; exact nxt h
        | true =>
          rw [hd] at h
          simp only [cond_true] at h
          split at h
          · rename_i z hz
            split at h
            · rename_i l hl
              simp only [Option.some.injEq] at h
              exact ⟨i, o, t, z, l, by omega, ho, hop, isDst_eq.1 hd, hz, hl, h⟩
            · cases h
          · cases h
      · exact nxt h
    · exact nxt h
theorem stTo_kind {o : Oper} (h : kindD o ≠ 3) : ∀ e, stTo o e = false := fun e => by
  unfold stTo
  split
  · rename_i t d x hop
    exact absurd (by simp [kindD, hop]) h
  · rfl

def addHs (Hs : List (List Blk)) (oh : Option (List Blk)) : List (List Blk) := match oh with | some nb => Hs ++ [appH (lastH Hs) nb] | none => Hs

theorem evD1_fact {call : CallerT} (hcall : CallerTOk P call) {ops : Array Oper} {i : Nat} {o : Oper} {σ : List AV} {Hs : List (List Blk)} {v : AV} {oh : Option (List Blk)} (hpr : ∀ w ∈ opnd o, ∀ (n : Nat) (o' : Oper), n < i → ops[n]? = some o' → o'.dst = some w → n ∈ cl .any ops i) (ho : ops[i]? = some o) (hl0 : Hs.length = rankS ops i + 1)
    (h : evD1 P call ops i o σ Hs = some (v, oh, true)) :
    Fact P ops σ (addHs Hs oh) i o v ∧ (addHs Hs oh).length = rankS ops (i + 1) + 1 := by
  have hs2 : isS2 ops i = Nat.beq (kindD o) 2 := by simp [isS2, ho]
  have hkA : ∀ {t}, o.op = .alloc t → kindD o = 1 := fun {t} e => by simp [kindD, e]
  unfold evD1 at h
  split at h
  · rename_i H hg hH
    rw [atH_eq] at hH
    split at h
    · rename_i hk
      rw [hk] at hs2
      split at h
      · rename_i w ob hv
        simp only [Option.some.injEq, Prod.mk.injEq] at h
        obtain ⟨rfl, rfl, rfl⟩ := h
        refine ⟨⟨hg, hpr, .inl ⟨by rw [hs2]; rfl, fun t e => (by rw [hkA e] at hk; cases hk), stTo_kind (by rw [hk]; decide), H, hH, hv⟩⟩, ?_⟩
        simp only [addHs]
        rw [rankS_succ, if_neg (by rw [hs2]; decide), hl0]
      · cases h
    · rename_i hk
      rw [hk] at hs2
      split at h
      · rename_i t hop
        split at h
        · rename_i z hz
          split at h
          · rename_i l hzl
            simp only [Option.some.injEq, Prod.mk.injEq, and_true] at h
            obtain ⟨rfl, rfl⟩ := h
            refine ⟨⟨hg, hpr, .inr (.inl ⟨by rw [hs2]; rfl, t, z, l, hop, hz, hzl, rfl⟩)⟩, ?_⟩
            simp only [addHs]
            rw [rankS_succ, if_neg (by rw [hs2]; decide), hl0]
          · cases h
        · cases h
      · cases h
    · rename_i hk
      rw [hk] at hs2
      split at h
      · rename_i t dd y hop hdst
        obtain ⟨hcc, h⟩ := cond_some h
        simp only [Bool.and_eq_true, Nat.blt_eq] at hcc
        split at h
        · rename_i l n m hl hn hm
          obtain ⟨hb, h⟩ := cond_some h
          simp only [Bool.and_eq_true] at hb
          have hb1 := Nat.eq_of_beq_eq_true hb.1
          have hb2 := Nat.eq_of_beq_eq_true hb.2
          simp only [Option.some.injEq, Prod.mk.injEq, and_true] at h
          obtain ⟨rfl, rfl⟩ := h
          obtain ⟨m', om, ta, zz, lz, g1, g2, g3, g4, g5, g6, g7⟩ := allocLen_spec hm
          refine ⟨⟨hg, hpr, .inr (.inr (.inl ⟨by rw [hs2]; rfl, hdst, t, dd, y, n, l, m', ta, zz, lz, om, hop, hcc.2, hcc.1, hl, hn, hb1, rfl, g1, g2, g3, g4, g5, g6, by rw [g7, hb2]⟩))⟩, ?_⟩
          simp only [addHs]
          rw [rankS_succ, if_neg (by rw [hs2]; decide), hl0]
        · cases h
      · cases h
    · rename_i hk0 hk1 hk3
      obtain ⟨hc, h⟩ := cond_some h
      have hc := Nat.eq_of_beq_eq_true hc
      rw [hc] at hH
      have hk2 : kindD o = 2 := by
        have := kindD_le o
        have h0 : kindD o ≠ 0 := hk0
        have h1 : kindD o ≠ 1 := hk1
        have h3 : kindD o ≠ 3 := hk3
        omega
      rw [hk2] at hs2
      have hS : isS2 ops i = true := by rw [hs2]; rfl
      have hne : Hs ≠ [] := by intro e; rw [e] at hl0; simp at hl0
      have hlast := lastH_eq Hs hne
      rw [hl0, Nat.add_sub_cancel, hH] at hlast
      simp only [Option.some.injEq] at hlast
      have key : ∃ nb, oh = some nb ∧ allFresh nb = true := by
        split at h
        · split at h
          · split at h
            · simp only [Option.some.injEq, Prod.mk.injEq] at h; exact ⟨[], h.2.1.symm, rfl⟩
            · obtain ⟨hf, h⟩ := cond_some h
              simp only [Option.some.injEq, Prod.mk.injEq] at h; exact ⟨_, h.2.1.symm, hf⟩
            · cases h
          · cases h
        · split at h
          · obtain ⟨hf, h⟩ := cond_some h
            simp only [Option.some.injEq, Prod.mk.injEq] at h; exact ⟨_, h.2.1.symm, hf⟩
          · cases h
      obtain ⟨nb, rfl, hfr⟩ := key
      have hSF := evD1_S hcall h
      refine ⟨⟨hg, hpr, .inr (.inr (.inr ⟨hS, fun t e => (by rw [hkA e] at hk2; cases hk2), stTo_kind (by rw [hk2]; decide), hc, H, nb, ?_, ?_, hfr, hSF⟩))⟩, ?_⟩
      · simp only [addHs]
        rw [List.getElem?_append_left (by omega)]; exact hH
      · simp only [addHs]
        rw [List.getElem?_append_right (by omega), hl0, Nat.sub_self, ← hlast, appH_eq]; rfl
      · simp only [addHs, List.length_append, hl0, List.length_cons, List.length_nil]
        rw [rankS_succ, if_pos hS]
  · cases h

theorem prodB_spec {ops : Array Oper} {c : List Nat} {w : Nat} : ∀ {i : Nat}, prodB ops c w i = true → ∀ (n : Nat) (o : Oper), n < i → ops[n]? = some o → o.dst = some w → n ∈ c
  | 0, _, n, o, hn, _, _ => by omega
  | i + 1, h, n, o, hn, ho, hd => by
    simp only [prodB, Bool.and_eq_true] at h
    rcases Nat.lt_or_ge n i with hl | hl
    · exact prodB_spec h.2 n o hl ho hd
    · have : n = i := by omega
      subst this
      have h1 := h.1
      rw [ho] at h1
      simp only [isDst_eq.2 hd, Bool.not_true, Bool.false_or] at h1
      exact anyBeq.1 h1

theorem evDs_spec {call : CallerT} (hcall : CallerTOk P call) {ops : Array Oper} : ∀ (l : List Oper) (i : Nat) (σ : List AV) (Hs Hs' : List (List Blk)) (xs : List AV), (∀ k, k < l.length → l[k]? = ops[i + k]?) → Hs.length = rankS ops i + 1 →
    evDs P call ops i l σ Hs = some (xs, Hs', true) →
    xs.length = l.length ∧ Hs'.length = rankS ops (i + l.length) + 1 ∧ (∀ (k : Nat) H, Hs[k]? = some H → Hs'[k]? = some H) ∧
    (∀ k o x, l[k]? = some o → xs[k]? = some x → Fact P ops (putAll l xs σ) Hs' (i + k) o x) ∧
    (∀ (k m : Nat) o o' d, l[k]? = some o → l[m]? = some o' → o.dst = some d → o'.dst = some d → k = m) ∧
    (∀ (k m : Nat) o o' w, l[k]? = some o → l[m]? = some o' → k ≤ m → w ∈ opnd o → o'.dst ≠ some w)
  | [], i, σ, Hs, Hs', xs, _, hl, h => by
    simp only [evDs, Option.some.injEq, Prod.mk.injEq, and_true] at h
    obtain ⟨rfl, rfl⟩ := h
    exact ⟨rfl, by simpa using hl, fun _ _ h => h, by simp, by simp, by simp⟩
  | o :: t, i, σ, Hs, Hs', xs, hop, hl, h => by
    simp only [evDs] at h
    obtain ⟨hc, h⟩ := cond_some h
    simp only [Bool.and_eq_true, List.all_eq_true, Bool.not_eq_true'] at hc
    obtain ⟨hc1', hc2⟩ := hc
    have hc1 : ∀ w ∈ opnd o, dstIn w (o :: t) = false := fun w hw => (hc1' w hw).1
    have hpr : ∀ w ∈ opnd o, ∀ (n : Nat) (o' : Oper), n < i → ops[n]? = some o' → o'.dst = some w → n ∈ cl .any ops i := fun w hw n o' hn ho' hd => prodB_spec (hc1' w hw).2 n o' hn ho' hd
    split at h
    · rename_i v oh ob hv
      split at h
      · rename_i xs' Hs'' ob' hr
        simp only [Option.some.injEq, Prod.mk.injEq] at h
        obtain ⟨rfl, rfl, hob⟩ := h
        obtain ⟨rfl, rfl⟩ := andB_true hob
        have ho : ops[i]? = some o := by have := hop 0 (by simp); simpa using this.symm
        obtain ⟨f1, f2⟩ := evD1_fact hcall hpr ho hl hv
        obtain ⟨r1, r2, r3, r4, r5, r6⟩ := evDs_spec hcall t (i + 1) (putD σ o v) _ Hs'' xs' (fun k hk => by have := hop (k + 1) (by simpa using hk); rw [show i + 1 + k = i + (k + 1) by omega]; simpa using this) f2 hr
        have hH : ∀ (k : Nat) H, Hs[k]? = some H → (addHs Hs oh)[k]? = some H := fun k H hk => by
          cases oh with
          | none => exact hk
          | some nb => simp only [addHs]; rw [List.getElem?_append_left (List.getElem?_eq_some_iff.1 hk).1]; exact hk
        have hmask : maskK (opnd o) 0 σ = maskK (opnd o) 0 (putAll t xs' (putD σ o v)) := by
          refine maskK_congr _ _ _ _ (by rw [putAll_len, putD_len]) fun j hj => ?_
          have hfree := dstIn_false (hc1 j (by simpa using hj))
          rw [putAll_keep t xs' _ j fun o' ho' => hfree o' (List.mem_cons_of_mem _ ho'), putD_other (hfree o List.mem_cons_self)]
        refine ⟨by simp [r1], by rw [r2]; congr 2; simp; omega, fun k H hk => r3 k H (hH k H hk), fun k o' x hk hx => ?_, fun k m o1 o2 d h1 h2 h3 h4 => ?_, fun k m o1 o2 w h1 h2 hkm hw => ?_⟩
        · cases k with
          | zero =>
            simp at hk hx
            subst hk; subst hx
            have := f1.more r3
            unfold Fact at this ⊢
            rw [hmask, show σ.length = (putAll t xs' (putD σ o v)).length by rw [putAll_len, putD_len]] at this
            exact this
          | succ k =>
            have := r4 k o' x (by simpa using hk) (by simpa using hx)
            rw [show i + (k + 1) = i + 1 + k by omega]
            exact this
        · have nod : ∀ (m : Nat) o2, t[m]? = some o2 → o.dst = some d → o2.dst = some d → False := fun m o2 hm e1 e2 => by
            rw [e1] at hc2
            simp only [Bool.not_eq_true'] at hc2
            exact dstIn_false hc2 o2 (List.mem_of_getElem? hm) e2
          cases k with
          | zero =>
            cases m with
            | zero => rfl
            | succ m => simp at h1 h2; subst h1; exact (nod m o2 h2 h3 h4).elim
          | succ k =>
            cases m with
            | zero => simp at h1 h2; subst h2; exact (nod k o1 h1 h4 h3).elim
            | succ m => rw [r5 k m o1 o2 d (by simpa using h1) (by simpa using h2) h3 h4]
        · cases k with
          | zero =>
            simp at h1
            subst h1
            exact dstIn_false (hc1 w hw) o2 (List.mem_of_getElem? h2)
          | succ k =>
            cases m with
            | zero => omega
            | succ m => exact r6 k m o1 o2 w (by simpa using h1) (by simpa using h2) (by omega) hw
      · cases h
    · cases h

-- whatever order: an invariant over what has been done
theorem countP_lt {p q : Nat → Bool} : ∀ {l : List Nat} {y : Nat}, (∀ x, q x = true → p x = true) → y ∈ l → p y = true → q y = false → l.countP q < l.countP p
  | [], y, _, h, _, _ => by cases h
  | x :: t, y, hm, h, hp, hq => by
    have le : t.countP q ≤ t.countP p := List.countP_mono_left fun a _ => hm a
    rcases List.mem_cons.1 h with rfl | h
    · rw [List.countP_cons_of_pos hp, List.countP_cons_of_neg (by rw [hq]; decide)]
      omega
    · have ih := countP_lt hm h hp hq
      simp only [List.countP_cons]
      have := hm x
      cases hqx : q x <;> cases hpx : p x <;> simp_all <;> omega
def unl (n : Nat) (listed : Array Bool) : Nat := (List.range n).countP fun i => !(listed.getD i true)
theorem getD_set_self {listed : Array Bool} (i : Nat) : (listed.setIfInBounds i true).getD i true = true := by
  simp only [Array.getD_eq_getD_getElem?]
  rcases Nat.lt_or_ge i listed.size with h | h
  · rw [Array.getElem?_setIfInBounds_self_of_lt h]; rfl
  · rw [Array.getElem?_eq_none (by simpa using h)]; rfl
theorem unl_set {n i : Nat} {listed : Array Bool} (hi : i < n) (h : listed.getD i true = false) : unl n (listed.setIfInBounds i true) < unl n listed := by
  refine countP_lt (y := i) (fun x hx => ?_) (List.mem_range.2 hi) (by simp only [h]; rfl) (by rw [getD_set_self]; rfl)
  by_cases hxi : i = x
  · subst hxi; rw [getD_set_self] at hx; cases hx
  · rwa [getD_set_ne true hxi] at hx

theorem wpOp_mono {ops : Array Oper} {Q : Exit → Act → World → Prop} {i : Nat} {K K' : Act → World → Prop} (h : ∀ a w, K a w → K' a w) {a : Act} {w : World} (hh : wpOp P ops Q i K a w) : wpOp P ops Q i K' a w := by
  unfold wpOp at *
  split at hh
  · exact h _ _ hh
  · split at hh
    · rename_i hw
      rw [if_pos hw]
      rcases hh with hh | hh
      · exact .inl (Oper.wp_mono h hh)
      · exact .inr hh
    · rename_i hw
      rw [if_neg hw]
      exact h _ _ hh

theorem wpAny_inv {md : Region.Mode} {ops : Array Oper} {Q : Exit → Act → World → Prop} {I : Array Bool → Act → World → Prop}
    (step : ∀ listed a W i, I listed a W → i ∈ Region.ready md ops listed → wpOp P ops Q i (I (listed.setIfInBounds i true)) a W)
    (fin : ∀ listed a W, I listed a W → Region.ready md ops listed = [] → Q .normal a W) :
    ∀ (fuel : Nat) (listed : Array Bool) (a : Act) (W : World), I listed a W → unl ops.size listed ≤ fuel → wpAny P md ops Q fuel listed a W
  | 0, listed, a, W, hI, hf => by
    have hnil : Region.ready md ops listed = [] := by
      cases hr : Region.ready md ops listed with
      | nil => rfl
      | cons i t =>
        have hi : i ∈ Region.ready md ops listed := by rw [hr]; exact List.mem_cons_self
        obtain ⟨h1, o, h2, _⟩ := mem_ready.1 hi
        have := unl_set (Array.getElem?_eq_some_iff.1 h2).1 h1
        omega
    exact ⟨hnil, fin listed a W hI hnil⟩
  | fuel + 1, listed, a, W, hI, hf => by
    refine ⟨fun h0 => fin listed a W hI h0, fun i hi => ?_⟩
    obtain ⟨h1, o, h2, _⟩ := mem_ready.1 hi
    have := unl_set (Array.getElem?_eq_some_iff.1 h2).1 h1
    exact wpOp_mono (fun a' W' h => wpAny_inv step fin fuel _ a' W' h (by omega)) (step listed a W i hI hi)

theorem Cls.base {F F1 : Nat → Prop} {W0 W1 W : World} {ρ : List Place} {H : List Blk} (h : Cls F1 W1 ρ H W) (hb : ∀ k, F k → F1 k ∧ W1.heap[k]? = W0.heap[k]?) (ho : W1.os = W0.os) (ht : W1.tape = W0.tape) (hu : W1.output = W0.output) (hs : W0.heap.size ≤ W1.heap.size)
    (hl : ∀ k, F k → k < W0.heap.size) : Cls F W0 ρ H W :=
  ⟨h.rel, ⟨h.fr.os.trans ho, h.fr.tape.trans ht, h.fr.output.trans hu, Nat.le_trans hs h.fr.size, fun k hk => (h.fr.keep k (hb k hk).1).trans (hb k hk).2⟩, hl, fun b x p hx hp hw hc hF => h.free b x p hx hp hw hc (hb _ hF).1⟩

/-- a block that is there and that nobody names -/
theorem Cls.adopt {F : Nat → Prop} {W0 W : World} {ρ : List Place} {H : List Blk} (h : Cls F W0 ρ H W) (q : Place) (y : Blk) (hb : BRel (ρ ++ [q]) W q y) (hF : ¬ F q.blk) (hfr : ∀ (b : Nat) (x : Blk) (p : Place), H[b]? = some x → ρ[b]? = some p → x.live = true → p.cap ≠ 0 → p.blk ≠ q.blk) :
    Cls F W0 (ρ ++ [q]) (H ++ [y]) W := by
  refine ⟨⟨by simp [h.rel.len], fun b x p hx hp => ?_, fun b c x z p r hne hx hz hp hr hw hl hcp hcr => ?_⟩, h.fr, h.low, fun b x p hx hp hw hcp => ?_⟩
  · rcases len_get h.rel.len q _ hp hx with ⟨h1, h2, _⟩ | ⟨_, rfl, rfl⟩
    · exact (h.rel.blk b x p h2 h1).ext (Ext.append ρ q)
    · exact hb
  · rcases len_get h.rel.len q _ hp hx with ⟨h1, h2, _⟩ | ⟨e1, e2, e3⟩
    · rcases len_get h.rel.len q _ hr hz with ⟨h3, h4, _⟩ | ⟨e4, e5, e6⟩
      · exact h.rel.apart b c x z p r hne h2 h4 h1 h3 hw hl hcp hcr
      · rw [e5]; exact hfr b x p h2 h1 (wrl hw) hcp
    · rcases len_get h.rel.len q _ hr hz with ⟨h3, h4, _⟩ | ⟨e4, e5, e6⟩
      · rw [e2]; exact fun e => hfr c z r h4 h3 hl hcr e.symm
      · omega
  · rcases len_get h.rel.len q _ hp hx with ⟨h1, h2, _⟩ | ⟨e1, e2, e3⟩
    · exact h.free b x p h2 h1 hw hcp
    · rw [e2]; exact hF

/-- what a new variable holds -/
def cont (all : List Oper) (xs : List AV) (d : Nat) (l : List AV) : List AV := match stIn all xs d with | some l' => l' | none => l

theorem reAlloc_ok {F : Nat → Prop} {W0 W : World} {tmps : Array Value} {β : Nat → Nat} {all : List Oper} {xs : List AV} : ∀ (l : List Oper) (i : Nat) (st st' : St) (ρ : List Place), reAlloc P all xs l st = some st' → SRel ρ st.slots tmps → Cls F W0 ρ st.heap W →
    (∀ (k : Nat) (o : Oper) (t : TypeId), l[k]? = some o → o.op = .alloc t → ¬ F (β (i + k)) ∧ (∃ cs : Array Value, W.heap[β (i + k)]? = some (.cells cs t (0, 0)) ∧ ∀ z l d, zeroT P t = some z → z.cells = some l → o.dst = some d → VRels ρ (cont all xs d l) cs.toList) ∧
      (∀ d, o.dst = some d → d < tmps.size → tmps[d]? = some (.pointer (some ⟨β (i + k), 0, none⟩))) ∧
      (∀ (b : Nat) (x : Blk) (p : Place), st.heap[b]? = some x → ρ[b]? = some p → x.live = true → p.cap ≠ 0 → p.blk ≠ β (i + k))) →
    (∀ (k m : Nat) (o o' : Oper) (t t' : TypeId), l[k]? = some o → l[m]? = some o' → o.op = .alloc t → o'.op = .alloc t' → β (i + k) = β (i + m) → k = m) →
    ∃ ρ', Ext ρ ρ' ∧ SRel ρ' st'.slots tmps ∧ Cls F W0 ρ' st'.heap W
  | [], i, st, st', ρ, h, hs, hC, _, _ => by
    simp only [reAlloc, Option.some.injEq] at h
    subst h
    exact ⟨ρ, Ext.refl ρ, hs, hC⟩
  | o :: t, i, st, st', ρ, h, hs, hC, hal, hinj => by
    have nxt : ∀ (k : Nat), i + (k + 1) = i + 1 + k := fun k => by omega
    have skip : reAlloc P all xs t st = some st' → ∃ ρ', Ext ρ ρ' ∧ SRel ρ' st'.slots tmps ∧ Cls F W0 ρ' st'.heap W := fun h => by
      refine reAlloc_ok (β := β) t (i + 1) st st' ρ h hs hC (fun k o' ty hk ho => ?_) fun k m o1 o2 t1 t2 h1 h2 h3 h4 h5 => ?_
      · have := hal (k + 1) o' ty (by simpa using hk) ho
        rwa [nxt k] at this
      · have := hinj (k + 1) (m + 1) o1 o2 t1 t2 (by simpa using h1) (by simpa using h2) h3 h4 (by rw [nxt k, nxt m]; exact h5)
        omega
    simp only [reAlloc] at h
    split at h
    · rename_i ty d hop hd
      split at h
      · rename_i z hz
        split at h
        · rename_i l hl
          obtain ⟨a1, ⟨cs, a2, a3⟩, a4, a5⟩ := hal 0 o ty (by simp) hop
          simp only [Nat.add_zero] at a1 a2 a4 a5
          have hcr := a3 z l d hz hl hd
          change reAlloc P all xs t ⟨pt st.slots d (.ptr st.heap.length 0 0), st.heap ++ [.one true (cont all xs d l)]⟩ = some st' at h
          generalize cont all xs d l = l at hcr h
          let q : Place := ⟨β i, 0, l.length, 1⟩
          have hB : BRel (ρ ++ [q]) W q (.one true l) := ⟨cs, ty, (0, 0), a2, fun _ => rfl, rfl, Nat.one_ne_zero, fun j x hj => by
            obtain ⟨v, hv, hr⟩ := hcr.get hj
            exact ⟨v, by simpa [q] using hv, hr.ext (Ext.append ρ q)⟩⟩
          have hC' := hC.adopt q _ hB a1 a5
          have hs' : SRel (ρ ++ [q]) (pt st.slots d (.ptr st.heap.length 0 0)) tmps := by
            refine ⟨by rw [pt_len]; exact hs.len, fun w x hx => ?_⟩
            rw [pt_get] at hx
            split at hx
            · rename_i hc
              simp only [Option.some.injEq] at hx
              subst hx
              obtain ⟨rfl, hdl⟩ := hc
              refine ⟨_, a4 d hd (by rw [hs.len]; exact hdl), ?_⟩
              simp only [VRel]
              exact ⟨q, new_last ρ st.heap hC.rel.len q, by simp [q]⟩
            · obtain ⟨v, hv, hr⟩ := hs.get w x hx
              exact ⟨v, hv, hr.ext (Ext.append ρ q)⟩
          obtain ⟨ρ', e1, e2, e3⟩ := reAlloc_ok (β := β) t (i + 1) _ st' (ρ ++ [q]) h hs' hC' (fun k o' ty' hk ho => by
            have hd' := hal (k + 1) o' ty' (by simpa using hk) ho
            rw [nxt k] at hd'
            obtain ⟨b1, ⟨cs2, b2, b2'⟩, b3, b4⟩ := hd'
            refine ⟨b1, ⟨cs2, b2, fun z l d h1 h2 h3 => VRels.ext (Ext.append ρ q) (b2' z l d h1 h2 h3)⟩, b3, fun b x p hx hp hl hc => ?_⟩
            rcases len_get hC.rel.len q _ hp hx with ⟨h1, h2, _⟩ | ⟨c1, c2, c3⟩
            · exact b4 b x p h2 h1 hl hc
            · rw [c2]
              intro e
              have := hinj 0 (k + 1) o o' ty ty' (by simp) (by simpa using hk) hop ho (by rw [Nat.add_zero, nxt k]; exact e)
              omega) fun k m o1 o2 t1 t2 h1 h2 h3 h4 h5 => by
            have := hinj (k + 1) (m + 1) o1 o2 t1 t2 (by simpa using h1) (by simpa using h2) h3 h4 (by rw [nxt k, nxt m]; exact h5)
            omega
          exact ⟨ρ', (Ext.append ρ q).trans e1, e2, e3⟩
        · cases h
      · cases h
    · exact skip h

/-- what a new variable holds on the way -/
def Cont (P : Program) (ops : Array Oper) (z : Nat) (xs : List AV) (listed : Array Bool) (ρ : List Place) (o : Oper) (t : TypeId) (cs : Array Value) : Prop :=
  (∀ zz l, zeroT P t = some zz → zz.cells = some l → (∀ (i : Nat) (oi : Oper) (d : Nat), ops[i]? = some oi → i < z → listed.getD i false = true → o.dst = some d → stTo oi d = false) → VRels ρ l cs.toList) ∧
  ∀ (i : Nat) (oi : Oper) (d : Nat), ops[i]? = some oi → i < z → listed.getD i false = true → o.dst = some d → stTo oi d = true → ∃ l, xs[i]? = some (.agg l) ∧ VRels ρ l cs.toList
theorem Cont.ext {ops : Array Oper} {z : Nat} {xs : List AV} {listed : Array Bool} {ρ ρ' : List Place} {o : Oper} {t : TypeId} {cs : Array Value} (he : Ext ρ ρ') (h : Cont P ops z xs listed ρ o t cs) : Cont P ops z xs listed ρ' o t cs :=
  ⟨fun zz l h1 h2 h3 => VRels.ext he (h.1 zz l h1 h2 h3), fun i oi d h1 h2 h3 h4 h5 => let ⟨l, e1, e2⟩ := h.2 i oi d h1 h2 h3 h4 h5; ⟨l, e1, VRels.ext he e2⟩⟩

/-- what holds on the way through the first part of a drawn region -/
structure DI (P : Program) (ops : Array Oper) (z : Nat) (st : St) (xs : List AV) (Hs : List (List Blk)) (F : Nat → Prop) (W0 Wb : World) (ρ0 : List Place) (listed : Array Bool) (a : Act) (W : World) (k : Nat) (ρ : List Place) (F1 : Nat → Prop) (W1 : World) (β : Nat → Nat) : Prop where
  size : listed.size = ops.size
  down : Down .any ops listed
  hi : ∀ j, z ≤ j → listed.getD j false = false
  defers : a.defers = []
  ext : Ext ρ0 ρ
  base : ∀ k, F k → F1 k ∧ W1.heap[k]? = W0.heap[k]?
  bos : W1.os = W0.os
  btape : W1.tape = W0.tape
  bout : W1.output = W0.output
  bsize : W0.heap.size ≤ W1.heap.size
  cnt : ∀ j, j < z → isS2 ops j = true → (listed.getD j false = true ↔ rankS ops j < k)
  kz : k ≤ rankS ops z
  cls : ∃ H, Hs[k]? = some H ∧ Cls F1 W1 ρ H W
  lo : Wb.heap.size ≤ W1.heap.size
  tsz : a.tmps.size = st.slots.length
  old : ∀ (w : Nat) (x : AV), st.slots[w]? = some x → (∀ (j : Nat) (o : Oper), ops[j]? = some o → j < z → o.dst ≠ some w) → ∃ v, a.tmps[w]? = some v ∧ VRel ρ x v
  new : ∀ (j : Nat) (o : Oper) (d : Nat) (x : AV), ops[j]? = some o → j < z → listed.getD j false = true → o.dst = some d → d < st.slots.length → xs[j]? = some x → ∃ v, a.tmps[d]? = some v ∧ VRel ρ x v
  al : ∀ (j : Nat) (o : Oper) (t : TypeId), ops[j]? = some o → j < z → listed.getD j false = true → o.op = .alloc t → F1 (β j) ∧ Wb.heap.size ≤ β j ∧ (∃ cs : Array Value, W1.heap[β j]? = some (.cells cs t (0, 0)) ∧ Cont P ops z xs listed ρ o t cs) ∧
    ∀ d, o.dst = some d → d < st.slots.length → a.tmps[d]? = some (.pointer (some ⟨β j, 0, none⟩))
  inj : ∀ (j m : Nat) (o o' : Oper) (t t' : TypeId), ops[j]? = some o → ops[m]? = some o' → j < z → m < z → listed.getD j false = true → listed.getD m false = true → o.op = .alloc t → o'.op = .alloc t' → β j = β m → j = m

theorem getD_set_f {listed : Array Bool} {i j : Nat} (h : (listed.setIfInBounds i true).getD j false = true) : j = i ∨ listed.getD j false = true := by
  by_cases hij : i = j
  · exact .inl hij.symm
  · right; rwa [getD_set_ne false hij] at h
theorem getD_false {listed : Array Bool} {i : Nat} (hs : i < listed.size) (h : listed.getD i true = false) : listed.getD i false = false := by
  simp only [Array.getD_eq_getD_getElem?, Array.getElem?_eq_getElem hs, Option.getD_some] at *
  exact h
theorem getD_self {listed : Array Bool} {i : Nat} (hs : i < listed.size) : (listed.setIfInBounds i true).getD i false = true := by
  simp only [Array.getD_eq_getD_getElem?]
  rw [Array.getElem?_setIfInBounds_self_of_lt hs]; rfl

theorem put_get_other {a : Act} {d : Option Tmp} {v : Value} {w : Nat} (h : d ≠ some w) : (a.put d v).tmps[w]? = a.tmps[w]? := by
  cases d with
  | none => rfl
  | some t =>
    simp only [Act.put]
    rw [Array.getElem?_setIfInBounds_ne (fun e => h (by rw [e]))]
theorem put_get_self {a : Act} {d : Nat} {v : Value} (h : d < a.tmps.size) : (a.put (some d) v).tmps[d]? = some v := by
  simp only [Act.put]
  rw [Array.getElem?_setIfInBounds_self_of_lt h]
theorem put_size (a : Act) (d : Option Tmp) (v : Value) : (a.put d v).tmps.size = a.tmps.size := by cases d <;> simp [Act.put]

theorem allFresh_app : ∀ {l m : List Blk}, allFresh l = true → allFresh m = true → allFresh (l ++ m) = true
  | [], m, _, h => h
  | x :: t, m, h, k => by
    simp only [allFresh, Bool.and_eq_true] at h
    simp only [List.cons_append, allFresh, Bool.and_eq_true]
    exact ⟨h.1, allFresh_app h.2 k⟩

/-- all that the walk has shown -/
structure DW (P : Program) (ops : Array Oper) (z : Nat) (st : St) (xs : List AV) (Hs : List (List Blk)) (σf : List AV) : Prop where
  hz : z ≤ ops.size
  hxs : xs.length = z
  hHs : Hs.length = rankS ops z + 1
  hσ : σf = putAll (ops.toList.take z) xs st.slots
  fact : ∀ (j : Nat) (o : Oper) (x : AV), ops[j]? = some o → j < z → xs[j]? = some x → Fact P ops σf Hs j o x
  uniq : ∀ (j m : Nat) (o o' : Oper) (d : Nat), ops[j]? = some o → ops[m]? = some o' → j < z → m < z → o.dst = some d → o'.dst = some d → j = m
  free : ∀ (j m : Nat) (o o' : Oper) (w : Nat), ops[j]? = some o → ops[m]? = some o' → j ≤ m → m < z → w ∈ opnd o → o'.dst ≠ some w

theorem DW.chain {ops : Array Oper} {z : Nat} {st : St} {xs : List AV} {Hs : List (List Blk)} {σf : List AV} (h : DW P ops z st xs Hs σf) {s : Nat} {A : List Blk} (hA : Hs[s]? = some A) : ∀ (k : Nat) (C : List Blk), s ≤ k → k ≤ rankS ops z → Hs[k]? = some C → ∃ nb, C = A ++ nb ∧ allFresh nb = true
  | 0, C, hs, _, hC => by
    have : s = 0 := by omega
    subst this
    rw [hA] at hC; cases hC
    exact ⟨[], by simp, rfl⟩
  | k + 1, C, hs, hk, hC => by
    rcases Nat.lt_or_ge s (k + 1) with hl | hl
    · obtain ⟨m, h1, h2, h3⟩ := rankS_hit ops (show k < rankS ops z by omega)
      have hm : m < ops.size := by have := h.hz; omega
      have hxm : m < xs.length := by rw [h.hxs]; exact h1
      obtain ⟨_, _, hf⟩ := h.fact m ops[m] xs[m] (Array.getElem?_eq_getElem hm) h1 (List.getElem?_eq_getElem hxm)
      rcases hf with ⟨e, _⟩ | ⟨e, _⟩ | ⟨e, _⟩ | ⟨_, _, _, _, H, nb, g1, g2, g3, _⟩
      · rw [h2] at e; cases e
      · rw [h2] at e; cases e
      · rw [h2] at e; cases e
      · rw [h3] at g1 g2
        rw [g2] at hC
        cases hC
        obtain ⟨nb', e1, e2⟩ := h.chain hA k H (by omega) (by omega) g1
        exact ⟨nb' ++ nb, by rw [e1]; simp, allFresh_app e2 g3⟩
    · have : s = k + 1 := by omega
      subst this
      rw [hA] at hC; cases hC
      exact ⟨[], by simp, rfl⟩

theorem opsT {ops : Array Oper} {z j : Nat} {o : Oper} : (ops.toList.take z)[j]? = some o ↔ j < z ∧ ops[j]? = some o := by
  rw [List.getElem?_take]
  split
  · rename_i h; simp [h]
  · rename_i h; simp [h]

theorem DI.srel {ops : Array Oper} {z : Nat} {st : St} {xs : List AV} {Hs : List (List Blk)} {σf : List AV} {F : Nat → Prop} {W0 Wb : World} {ρ0 : List Place} {listed : Array Bool} {a : Act} {W : World} {k : Nat} {ρ : List Place} {F1 : Nat → Prop} {W1 : World} {β : Nat → Nat}
    (hw : DW P ops z st xs Hs σf) (h : DI P ops z st xs Hs F W0 Wb ρ0 listed a W k ρ F1 W1 β) {i : Nat} {o : Oper} {x : AV} (hi : i < z) (ho : ops[i]? = some o) (hx : xs[i]? = some x) (hcl : ∀ n ∈ cl .any ops i, listed.getD n false = true) :
    SRel ρ (maskK (opnd o) 0 σf) a.tmps := by
  obtain ⟨_, hpr, _⟩ := hw.fact i o x ho hi hx
  have hlen : σf.length = st.slots.length := by rw [hw.hσ, putAll_len]
  refine ⟨by rw [maskK_len, h.tsz, hlen], fun w y hy => ?_⟩
  rcases maskK_get _ _ _ _ _ hy with ⟨rfl, hlt⟩ | ⟨hwo, hs⟩
  · exact ⟨a.tmps[w]'(by rw [h.tsz, ← hlen]; exact hlt), Array.getElem?_eq_getElem _, by simp [VRel]⟩
  · rw [Nat.zero_add] at hwo
    have hwl : w < st.slots.length := by rw [← hlen]; exact (List.getElem?_eq_some_iff.1 hs).1
    rw [hw.hσ] at hs
    rcases putAll_get _ _ _ _ _ hs with ⟨m, o', h1, h2, h3⟩ | ⟨h1, h2⟩
    · obtain ⟨hmz, ho'⟩ := opsT.1 h1
      rcases Nat.lt_or_ge m i with hl | hl
      · exact h.new m o' w y ho' hmz (hcl m (hpr w hwo m o' hl ho' h2)) h2 hwl h3
      · exact absurd h2 (hw.free i m o o' w ho ho' hl hmz hwo)
    · exact h.old w y h1 fun j o' ho' hj => h2 j o' (opsT.2 ⟨hj, ho'⟩) (by rw [hw.hxs]; exact hj)

theorem stOnly_spec {ops : Array Oper} {d i : Nat} : ∀ {n : Nat}, stOnly ops d i n = true → ∀ (j : Nat) (o : Oper), j < n → j ≠ i → ops[j]? = some o → stTo o d = false
  | 0, _, j, o, hj, _, _ => by omega
  | n + 1, h, j, o, hj, hji, ho => by
    simp only [stOnly, Bool.and_eq_true] at h
    rcases Nat.lt_or_ge j n with hl | hl
    · exact stOnly_spec h.2 j o hl hji ho
    · have : j = n := by omega
      subst this
      have h1 := h.1
      rw [ho] at h1
      simp only [Bool.or_eq_true, Bool.not_eq_true'] at h1
      rcases h1 with h1 | h1
      · exact absurd (Nat.eq_of_beq_eq_true h1) hji
      · exact h1

/-- a new variable is none of the blocks -/
theorem DI.fresh {ops : Array Oper} {z : Nat} {st : St} {xs : List AV} {Hs : List (List Blk)} {σf : List AV} {F : Nat → Prop} {W0 Wb : World} {ρ0 : List Place} {listed : Array Bool} {a : Act} {W : World} {k : Nat} {ρ : List Place} {F1 : Nat → Prop} {W1 : World} {β : Nat → Nat}
    (hw : DW P ops z st xs Hs σf) (hH0 : Hs[0]? = some st.heap) (hC0 : ∀ (b : Nat) (x : Blk) (p : Place), st.heap[b]? = some x → ρ0[b]? = some p → x.live = true → p.cap ≠ 0 → p.blk < Wb.heap.size) (hρ0 : ρ0.length = st.heap.length)
    (h : DI P ops z st xs Hs F W0 Wb ρ0 listed a W k ρ F1 W1 β) {H : List Blk} (hH : Hs[k]? = some H) (hC : Cls F1 W1 ρ H W) {b : Nat} {x : Blk} {p : Place} (hx : H[b]? = some x) (hp : ρ[b]? = some p) (hl : x.live = true) (hc : p.cap ≠ 0) {n : Nat} (hF : F1 n) (hn : Wb.heap.size ≤ n) : p.blk ≠ n := by
  intro e
  obtain ⟨nb, hnb, hfr⟩ := hw.chain hH0 _ _ (Nat.zero_le _) h.kz hH
  by_cases hxw : x.wr = true
  · exact hC.free b x p hx hp hxw hc (e ▸ hF)
  · rw [hnb] at hx
    rcases Nat.lt_or_ge b st.heap.length with hb | hb
    · rw [List.getElem?_append_left hb] at hx
      have hp0 : ρ0[b]? = some p := by
        have hbl : b < ρ0.length := by rw [hρ0]; exact hb
        have := h.ext b _ (List.getElem?_eq_getElem hbl)
        rw [hp] at this
        cases this
        exact List.getElem?_eq_getElem hbl
      have := hC0 b x p hx hp0 hl hc
      omega
    · rw [List.getElem?_append_right hb] at hx
      exact hxw (fresh_wr (allFresh_get hfr _ _ hx) hl)

/-- one operation more -/
theorem DI.step {call : CallerT} {ops : Array Oper} {z : Nat} {st : St} {xs : List AV} {Hs : List (List Blk)} {σf : List AV} {F : Nat → Prop} {W0 Wb : World} {ρ0 : List Place} {listed : Array Bool} {a : Act} {W : World} {k : Nat} {ρ : List Place} {F1 : Nat → Prop} {W1 : World} {β : Nat → Nat} {Q : Exit → Act → World → Prop}
    (hw : DW P ops z st xs Hs σf) (hH0 : Hs[0]? = some st.heap) (hl0 : ∀ k, F k → k < W0.heap.size) (hC0 : ∀ (b : Nat) (x : Blk) (p : Place), st.heap[b]? = some x → ρ0[b]? = some p → x.live = true → p.cap ≠ 0 → p.blk < Wb.heap.size) (hρ0 : ρ0.length = st.heap.length) (hb0 : W0.heap.size ≤ Wb.heap.size)
    (h : DI P ops z st xs Hs F W0 Wb ρ0 listed a W k ρ F1 W1 β) {i : Nat} (hi : i < z) (hr : i ∈ Region.ready .any ops listed) :
    wpOp P ops Q i (fun a' W' => ∃ k ρ F1 W1 β, DI P ops z st xs Hs F W0 Wb ρ0 (listed.setIfInBounds i true) a' W' k ρ F1 W1 β) a W := by
  obtain ⟨hun, o, ho, _⟩ := mem_ready.1 hr
  have hisz : i < listed.size := by rw [h.size]; exact (Array.getElem?_eq_some_iff.1 ho).1
  have hxl : i < xs.length := by rw [hw.hxs]; exact hi
  have hx : xs[i]? = some xs[i] := List.getElem?_eq_getElem hxl
  generalize xs[i] = x at hx
  have hcl : ∀ n ∈ cl .any ops i, listed.getD n false = true := clo_listed h.down _ _ (ready_edges hr)
  have hs := h.srel hw hi ho hx hcl
  have hnl : listed.getD i false = false := getD_false hisz hun
  obtain ⟨H, hH, hC⟩ := h.cls
  obtain ⟨hg, hpr, hf⟩ := hw.fact i o x ho hi hx
  have hwant : ∀ t, Region.wanted o (yielded ops t) = true := fun t => by unfold Region.wanted; rw [hg]
  unfold wpOp
  simp only [ho]
  rw [if_pos (hwant _)]
  left
  -- what does not turn on the kind of operation
  have hdown := h.down.step hr
  have hhi : ∀ j, z ≤ j → (listed.setIfInBounds i true).getD j false = false := fun j hj => by rw [getD_set_ne false (by omega)]; exact h.hi j hj
  have hold : ∀ (v : Value) (ρ' : List Place), Ext ρ ρ' → ∀ (w : Nat) (y : AV), st.slots[w]? = some y → (∀ (j : Nat) (o : Oper), ops[j]? = some o → j < z → o.dst ≠ some w) → ∃ u, (a.put o.dst v).tmps[w]? = some u ∧ VRel ρ' y u := fun v ρ' he w y hy hd => by
    obtain ⟨u, h1, h2⟩ := h.old w y hy hd
    exact ⟨u, by rw [put_get_other (hd i o ho hi)]; exact h1, h2.ext he⟩
  have hnew : ∀ (v : Value) (ρ' : List Place), Ext ρ ρ' → VRel ρ' x v → ∀ (j : Nat) (o' : Oper) (d : Nat) (y : AV), ops[j]? = some o' → j < z → (listed.setIfInBounds i true).getD j false = true → o'.dst = some d → d < st.slots.length → xs[j]? = some y → ∃ u, (a.put o.dst v).tmps[d]? = some u ∧ VRel ρ' y u := fun v ρ' he hv j o' d y ho' hj hl hd hdl hy => by
    by_cases hji : j = i
    · subst hji
      rw [ho] at ho'; cases ho'
      rw [hx] at hy; cases hy
      rw [hd]
      exact ⟨v, put_get_self (by rw [h.tsz]; exact hdl), hv⟩
    · rcases getD_set_f hl with e | hl
      · exact absurd e hji
      · obtain ⟨u, h1, h2⟩ := h.new j o' d y ho' hj hl hd hdl hy
        exact ⟨u, by rw [put_get_other (fun e => hji (hw.uniq j i o' o d ho' ho hj hi hd e))]; exact h1, h2.ext he⟩
  have halo : ∀ (v : Value) (d : Nat) (j : Nat) (o' : Oper), ops[j]? = some o' → j < z → j ≠ i → o'.dst = some d → (a.put o.dst v).tmps[d]? = a.tmps[d]? := fun v d j o' ho' hj hji hd => put_get_other fun e => hji (hw.uniq j i o' o d ho' ho hj hi hd e)
  have hcont : ∀ (o' : Oper), (∀ d, o'.dst = some d → stTo o d = false) → ∀ (ρ' : List Place), Ext ρ ρ' → ∀ t cs, Cont P ops z xs listed ρ o' t cs → Cont P ops z xs (listed.setIfInBounds i true) ρ' o' t cs := fun o' hst ρ' he t cs hc => by
    refine ⟨fun zz l h1 h2 h3 => VRels.ext he (hc.1 zz l h1 h2 fun j oj d g1 g2 g3 g4 => h3 j oj d g1 g2 ?_ g4), fun j oj d g1 g2 g3 g4 g5 => ?_⟩
    · by_cases hji : j = i
      · subst hji; rw [hnl] at g3; cases g3
      · rw [getD_set_ne false (Ne.symm hji)]; exact g3
    · rcases getD_set_f g3 with e | g3
      · subst e; rw [ho] at g1; cases g1; rw [hst d g4] at g5; cases g5
      · obtain ⟨l, e1, e2⟩ := hc.2 j oj d g1 g2 g3 g4 g5
        exact ⟨l, e1, VRels.ext he e2⟩
  rcases hf with ⟨e, hna, hst, H', hH', hv⟩ | ⟨e, t, zz, l, hop, hz, hl, rfl⟩ | ⟨e, hdn, t, dd, y, n, l, m, ta, zz, lz, om, hop, hdl, hone, hl, hn, hln, rfl, hmi, hom, homo, homd, hzz, hlz, hlzn⟩ | ⟨e, hna, hst, hcr, H', nb, hH', hH'', hfr, hSF⟩
  · -- a value
    have hle : cntS ops (cl .any ops i) i ≤ k := cntS_bound ops _ fun m hm hsm hmc => (h.cnt m (by omega) hsm).1 (hcl m hmc)
    obtain ⟨nb, rfl, _⟩ := hw.chain hH' k H hle h.kz hH
    refine op_wp (C := Cls F1 W1 ρ (H' ++ nb)) (σ := st.slots) (evV_ok noC_ok (evV_mono (nb := nb) hv) hs hC) fun v W' hvr hC' => ?_
    refine ⟨k, ρ, F1, W1, β, ⟨by simpa using h.size, hdown, hhi, by rw [put_defers]; exact h.defers, h.ext, h.base, h.bos, h.btape, h.bout, h.bsize, fun j hj hsj => ?_, h.kz, ⟨_, hH, hC'⟩, h.lo, by rw [put_size]; exact h.tsz, hold v ρ (Ext.refl ρ), hnew v ρ (Ext.refl ρ) hvr, fun j o' t ho' hj hlj hop => ?_, fun j m o1 o2 t1 t2 h1 h2 h3 h4 h5 h6 h7 h8 h9 => ?_⟩⟩
    · by_cases hji : j = i
      · subst hji; rw [e] at hsj; cases hsj
      · rw [getD_set_ne false (Ne.symm hji)]; exact h.cnt j hj hsj
    · have hji : j ≠ i := fun e => by subst e; rw [ho] at ho'; cases ho'; exact hna t hop
      rcases getD_set_f hlj with e' | hlj
      · exact absurd e' hji
      · obtain ⟨b1, b2, ⟨cs, b3, b3'⟩, b4⟩ := h.al j o' t ho' hj hlj hop
        exact ⟨b1, b2, ⟨cs, b3, hcont _ (fun d _ => hst d) ρ (Ext.refl ρ) _ _ b3'⟩, fun d hd hdl => by rw [halo v d j o' ho' hj hji hd]; exact b4 d hd hdl⟩
    · have n1 : j ≠ i := fun e => by subst e; rw [ho] at h1; cases h1; exact hna t1 h7
      have n2 : m ≠ i := fun e => by subst e; rw [ho] at h2; cases h2; exact hna t2 h8
      exact h.inj j m o1 o2 t1 t2 h1 h2 h3 h4 ((getD_set_f h5).resolve_left n1) ((getD_set_f h6).resolve_left n2) h7 h8 h9
  · -- a new variable
    have hst : ∀ e, stTo o e = false := fun e => by simp [stTo, hop]
    obtain ⟨u, hu, _⟩ := run_zero (P := P) hz ρ W
    have hrel : ∀ z, zeroT P t = some z → ∀ ρ, VRel ρ z u := fun z hz' ρ' => by
      obtain ⟨u', hu', hr'⟩ := run_zero (P := P) hz' ρ' W
      rw [hu] at hu'
      cases hu'
      exact hr'
    have hrun : (execOp a.eval o).run P W = .ok (.value (.pointer (some ⟨W.heap.size, 0, none⟩))) (W.alloc (.cells u.cells t)) := by
      obtain ⟨dst, op, type, pos, after, guard⟩ := o
      simp only at hop
      subst hop
      show (toNext (Instr.alloc t true (.tuple #[]))).run P W = _
      simp [toNext, Instr.alloc, hu, newVar, newRow]
    have hbel : Below W.heap.size W (W.alloc (.cells u.cells t)) := (Below.refl _ _).alloc (Nat.le_refl _) _
    have hsz : (W.alloc (.cells u.cells t)).heap.size = W.heap.size + 1 := by
      show (W.heap.push _).size = _
      simp
    have hF1 : ∀ j, F1 j → j < W.heap.size := fun j hj => Nat.lt_of_lt_of_le (hC.low j hj) hC.fr.size
    refine opT_wp (V := fun v W' => v = .pointer (some ⟨W.heap.size, 0, none⟩) ∧ W' = W.alloc (.cells u.cells t)) (by rw [hrun]; exact ⟨rfl, rfl⟩) ?_
    rintro v W' ⟨rfl, rfl⟩
    have hβ : ∀ j, j ≠ i → (fun j => if j = i then W.heap.size else β j) j = β j := fun j hj => by simp [hj]
    refine ⟨k, ρ, fun j => F1 j ∨ j = W.heap.size, W.alloc (.cells u.cells t), fun j => if j = i then W.heap.size else β j, ⟨by simpa using h.size, hdown, hhi, by rw [put_defers]; exact h.defers, h.ext, fun j hj => ?_, ?_, ?_, ?_, ?_, fun j hj hsj => ?_, h.kz, ⟨H, hH, ?_⟩, ?_, by rw [put_size]; exact h.tsz, hold _ ρ (Ext.refl ρ), hnew _ ρ (Ext.refl ρ) (by simp [VRel]), fun j o' t' ho' hj hlj hop' => ?_, fun j m o1 o2 t1 t2 h1 h2 h3 h4 h5 h6 h7 h8 h9 => ?_⟩⟩
    · obtain ⟨b1, b2⟩ := h.base j hj
      exact ⟨.inl b1, by rw [hbel.block j (hF1 j b1), hC.fr.keep j b1]; exact b2⟩
    · exact hbel.os.trans (hC.fr.os.trans h.bos)
    · exact hbel.tape.trans (hC.fr.tape.trans h.btape)
    · exact hbel.output.trans (hC.fr.output.trans h.bout)
    · have := h.bsize; have := hC.fr.size; omega
    · by_cases hji : j = i
      · subst hji; rw [e] at hsj; cases hsj
      · rw [getD_set_ne false (Ne.symm hji)]; exact h.cnt j hj hsj
    · refine ⟨hC.rel.below hbel, ⟨rfl, rfl, rfl, Nat.le_refl _, fun _ _ => rfl⟩, fun j hj => ?_, fun b y p hy hp hw hc hF => ?_⟩
      · rcases hj with hj | rfl
        · have := hF1 j hj; omega
        · omega
      · rcases hF with hF | hF
        · exact hC.free b y p hy hp hw hc hF
        · have := hC.rel.lt hy hp (wrl hw) hc; omega
    · have := h.lo; have := hC.fr.size; omega
    · by_cases hji : j = i
      · subst hji
        rw [ho] at ho'; cases ho'
        rw [hop] at hop'; cases hop'
        simp only [if_pos]
        refine ⟨.inr trivial, by have := h.lo; have := hC.fr.size; omega, ⟨u.cells, heap_alloc_new W _, fun zz' l' h1 h2 _ => cells_rel (hrel zz' h1 ρ) h2, fun n on d g1 g2 g3 g4 g5 => ?_⟩, fun d hd hdl => ?_⟩
        · -- nothing has been stored in it
          exfalso
          rcases getD_set_f g3 with e' | g3
          · subst e'; rw [ho] at g1; cases g1; rw [hst] at g5; cases g5
          · have hnx : n < xs.length := by rw [hw.hxs]; exact g2
            obtain ⟨_, hpn, _⟩ := hw.fact n on xs[n] g1 g2 (List.getElem?_eq_getElem hnx)
            have hmem : d ∈ opnd on := by
              unfold stTo at g5
              split at g5
              · rename_i t3 e3 x3 hop3
                have := Nat.eq_of_beq_eq_true g5
                subst this
                simp [opnd, hop3, Op.operands, opndL]
              · cases g5
            rcases Nat.lt_or_ge j n with hl' | hl'
            · have := clo_listed h.down _ _ (fun q hq => ?_) j (hpn d hmem j o hl' ho g4)
              · rw [hnl] at this; cases this
              · exact h.down n g3 q hq
            · exact hw.free n j on o d g1 ho hl' hi hmem g4
        rw [hd]
        exact put_get_self (by rw [h.tsz]; exact hdl)
      · rcases getD_set_f hlj with e' | hlj
        · exact absurd e' hji
        · obtain ⟨b1, b2, ⟨u', b3, b3'⟩, b4⟩ := h.al j o' t' ho' hj hlj hop'
          simp only [if_neg hji]
          exact ⟨.inl b1, b2, ⟨u', by rw [hbel.block _ (hF1 _ b1), hC.fr.keep _ b1]; exact b3, hcont _ (fun d _ => hst d) ρ (Ext.refl ρ) _ _ b3'⟩, fun d hd hdl => by rw [halo _ d j o' ho' hj hji hd]; exact b4 d hd hdl⟩
    · by_cases n1 : j = i
      · by_cases n2 : m = i
        · rw [n1, n2]
        · have hm := h.al m o2 t2 h2 h4 ((getD_set_f h6).resolve_left n2) h8
          simp only [if_pos n1, if_neg n2] at h9
          have := hF1 _ hm.1; omega
      · have hj := h.al j o1 t1 h1 h3 ((getD_set_f h5).resolve_left n1) h7
        by_cases n2 : m = i
        · simp only [if_neg n1, if_pos n2] at h9
          have := hF1 _ hj.1; omega
        · simp only [if_neg n1, if_neg n2] at h9
          exact h.inj j m o1 o2 t1 t2 h1 h2 h3 h4 ((getD_set_f h5).resolve_left n1) ((getD_set_f h6).resolve_left n2) h7 h8 h9
  · -- a new variable's first value
    have hst : stTo o dd = true := by simp [stTo, hop]
    have hmem : dd ∈ opnd o := by simp [opnd, hop, Op.operands, opndL]
    have hml := hcl m (hpr dd hmem m om hmi hom homd)
    have hmz : m < z := by omega
    obtain ⟨b1, b2, ⟨cs, b3, b3'⟩, b4⟩ := h.al m om ta hom hmz hml homo
    have hlen : σf.length = st.slots.length := by rw [hw.hσ, putAll_len]
    have hptr := b4 dd homd (by rw [← hlen]; exact hdl)
    have hz0 : VRels ρ lz cs.toList := b3'.1 zz lz hzz hlz fun j oj d' g1 g2 g3 g4 => by
      rw [homd] at g4; cases g4
      by_cases hji : j = i
      · subst hji; rw [hnl] at g3; cases g3
      · exact stOnly_spec hone j oj (Array.getElem?_eq_some_iff.1 g1).1 hji g1
    have hcs : cs.size = n := by have := hz0.length; simpa [hlzn] using this
    have hyr := ev_rel (st := ⟨maskK (opnd o) 0 σf, []⟩) hs y
    have hcr := cells_rel hyr hl
    have hone1 := scal_cells hcr (cells_scal hl)
    have hcl' : (a.eval y).cells.toList.length = n := by rw [hcr.length, hln]
    have hWb : W.heap[β m]? = some (.cells cs ta (0, 0)) := by rw [hC.fr.keep _ b1]; exact b3
    have hrun : (execOp a.eval o).run P W = .ok .skip (W.setRow (β m) (a.eval y).cells) := by
      have h1 := run_storeCells_at P (β m) 0 ta (a.eval y).cells.toList 0 cs W hWb (by rw [hcl', hcs]; omega) hone1
      have h2 : (cs.toList.take (0 + 0) ++ (a.eval y).cells.toList ++ cs.toList.drop (0 + 0 + (a.eval y).cells.toList.length)).toArray = (a.eval y).cells := by
        rw [List.drop_eq_nil_of_le (by rw [hcl']; simp; omega)]
        simp
      rw [h2] at h1
      obtain ⟨dst, op, type, pos, after, guard⟩ := o
      simp only at hop
      subst hop
      have hev : a.eval (.tmp dd) = .pointer (some ⟨β m, 0, none⟩) := by simp [Act.eval, Array.getD_eq_getD_getElem?, hptr]
      have hst2 : (Instr.storeAt t (.pointer (some ⟨β m, 0, none⟩)) (a.eval y)).run P W = .ok () (W.setRow (β m) (a.eval y).cells) := by
        simp only [Instr.storeAt, Instr.sureAddr, storeVar, Sem.run_bind, Sem.run_pure, Result.andThen_ok, run_sz hn]
        rw [if_neg (by simp only [Array.length_toList] at hcl'; simp [hcl'])]
        exact h1
      simp only [execOp, Sem.run_bind, hev, hst2, Result.andThen_ok, Sem.run_pure]
    have hoth : ∀ j, j ≠ β m → (W.setRow (β m) (a.eval y).cells).heap[j]? = W.heap[j]? := fun j hj => setRow_other W (β m) _ j hj
    have hsz : (W.setRow (β m) (a.eval y).cells).heap.size = W.heap.size := by simp [World.setRow]
    refine opT_wp (V := fun v W' => W' = W.setRow (β m) (a.eval y).cells) (by rw [hrun]; exact rfl) ?_
    rintro v W' rfl
    rw [hdn]
    refine ⟨k, ρ, F1, W.setRow (β m) (a.eval y).cells, β, ⟨by simpa using h.size, hdown, hhi, h.defers, h.ext, fun j hj => ?_, hC.fr.os.trans h.bos, hC.fr.tape.trans h.btape, hC.fr.output.trans h.bout, ?_, fun j hj hsj => ?_, h.kz, ⟨H, hH, ?_⟩, ?_, h.tsz, h.old, fun j o' d' y' ho' hj hlj hd' hdl' hy' => ?_, fun j o' t' ho' hj hlj hop' => ?_, fun j m' o1 o2 t1 t2 h1 h2 h3 h4 h5 h6 h7 h8 h9 => ?_⟩⟩
    · obtain ⟨c1, c2⟩ := h.base j hj
      have := hl0 j hj
      exact ⟨c1, by rw [hoth j (by omega), hC.fr.keep j c1]; exact c2⟩
    · have := h.bsize; have := hC.fr.size; omega
    · by_cases hji : j = i
      · subst hji; rw [e] at hsj; cases hsj
      · rw [getD_set_ne false (Ne.symm hji)]; exact h.cnt j hj hsj
    · refine ⟨⟨hC.rel.len, fun b x p hx hp => (hC.rel.blk b x p hx hp).same fun hlv hc => hoth _ (h.fresh hw hH0 hC0 hρ0 hH hC hx hp hlv hc b1 b2), hC.rel.apart⟩, ⟨rfl, rfl, rfl, Nat.le_refl _, fun _ _ => rfl⟩, fun j hj => ?_, hC.free⟩
      have := hC.low j hj; have := hC.fr.size; omega
    · have := h.lo; have := hC.fr.size; omega
    · rcases getD_set_f hlj with e' | hlj
      · subst e'; rw [ho] at ho'; cases ho'; rw [hdn] at hd'; cases hd'
      · exact h.new j o' d' y' ho' hj hlj hd' hdl' hy'
    · have hji : j ≠ i := fun e => by subst e; rw [ho] at ho'; cases ho'; rw [hop] at hop'; cases hop'
      have hlj := (getD_set_f hlj).resolve_left hji
      obtain ⟨c1, c2, ⟨cs2, c3, c3'⟩, c4⟩ := h.al j o' t' ho' hj hlj hop'
      by_cases hjm : j = m
      · subst hjm
        rw [hom] at ho'; cases ho'
        rw [homo] at hop'; cases hop'
        refine ⟨c1, c2, ⟨(a.eval y).cells, setRow_heap W (β j) cs _ ta (0, 0) hWb, fun zz' l' g1 g2 g3 => ?_, fun n' on d2 g1 g2 g3 g4 g5 => ?_⟩, c4⟩
        · have := g3 i o dd ho hi (getD_self hisz) homd
          rw [hst] at this; cases this
        · rw [homd] at g4; cases g4
          by_cases hni : n' = i
          · subst hni
            exact ⟨l, hx, hcr⟩
          · rw [stOnly_spec hone n' on (Array.getElem?_eq_some_iff.1 g1).1 hni g1] at g5; cases g5
      · have hβ : β j ≠ β m := fun e => hjm (h.inj j m o' om t' ta ho' hom hj hmz hlj hml hop' homo e)
        refine ⟨c1, c2, ⟨cs2, by rw [hoth _ hβ, hC.fr.keep _ c1]; exact c3, hcont o' (fun d2 hd2 => ?_) ρ (Ext.refl ρ) _ _ c3'⟩, c4⟩
        cases hs2 : stTo o d2 with
        | false => rfl
        | true =>
          simp only [stTo, hop] at hs2
          have := Nat.eq_of_beq_eq_true hs2
          subst this
          exact absurd (hw.uniq j m o' om dd ho' hom hj hmz hd2 homd) hjm
    · have n1 : j ≠ i := fun e => by subst e; rw [ho] at h1; cases h1; rw [hop] at h7; cases h7
      have n2 : m' ≠ i := fun e => by subst e; rw [ho] at h2; cases h2; rw [hop] at h8; cases h8
      exact h.inj j m' o1 o2 t1 t2 h1 h2 h3 h4 ((getD_set_f h5).resolve_left n1) ((getD_set_f h6).resolve_left n2) h7 h8 h9
  · -- a call that makes memory
    have hk : k = rankS ops i := by
      have h1 : ¬ rankS ops i < k := fun hlt => by rw [(h.cnt i hi e).2 hlt] at hnl; cases hnl
      rcases Nat.lt_or_ge k (rankS ops i) with hlt | hge
      · obtain ⟨m, m1, m2, m3⟩ := rankS_hit ops hlt
        have := (h.cnt m (by omega) m2).1 (hcl m (cntS_all ops _ hcr m m1 m2))
        omega
      · omega
    subst hk
    rw [hH] at hH'
    simp only [Option.some.injEq] at hH'
    subst hH'
    refine opT_wp (hSF F1 W1 ρ W a hC hs) ?_
    rintro v W' ⟨ρ', he, hC', hvr⟩
    refine ⟨rankS ops i + 1, ρ', F1, W1, β, ⟨by simpa using h.size, hdown, hhi, by rw [put_defers]; exact h.defers, h.ext.trans he, h.base, h.bos, h.btape, h.bout, h.bsize, fun j hj hsj => ?_, rankS_lt ops hi e, ⟨_, hH'', hC'⟩, h.lo, by rw [put_size]; exact h.tsz, hold v ρ' he, hnew v ρ' he hvr, fun j o' t ho' hj hlj hop => ?_, fun j m o1 o2 t1 t2 h1 h2 h3 h4 h5 h6 h7 h8 h9 => ?_⟩⟩
    · by_cases hji : j = i
      · subst hji
        rw [getD_self hisz]
        simp
      · rw [getD_set_ne false (Ne.symm hji), h.cnt j hj hsj]
        have : rankS ops j ≠ rankS ops i := by
          rcases Nat.lt_or_gt_of_ne hji with hl | hl
          · have := rankS_lt ops hl hsj; omega
          · have := rankS_lt ops hl e; omega
        omega
    · have hji : j ≠ i := fun e => by subst e; rw [ho] at ho'; cases ho'; exact hna t hop
      rcases getD_set_f hlj with e' | hlj
      · exact absurd e' hji
      · obtain ⟨b1, b2, ⟨cs, b3, b3'⟩, b4⟩ := h.al j o' t ho' hj hlj hop
        exact ⟨b1, b2, ⟨cs, b3, hcont _ (fun d _ => hst d) ρ' he _ _ b3'⟩, fun d hd hdl => by rw [halo v d j o' ho' hj hji hd]; exact b4 d hd hdl⟩
    · have n1 : j ≠ i := fun e => by subst e; rw [ho] at h1; cases h1; exact hna t1 h7
      have n2 : m ≠ i := fun e => by subst e; rw [ho] at h2; cases h2; exact hna t2 h8
      exact h.inj j m o1 o2 t1 t2 h1 h2 h3 h4 ((getD_set_f h5).resolve_left n1) ((getD_set_f h6).resolve_left n2) h7 h8 h9

theorem stIn_some : ∀ (l : List Oper) (xs : List AV) (d : Nat) {r : List AV}, stIn l xs d = some r → ∃ (i : Nat) (o : Oper), l[i]? = some o ∧ xs[i]? = some (AV.agg r) ∧ stTo o d = true
  | [], xs, d, r, h => by simp [stIn] at h
  | o :: t, [], d, r, h => by simp [stIn] at h
  | o :: t, v :: vs, d, r, h => by
    simp only [stIn] at h
    cases hs : stTo o d with
    | true =>
      rw [hs] at h
      simp only [cond_true] at h
      split at h
      · simp only [Option.some.injEq] at h
        subst h
        exact ⟨0, o, by simp, by simp, hs⟩
      · cases h
    | false =>
      rw [hs] at h
      obtain ⟨i, o', h1, h2, h3⟩ := stIn_some t vs d h
      exact ⟨i + 1, o', by simpa using h1, by simpa using h2, h3⟩
theorem stIn_none : ∀ (l : List Oper) (xs : List AV) (d : Nat), stIn l xs d = none → ∀ (i : Nat) (o : Oper) (r : List AV), l[i]? = some o → xs[i]? = some (.agg r) → stTo o d = true → (∀ (j : Nat) (o' : Oper) (x : AV), l[j]? = some o' → xs[j]? = some x → stTo o' d = true → ∃ r, x = .agg r) → False
  | [], xs, d, _, i, o, r, h, _, _, _ => by simp at h
  | o :: t, [], d, _, i, o', r, _, h, _, _ => by simp at h
  | o :: t, v :: vs, d, hn, i, o', r, h1, h2, h3, hall => by
    simp only [stIn] at hn
    cases hs : stTo o d with
    | true =>
      rw [hs] at hn
      obtain ⟨r', rfl⟩ := hall 0 o v (by simp) (by simp) hs
      simp at hn
    | false =>
      rw [hs] at hn
      cases i with
      | zero => simp at h1; subst h1; rw [hs] at h3; cases h3
      | succ i => exact stIn_none t vs d hn i o' r (by simpa using h1) (by simpa using h2) h3 fun j o2 x g1 g2 g3 => hall (j + 1) o2 x (by simpa using g1) (by simpa using g2) g3

/-- the first part done -/
theorem DI.done {ops : Array Oper} {z : Nat} {st st' : St} {xs : List AV} {Hs : List (List Blk)} {σf : List AV} {F : Nat → Prop} {W0 Wb : World} {ρ0 : List Place} {listed : Array Bool} {a : Act} {W : World} {k : Nat} {ρ : List Place} {F1 : Nat → Prop} {W1 : World} {β : Nat → Nat}
    (hw : DW P ops z st xs Hs σf) (hH0 : Hs[0]? = some st.heap) (hl0 : ∀ k, F k → k < W0.heap.size) (hC0 : ∀ (b : Nat) (x : Blk) (p : Place), st.heap[b]? = some x → ρ0[b]? = some p → x.live = true → p.cap ≠ 0 → p.blk < Wb.heap.size) (hρ0 : ρ0.length = st.heap.length) (hb0 : W0.heap.size ≤ Wb.heap.size)
    (h : DI P ops z st xs Hs F W0 Wb ρ0 listed a W k ρ F1 W1 β) (hall : ∀ j, j < z → listed.getD j false = true) (hre : reAlloc P (ops.toList.take z) xs (ops.toList.take z) ⟨σf, lastH Hs⟩ = some st') :
    ∃ ρ', Ext ρ0 ρ' ∧ SRel ρ' st'.slots a.tmps ∧ Cls F W0 ρ' st'.heap W := by
  have hk : k = rankS ops z := by
    have := h.kz
    rcases Nat.lt_or_ge k (rankS ops z) with hlt | hge
    · obtain ⟨m, m1, m2, m3⟩ := rankS_hit ops hlt
      have := (h.cnt m m1 m2).1 (hall m m1)
      omega
    · omega
  subst hk
  obtain ⟨H, hH, hC⟩ := h.cls
  have hlast : Hs[rankS ops z]? = some (lastH Hs) := by
    have := lastH_eq Hs (by intro e; have := hw.hHs; rw [e] at this; simp at this)
    rwa [hw.hHs, Nat.add_sub_cancel] at this
  rw [hH] at hlast
  simp only [Option.some.injEq] at hlast
  subst hlast
  obtain ⟨nb, hnb, hfr⟩ := hw.chain hH0 _ _ (Nat.zero_le _) (Nat.le_refl _) hH
  have hlen : σf.length = st.slots.length := by rw [hw.hσ, putAll_len]
  have hsr : SRel ρ σf a.tmps := by
    refine ⟨by rw [h.tsz, hlen], fun w x hx => ?_⟩
    have hwl : w < st.slots.length := by rw [← hlen]; exact (List.getElem?_eq_some_iff.1 hx).1
    rw [hw.hσ] at hx
    rcases putAll_get _ _ _ _ _ hx with ⟨m, o', h1, h2, h3⟩ | ⟨h1, h2⟩
    · obtain ⟨hmz, ho'⟩ := opsT.1 h1
      exact h.new m o' w x ho' hmz (hall m hmz) h2 hwl h3
    · exact h.old w x h1 fun j o' ho' hj => h2 j o' (opsT.2 ⟨hj, ho'⟩) (by rw [hw.hxs]; exact hj)
  have hCb := hC.base h.base h.bos h.btape h.bout h.bsize hl0
  obtain ⟨ρ', e1, e2, e3⟩ := reAlloc_ok (P := P) (β := β) (all := ops.toList.take z) (xs := xs) (ops.toList.take z) 0 ⟨σf, lastH Hs⟩ st' ρ hre hsr hCb (fun j o t hj hop => by
    obtain ⟨hjz, ho⟩ := opsT.1 hj
    rw [Nat.zero_add]
    obtain ⟨b1, b2, ⟨u, b3, b3'⟩, b4⟩ := h.al j o t ho hjz (hall j hjz) hop
    refine ⟨fun hF => ?_, ⟨u, by rw [hC.fr.keep _ b1]; exact b3, fun zz l d h1 h2 h3 => ?_⟩, fun d hd hdl => b4 d hd (by rw [← h.tsz]; exact hdl), fun b x p hx hp hl hc e => ?_⟩
    · have := hl0 _ hF
      omega
    · unfold cont
      cases hst : stIn (ops.toList.take z) xs d with
      | none =>
        refine b3'.1 zz l h1 h2 fun i oi d' g1 g2 g3 g4 => ?_
        rw [h3] at g4; cases g4
        have hix : i < xs.length := by rw [hw.hxs]; exact g2
        cases hs : stTo oi d with
        | false => rfl
        | true =>
          obtain ⟨l', e1, _⟩ := b3'.2 i oi d g1 g2 (hall i g2) h3 hs
          exact (stIn_none _ _ _ hst i oi _ (opsT.2 ⟨g2, g1⟩) e1 hs fun j oj y q1 q2 q3 => by
            obtain ⟨r1, r2⟩ := opsT.1 q1
            obtain ⟨l3, e3, _⟩ := b3'.2 j oj d r2 r1 (hall j r1) h3 q3
            rw [q2] at e3; cases e3; exact ⟨l3, rfl⟩).elim
      | some l' =>
        obtain ⟨i, oi, g1, g2, g3⟩ := stIn_some _ _ _ hst
        obtain ⟨k1, k2⟩ := opsT.1 g1
        obtain ⟨l2, e1, e2⟩ := b3'.2 i oi d k2 k1 (hall i k1) h3 g3
        rw [g2] at e1
        cases e1
        exact e2
    · by_cases hxw : x.wr = true
      · exact hC.free b x p hx hp hxw hc (e ▸ b1)
      · rw [hnb] at hx
        rcases Nat.lt_or_ge b st.heap.length with hb | hb
        · rw [List.getElem?_append_left hb] at hx
          have hp0 : ρ0[b]? = some p := by
            have hbl : b < ρ0.length := by rw [hρ0]; exact hb
            have := h.ext b _ (List.getElem?_eq_getElem hbl)
            rw [hp] at this
            cases this
            exact List.getElem?_eq_getElem hbl
          have := hC0 b x p hx hp0 hl hc
          omega
        · rw [List.getElem?_append_right hb] at hx
          exact hxw (fresh_wr (allFresh_get hfr _ _ hx) hl)) fun j m o o' t t' h1 h2 h3 h4 h5 => by
    obtain ⟨a1, a2⟩ := opsT.1 h1
    obtain ⟨b1, b2⟩ := opsT.1 h2
    rw [Nat.zero_add, Nat.zero_add] at h5
    exact h.inj j m o o' t t' a2 b2 a1 b1 (hall j a1) (hall m b1) h3 h4 h5
  exact ⟨ρ', h.ext.trans e1, e2, e3⟩

theorem sufFrom_spec {md : Region.Mode} {ops : Array Oper} : ∀ (n : Nat), sufFrom md ops n ≤ n ∧ ∀ i, sufFrom md ops n ≤ i → i < n → waitsAll md ops i = true
  | 0 => ⟨Nat.le_refl _, fun i _ h => by omega⟩
  | n + 1 => by
    simp only [sufFrom]
    cases hw : waitsAll md ops n with
    | false => exact ⟨Nat.le_refl _, fun i h1 h2 => by simp at h1; omega⟩
    | true =>
      obtain ⟨h1, h2⟩ := sufFrom_spec (md := md) (ops := ops) n
      simp only [cond_true]
      refine ⟨by omega, fun i h3 h4 => ?_⟩
      by_cases hi : i = n
      · rw [hi]; exact hw
      · exact h2 i h3 (by omega)
theorem waitsAll_spec {md : Region.Mode} {ops : Array Oper} {i : Nat} (h : waitsAll md ops i = true) : ∀ k, k < i → k ∈ cl md ops i := fun k hk => by
  unfold waitsAll at h
  rw [List.all_eq_true] at h
  exact anyBeq.1 (h k (List.mem_range.2 hk))

/-- a region in a drawn order -/
theorem regionD_ok {call : CallerT} (hcall : CallerTOk P call) (hm : P.follows .mixedOrders = true) {id : Nat} {ops : Array Oper} {Q : Exit → Act → World → Prop} {st st' : St} {l : List Oper} (h : evD P call ops st = some (st', l, true)) {B : Nat} {F : Nat → Prop} {W0 : World} {ρ : List Place} {a : Act} {W : World}
    (hr : Rl B F W0 ρ st a W) (hl : ∀ ρ' a' W', ExtB B ρ ρ' → Rl B F W0 ρ' st' a' W' → wpK P ops Q (Q .normal) l a' W') : (Code.region id ops true).wp P Q a W := by
  unfold evD at h
  obtain ⟨hed, h⟩ := cond_some h
  split at h
  · rename_i xs Hs ob hds
    split at h
    · rename_i st1 hre
      simp only [Option.some.injEq, Prod.mk.injEq] at h
      obtain ⟨rfl, rfl, rfl⟩ := h
      obtain ⟨hz, hsuf⟩ := sufFrom_spec (md := .any) (ops := ops) ops.size
      generalize hzz : sufFrom .any ops ops.size = z at *
      have hlen : (ops.toList.take z).length = z := by simp; omega
      obtain ⟨s1, s2, s3, s4, s5, s6⟩ := evDs_spec hcall (ops.toList.take z) 0 st.slots [st.heap] Hs xs (fun k hk => by
        rw [hlen] at hk
        rw [Nat.zero_add, List.getElem?_take, if_pos hk, Array.getElem?_toList]) (by simp [rankS]) hds
      rw [hlen] at s1 s2
      rw [Nat.zero_add] at s2
      have hw : DW P ops z st xs Hs (putAll (ops.toList.take z) xs st.slots) := ⟨hz, s1, s2, rfl, fun j o x ho hj hx => by
          have := s4 j o x (opsT.2 ⟨hj, ho⟩) hx
          rwa [Nat.zero_add] at this, fun j m o o' d h1 h2 h3 h4 h5 h6 => s5 j m o o' d (opsT.2 ⟨h3, h1⟩) (opsT.2 ⟨h4, h2⟩) h5 h6,
        fun j m o o' w h1 h2 h3 h4 h5 => s6 j m o o' w (opsT.2 ⟨by omega, h1⟩) (opsT.2 ⟨h4, h2⟩) h3 h5⟩
      have hH0 : Hs[0]? = some st.heap := s3 0 st.heap (by simp)
      have hedge : ∀ i, i < ops.size → ∀ e ∈ edgesOf .any ops i, e < i := fun i hi e he => by
        unfold edB at hed
        rw [List.all_eq_true] at hed
        have := hed i (List.mem_range.2 hi)
        rw [List.all_eq_true] at this
        simpa [Nat.blt_eq] using this e he
      -- as long as something is left something may come
      have prog : ∀ (listed : Array Bool) (n : Nat), n < ops.size → listed.getD n true = false → (∀ j, j < n → listed.getD j false = true) → Region.ready .any ops listed ≠ [] := fun listed n hn hun hlow hnil => by
        have : n ∈ Region.ready .any ops listed := mem_ready.2 ⟨hun, ops[n], Array.getElem?_eq_getElem hn, fun e he hb => hlow _ (hedge n hn _ (edges_mem.2 ⟨_, Array.getElem?_eq_getElem hn, e, he, hb, rfl⟩))⟩
        rw [hnil] at this; cases this
      let W1 : World := { W with drawn := W.drawn + 1 }
      have hC1 : Cls F W0 ρ st.heap W1 := hr.c.drawn _
      have hlo : ∀ (listed : Array Bool) (n : Nat), listed.size = ops.size → n < ops.size → listed.getD n false = false → listed.getD n true = false := fun listed n hs hn h => by
        simp only [Array.getD_eq_getD_getElem?, Array.getElem?_eq_getElem (show n < listed.size by omega), Option.getD_some] at *
        exact h
      -- the invariant
      let I : Array Bool → Act → World → Prop := fun listed a' W' =>
        (∃ k ρ' F1 W2 β, DI P ops z st xs Hs F W0 W1 ρ listed a' W' k ρ' F1 W2 β) ∨
        (∃ n, z ≤ n ∧ n ≤ ops.size ∧ listed.size = ops.size ∧ Down .any ops listed ∧ (∀ j, j < n → listed.getD j false = true) ∧ (∀ j, n ≤ j → listed.getD j false = false) ∧ wpK P ops Q (Q .normal) (ops.toList.drop n) a' W')
      have toEnd : ∀ listed a' W' k ρ' F1 W2 β, DI P ops z st xs Hs F W0 W1 ρ listed a' W' k ρ' F1 W2 β → (∀ j, j < z → listed.getD j false = true) → wpK P ops Q (Q .normal) (ops.toList.drop z) a' W' := fun listed a' W' k ρ' F1 W2 β hd hall => by
        obtain ⟨ρ2, e1, e2, e3⟩ := hd.done hw hH0 hr.c.low (fun b x p hx hp hlv hc => hC1.rel.lt hx hp hlv hc) hr.c.rel.len hC1.fr.size hall hre
        exact hl ρ2 a' W' e1.toB ⟨e2, hd.defers, e3, Nat.le_trans hr.hB (hr.c.keep e1 e3)⟩
      have sufStep : ∀ n a' W' (K : Act → World → Prop), n < ops.size → wpK P ops Q (Q .normal) (ops.toList.drop n) a' W' → (∀ a2 W2, wpK P ops Q (Q .normal) (ops.toList.drop (n + 1)) a2 W2 → K a2 W2) → wpOp P ops Q n K a' W' := fun n a' W' K hn hk hK => by
        have hn' : n < ops.toList.length := by simpa using hn
        rw [List.drop_eq_getElem_cons hn'] at hk
        unfold wpOp
        simp only [Array.getElem?_eq_getElem hn]
        simp only [wpK, Array.getElem_toList] at hk
        split at hk
        · rename_i hwt
          rw [if_pos hwt]
          rcases hk with hk | hk
          · exact .inl (Oper.wp_mono hK hk)
          · exact .inr hk
        · rename_i hwt
          rw [if_neg hwt]
          exact hK _ _ hk
      refine wp_region_any hm (wpAny_inv (I := I) ?_ ?_ _ _ _ _ (.inl ⟨0, ρ, F, W1, fun _ => 0, ?_⟩) ?_)
      · -- a step
        rintro listed a' W' i (⟨k, ρ', F1, W2, β, hd⟩ | ⟨n, n1, n2, n3, n4, n5, n6, n7⟩) hi
        · obtain ⟨hun, o, ho, _⟩ := mem_ready.1 hi
          have hio : i < ops.size := (Array.getElem?_eq_some_iff.1 ho).1
          rcases Nat.lt_or_ge i z with hiz | hiz
          · exact wpOp_mono (fun a2 W2 hh => .inl hh) (hd.step (call := call) hw hH0 hr.c.low (fun b x p hx hp hlv hc => hC1.rel.lt hx hp hlv hc) hr.c.rel.len hC1.fr.size hiz hi)
          · have hcl : ∀ n ∈ cl .any ops i, listed.getD n false = true := clo_listed hd.down _ _ (ready_edges hi)
            have hall : ∀ j, j < i → listed.getD j false = true := fun j hj => hcl j (waitsAll_spec (hsuf i hiz hio) j hj)
            have hiz' : i = z := by
              rcases Nat.lt_or_ge z i with h | h
              · have := hall z h
                rw [hd.hi z (Nat.le_refl _)] at this; cases this
              · omega
            subst hiz'
            refine sufStep i a' W' _ hio (toEnd _ _ _ _ _ _ _ _ hd hall) fun a2 W3 hk => .inr ⟨i + 1, by omega, by omega, by simpa using hd.size, hd.down.step hi, fun j hj => ?_, fun j hj => ?_, hk⟩
            · by_cases hji : j = i
              · subst hji; exact getD_self (by rw [hd.size]; exact hio)
              · rw [getD_set_ne false (Ne.symm hji)]; exact hall j (by omega)
            · rw [getD_set_ne false (by omega)]; exact hd.hi j (by omega)
        · obtain ⟨hun, o, ho, _⟩ := mem_ready.1 hi
          have hio : i < ops.size := (Array.getElem?_eq_some_iff.1 ho).1
          have hin : i = n := by
            rcases Nat.lt_or_ge i n with h | h
            · exact (getD_both hun (n5 i h)).elim
            · rcases Nat.lt_or_ge n i with h' | h'
              · have hcl := clo_listed n4 _ _ (ready_edges hi) n (waitsAll_spec (hsuf i (by omega) hio) n h')
                rw [n6 n (Nat.le_refl _)] at hcl; cases hcl
              · omega
          subst hin
          refine sufStep i a' W' _ hio n7 fun a2 W3 hk => .inr ⟨i + 1, by omega, by omega, by simpa using n3, n4.step hi, fun j hj => ?_, fun j hj => ?_, hk⟩
          · by_cases hji : j = i
            · subst hji; exact getD_self (by rw [n3]; exact hio)
            · rw [getD_set_ne false (Ne.symm hji)]; exact n5 j (by omega)
          · rw [getD_set_ne false (by omega)]; exact n6 j (by omega)
      · -- nothing left
        rintro listed a' W' (⟨k, ρ', F1, W2, β, hd⟩ | ⟨n, n1, n2, n3, n4, n5, n6, n7⟩) hnil
        · have hall : ∀ n, n ≤ z → ∀ j, j < n → listed.getD j false = true := fun n => by
            induction n with
            | zero => intro _ j hj; omega
            | succ n ih =>
              intro hn j hj
              by_cases hjn : j = n
              · subst hjn
                cases hg : listed.getD j false with
                | true => rfl
                | false => exact absurd hnil (prog listed j (by omega) (hlo listed j hd.size (by omega) hg) (ih (by omega)))
              · exact ih (by omega) j (by omega)
          have hk := toEnd _ _ _ _ _ _ _ _ hd (hall z (Nat.le_refl _))
          rcases Nat.lt_or_ge z ops.size with h | h
          · exact absurd hnil (prog listed z h (hlo listed z hd.size h (hd.hi z (Nat.le_refl _))) (hall z (Nat.le_refl _)))
          · rw [List.drop_eq_nil_of_le (by simpa using h)] at hk
            exact hk
        · rcases Nat.lt_or_ge n ops.size with h | h
          · exact absurd hnil (prog listed n h (hlo listed n n3 h (n6 n (Nat.le_refl _))) n5)
          · rw [List.drop_eq_nil_of_le (by simpa using h)] at n7
            exact n7
      · -- at the start
        have rep : ∀ j, (Array.replicate ops.size false).getD j false = false := fun j => by
          simp only [Array.getD_eq_getD_getElem?, Array.getElem?_replicate]
          split <;> rfl
        refine ⟨by simp, fun j hj => (by rw [rep] at hj; cases hj), fun j _ => rep j, hr.d, Ext.refl ρ, fun k hk => ⟨hk, hC1.fr.keep k hk⟩, hC1.fr.os, hC1.fr.tape, hC1.fr.output, hC1.fr.size, fun j _ _ => by rw [rep]; simp, Nat.zero_le _, ⟨st.heap, hH0, hC1.rel, ⟨rfl, rfl, rfl, Nat.le_refl _, fun _ _ => rfl⟩, fun k hk => Nat.lt_of_lt_of_le (hC1.low k hk) hC1.fr.size, hC1.free⟩, Nat.le_refl _, hr.s.len, fun w x hx _ => hr.s.get w x hx, fun j _ _ _ _ _ hj => (by rw [rep] at hj; cases hj), fun j _ _ _ _ hj => (by rw [rep] at hj; cases hj), fun j _ _ _ _ _ _ _ _ _ hj => (by rw [rep] at hj; cases hj)⟩
      · unfold unl
        exact Nat.le_trans List.countP_le_length (by simp)
    · cases h
  · cases h
end
end Go.Sx
