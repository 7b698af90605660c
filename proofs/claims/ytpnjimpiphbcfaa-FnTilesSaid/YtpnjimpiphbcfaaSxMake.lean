/- Drawn regions that make slices in any order: they are numbered in the text's order. -/
import Derived.Test.YtpnjimpiphbcfaaSxRow
set_option linter.unusedSimpArgs false
set_option linter.unusedVariables false
namespace Go.Sx
open Go.RowKit

section
variable {P : Program} {F : Nat → Prop} {W0 : World}

theorem mentS_rel {ρ ρ' : List Place} {b : Nat} (hρ : ∀ c, c ≠ b → ρ'[c]? = ρ[c]?) {x : AV} {v : Value} (hm : mentS b x = false) (h : VRel ρ x v) : VRel ρ' x v := by
  have ne : ∀ c, Nat.beq c b = false → c ≠ b := fun c hc e => by subst e; simp at hc
  cases x <;> simp only [mentS, reduceCtorEq] at hm
  case slc c r n => simp only [VRel] at *; rw [hρ c (ne c hm)]; exact h
  case slx c r o e n => simp only [VRel] at *; rw [hρ c (ne c hm)]; exact h
  case slq q c r n => simp only [VRel] at *; rw [hρ c (ne c hm)]; exact h
  case ptr c r o => simp only [VRel] at *; rw [hρ c (ne c hm)]; exact h
  all_goals (simp only [VRel] at *; try exact h)
theorem mentL_rel {ρ ρ' : List Place} {b : Nat} (hρ : ∀ c, c ≠ b → ρ'[c]? = ρ[c]?) : ∀ {l : List AV} {vs : List Value}, mentL b l = false → VRels ρ l vs → VRels ρ' l vs
  | [], vs, _, h => h
  | x :: t, vs, hm, h => by
    simp only [mentL, Bool.or_eq_false_iff] at hm
    simp only [VRels] at *
    obtain ⟨v, u, rfl, h1, h2⟩ := h
    exact ⟨v, u, rfl, mentS_rel hρ hm.1 h1, mentL_rel hρ hm.2 h2⟩
theorem ment_rel {ρ ρ' : List Place} {b : Nat} (hρ : ∀ c, c ≠ b → ρ'[c]? = ρ[c]?) {x : AV} {v : Value} (hm : ment b x = false) (h : VRel ρ x v) : VRel ρ' x v := by
  cases x <;> simp only [ment] at hm
  case agg l =>
    simp only [VRel] at *
    obtain ⟨a, hv, h1⟩ := h
    exact ⟨a, hv, mentL_rel hρ hm h1⟩
  case lit x => simp only [VRel] at *; exact mentS_rel hρ hm h
  all_goals exact mentS_rel hρ hm h

theorem rankU_succ (ops : Array Oper) (n : Nat) {o : Oper} (ho : ops[n]? = some o) : rankU ops (n + 1) = if isMk o = true then rankU ops n + 1 else rankU ops n := by
  rw [show rankU ops (n + 1) = (bif (match ops[n]? with | some o => isMk o | none => false) then rankU ops n + 1 else rankU ops n) from rfl, ho]
  show (bif isMk o then rankU ops n + 1 else rankU ops n) = _
  generalize rankU ops n = k
  cases isMk o <;> rfl
theorem rankU_step (ops : Array Oper) (n : Nat) : rankU ops n ≤ rankU ops (n + 1) := by
  rw [show rankU ops (n + 1) = (bif (match ops[n]? with | some o => isMk o | none => false) then rankU ops n + 1 else rankU ops n) from rfl]
  generalize (match ops[n]? with | some o => isMk o | none => false) = b
  cases b
  · exact Nat.le_refl _
  · exact Nat.le_succ _
theorem rankU_le (ops : Array Oper) {m n : Nat} (h : m ≤ n) : rankU ops m ≤ rankU ops n := by
  induction n with
  | zero => have : m = 0 := by omega
            subst this; exact Nat.le_refl _
  | succ n ih =>
    rcases Nat.lt_or_ge m (n + 1) with hl | hl
    · exact Nat.le_trans (ih (by omega)) (rankU_step ops n)
    · have : m = n + 1 := by omega
      subst this; exact Nat.le_refl _
theorem rankU_lt (ops : Array Oper) {m n : Nat} (h : m < n) {o : Oper} (ho : ops[m]? = some o) (hk : isMk o = true) : rankU ops m < rankU ops n := by
  have := rankU_succ ops m ho
  rw [if_pos hk] at this
  have := rankU_le ops (show m + 1 ≤ n by omega)
  omega
theorem rankU_inj (ops : Array Oper) {m n : Nat} {o o' : Oper} (ho : ops[m]? = some o) (hk : isMk o = true) (ho' : ops[n]? = some o') (hk' : isMk o' = true) (e : rankU ops m = rankU ops n) : m = n := by
  rcases Nat.lt_trichotomy m n with h | h | h
  · have := rankU_lt ops h ho hk; omega
  · exact h
  · have := rankU_lt ops h ho' hk'; omega

/-- what an operation of such a region comes to -/
def FactU (P : Program) (H nb : List Blk) (o : Oper) (σ : List AV) (x : AV) (u : Nat) : Prop :=
  (isMk o = true ∧ ∃ t l c n m sz z ob, o.op = .makeSlice t l c ∧ makeA P [] t ((St.mk σ []).ev l) ((St.mk σ []).ev c) = some (.slc 0 0 n, [.rows true m sz (fun _ => z)], true) ∧ allFlat z = true ∧ x = .slc (H.length + u) 0 n ∧ nb[u]? = some (.rows true m sz (fun _ => z)) ∧ ob = true) ∨
  (isMk o = false ∧ evV P noC ⟨σ, roH H⟩ o = some (x, true))

theorem evU1_fact {o : Oper} {σ : List AV} {H nb nb' : List Blk} {v : AV} (h : evU1 P o σ H nb = some (v, nb', true)) :
    o.guard = none ∧ ((isMk o = true ∧ ∃ b, nb' = nb ++ [b]) ∨ (isMk o = false ∧ nb' = nb)) ∧ FactU P H nb' o σ v nb.length := by
  unfold evU1 at h
  split at h
  · cases h
  · rename_i hg
    refine ⟨hg, ?_⟩
    split at h
    · rename_i t l c hop
      split at h
      · rename_i b r n m sz f ob hm
        obtain ⟨hf, h⟩ := cond_some h
        simp only [Option.some.injEq, Prod.mk.injEq] at h
        obtain ⟨rfl, rfl, rfl⟩ := h
        have hk : isMk o = true := by unfold isMk; rw [hop]
        have hc : f = (fun _ => f 0) ∧ b = 0 ∧ r = 0 := by
          have hm2 := hm
          unfold makeA at hm2
          split at hm2
          · simp only [Option.some.injEq, Prod.mk.injEq, AV.slc.injEq, List.nil_append, List.cons.injEq, Blk.rows.injEq, and_true, true_and, List.length_nil] at hm2
            obtain ⟨⟨rfl, rfl, _⟩, ⟨_, _, rfl⟩, _⟩ := hm2
            exact ⟨rfl, rfl, rfl⟩
          · cases hm2
        obtain ⟨h1, rfl, rfl⟩ := hc
        refine ⟨.inl ⟨hk, _, rfl⟩, .inl ⟨hk, t, l, c, n, m, sz, f 0, true, hop, ?_, hf, ?_, ?_, rfl⟩⟩
        · rw [hm]; rw [← h1]
        · rw [lenB_len, lenB_len]
        · simp
      · cases h
    · rename_i hno
      have hk : isMk o = false := by
        unfold isMk
        split
        · rename_i t l c hop; exact absurd hop (hno t l c)
        · rfl
      split at h
      · rename_i v' ob hv
        simp only [Option.some.injEq, Prod.mk.injEq] at h
        obtain ⟨rfl, rfl, rfl⟩ := h
        exact ⟨.inr ⟨hk, rfl⟩, .inr ⟨hk, hv⟩⟩
      · cases h

theorem FactU.more {H nb nb' : List Blk} {o : Oper} {σ : List AV} {x : AV} {u : Nat} (h : FactU P H nb o σ x u) (hp : ∀ (k : Nat) (b : Blk), nb[k]? = some b → nb'[k]? = some b) : FactU P H nb' o σ x u := by
  rcases h with ⟨h1, t, l, c, n, m, sz, z, ob, h2, h3, h4, h5, h6, h7⟩ | h
  · exact .inl ⟨h1, t, l, c, n, m, sz, z, ob, h2, h3, h4, h5, hp _ _ h6, h7⟩
  · exact .inr h

theorem evUs_spec {ops : Array Oper} {H : List Blk} : ∀ (l : List Oper) (i : Nat) (σ : List AV) (nb nb' : List Blk) (xs : List AV), (∀ k, k < l.length → l[k]? = ops[i + k]?) → nb.length = rankU ops i →
    evUs P ops H i l σ nb = some (xs, nb', true) →
    xs.length = l.length ∧ nb'.length = rankU ops (i + l.length) ∧ (∀ (k : Nat) (b : Blk), nb[k]? = some b → nb'[k]? = some b) ∧
    (∀ k o, l[k]? = some o → ∃ x, xs[k]? = some x ∧ o.guard = none ∧ FactU P H nb' o (maskK (opnd o) 0 (putAll l xs σ)) x (rankU ops (i + k)) ∧
      (∀ w ∈ opnd o, ∀ (n : Nat) (o' : Oper), n < i + k → ops[n]? = some o' → o'.dst = some w → n ∈ cl .any ops (i + k))) ∧
    (∀ (k m : Nat) o o' d, l[k]? = some o → l[m]? = some o' → o.dst = some d → o'.dst = some d → k = m) ∧
    (∀ (k m : Nat) o o' w, l[k]? = some o → l[m]? = some o' → k ≤ m → w ∈ opnd o → o'.dst ≠ some w)
  | [], i, σ, nb, nb', xs, _, hr, h => by
    simp only [evUs, Option.some.injEq, Prod.mk.injEq, and_true] at h
    obtain ⟨rfl, rfl⟩ := h
    exact ⟨rfl, by simpa using hr, fun _ _ h => h, by simp, by simp, by simp⟩
  | o :: t, i, σ, nb, nb', xs, hop, hr, h => by
    simp only [evUs] at h
    obtain ⟨hc, h⟩ := cond_some h
    simp only [Bool.and_eq_true, List.all_eq_true, Bool.not_eq_true'] at hc
    obtain ⟨hc1', hc2⟩ := hc
    have hc1 : ∀ w ∈ opnd o, dstIn w (o :: t) = false := fun w hw => (hc1' w hw).1
    have hpr : ∀ w ∈ opnd o, ∀ (n : Nat) (o' : Oper), n < i → ops[n]? = some o' → o'.dst = some w → n ∈ cl .any ops i := fun w hw n o' hn ho' hd => prodB_spec (hc1' w hw).2 n o' hn ho' hd
    split at h
    · rename_i v nb1 ob hv
      split at h
      · rename_i xs' nb2 ob' hrest
        simp only [Option.some.injEq, Prod.mk.injEq] at h
        obtain ⟨rfl, rfl, hob⟩ := h
        obtain ⟨rfl, rfl⟩ := andB_true hob
        obtain ⟨hg, hnb, hf⟩ := evU1_fact hv
        have ho : ops[i]? = some o := by have := hop 0 (by simp); simpa using this.symm
        have hr1 : nb1.length = rankU ops (i + 1) := by
          rw [rankU_succ ops i ho]
          rcases hnb with ⟨hk, b, rfl⟩ | ⟨hk, rfl⟩
          · rw [if_pos hk]; simp [hr]
          · rw [hk]; simpa using hr
        have hpre : ∀ (k : Nat) (b : Blk), nb[k]? = some b → nb1[k]? = some b := fun k b hb => by
          rcases hnb with ⟨_, c, rfl⟩ | ⟨_, rfl⟩
          · rw [List.getElem?_append_left (List.getElem?_eq_some_iff.1 hb).1]; exact hb
          · exact hb
        obtain ⟨r1, r2, r3, r4, r5, r6⟩ := evUs_spec t (i + 1) (putD σ o v) nb1 nb2 xs' (fun k hk => by have := hop (k + 1) (by simpa using hk); rw [show i + 1 + k = i + (k + 1) by omega]; simpa using this) hr1 hrest
        have hmask : maskK (opnd o) 0 σ = maskK (opnd o) 0 (putAll t xs' (putD σ o v)) := by
          refine maskK_congr _ _ _ _ (by rw [putAll_len, putD_len]) fun j hj => ?_
          have hfree := dstIn_false (hc1 j (by simpa using hj))
          rw [putAll_keep t xs' _ j fun o' ho' => hfree o' (List.mem_cons_of_mem _ ho'), putD_other (hfree o List.mem_cons_self)]
        refine ⟨by simp [r1], by rw [r2]; simp; congr 1; omega, fun k b hb => r3 k b (hpre k b hb), fun k' o' hk' => ?_, fun k m o1 o2 d h1 h2 h3 h4 => ?_, fun k m o1 o2 w h1 h2 hkm hw => ?_⟩
        · cases k' with
          | zero =>
            simp at hk'
            subst hk'
            refine ⟨v, by simp, hg, ?_, by simpa using hpr⟩
            rw [hmask] at hf
            rw [Nat.add_zero, ← hr]
            exact hf.more r3
          | succ k' =>
            obtain ⟨x, q1, q2, q3, q4⟩ := r4 k' o' (by simpa using hk')
            have e : i + 1 + k' = i + (k' + 1) := by omega
            rw [e] at q3 q4
            exact ⟨x, by simpa using q1, q2, q3, q4⟩
        · have nod : ∀ (m : Nat) o2, t[m]? = some o2 → o.dst = some d → o2.dst = some d → False := fun m o2 hm e1 e2 => by
            rw [e1] at hc2
            simp only [Bool.not_eq_true'] at hc2
            exact dstIn_false hc2 o2 (List.mem_of_getElem? hm) e2
          cases k with
          | zero =>
            cases m with
            | zero => rfl
            | succ m => simp at h1 h2; subst h1; exact (nod m o2 h2 h3 h4).elim
          | succ k =>
            cases m with
            | zero => simp at h1 h2; subst h2; exact (nod k o1 h1 h4 h3).elim
            | succ m => rw [r5 k m o1 o2 d (by simpa using h1) (by simpa using h2) h3 h4]
        · cases k with
          | zero =>
            simp at h1
            subst h1
            exact dstIn_false (hc1 w hw) o2 (List.mem_of_getElem? h2)
          | succ k =>
            cases m with
            | zero => omega
            | succ m => exact r6 k m o1 o2 w (by simpa using h1) (by simpa using h2) (by omega) hw
      · cases h
    · cases h

theorem gt_getU {l : List AV} {i : Nat} {x : AV} (h : l[i]? = some x) : gt l i = x := gt_some h
theorem flat_brel {ρ ρ' : List Place} {W : World} {q : Place} {w : Bool} {m sz : Nat} {z : List AV} (hf : allFlat z = true) (h : BRel ρ W q (.rows w m sz (fun _ => z))) : BRel ρ' W q (.rows w m sz (fun _ => z)) := by
  obtain ⟨h1, h2, h⟩ := h
  refine ⟨h1, h2, fun hc => ?_⟩
  obtain ⟨cs, ty, fz, a1, a2, a3, a4, a5⟩ := h hc
  refine ⟨cs, ty, fz, a1, a2, a3, a4, fun i hi j x hj => ?_⟩
  obtain ⟨b1, v, b2, b3⟩ := a5 i hi j x hj
  refine ⟨b1, v, b2, ?_⟩
  have : ∀ {l : List AV}, allFlat l = true → ∀ {j : Nat} {x : AV}, l[j]? = some x → x.flat = true := by
    intro l
    induction l with
    | nil => intro _ j x h; simp at h
    | cons y t ih =>
      intro hl j x h
      simp only [allFlat, Bool.and_eq_true] at hl
      cases j with
      | zero => simp at h; subst h; exact hl.1
      | succ j => exact ih hl.2 (by simpa using h)
  exact flat_rel (this hf hj) b3

/-- what holds on the way through the first part of such a region -/
structure ZI (P : Program) (ops : Array Oper) (z : Nat) (st : St) (xs : List AV) (nb : List Blk) (F : Nat → Prop) (W0 Wb : World) (ρ0 : List Place) (listed : Array Bool) (a : Act) (W : World) (τ : List Place) : Prop where
  size : listed.size = ops.size
  down : Down .any ops listed
  hi : ∀ j, z ≤ j → listed.getD j false = false
  defers : a.defers = []
  tsz : a.tmps.size = st.slots.length
  tl : τ.length = nb.length
  cls : Cls F W0 ρ0 st.heap W
  lo : Wb.heap.size ≤ W.heap.size
  old : ∀ (w : Nat) (x : AV), st.slots[w]? = some x → (∀ (j : Nat) (o : Oper), ops[j]? = some o → j < z → o.dst ≠ some w) → ∃ v, a.tmps[w]? = some v ∧ VRel ρ0 x v
  new : ∀ (j : Nat) (o : Oper) (d : Nat) (x : AV), ops[j]? = some o → j < z → listed.getD j false = true → o.dst = some d → d < st.slots.length → xs[j]? = some x → ∃ v, a.tmps[d]? = some v ∧ VRel (ρ0 ++ τ) x v
  mks : ∀ (j : Nat) (o : Oper), ops[j]? = some o → j < z → listed.getD j false = true → isMk o = true → ∃ q y, τ[rankU ops j]? = some q ∧ nb[rankU ops j]? = some y ∧ (∀ ρ, BRel ρ W q y) ∧ (q.cap ≠ 0 → Wb.heap.size ≤ q.blk ∧ q.blk < W.heap.size)
  inj : ∀ (i j : Nat) (o o' : Oper) (p q : Place), ops[i]? = some o → ops[j]? = some o' → i < z → j < z → listed.getD i false = true → listed.getD j false = true → isMk o = true → isMk o' = true → τ[rankU ops i]? = some p → τ[rankU ops j]? = some q → p.cap ≠ 0 → q.cap ≠ 0 → i ≠ j → p.blk ≠ q.blk

/-- blocks that nobody asks for -/
theorem Cls.deads {ρ : List Place} {H : List Blk} {W : World} (h : Cls F W0 ρ H W) : ∀ (τ : List Place), Cls F W0 (ρ ++ τ) (H ++ τ.map fun _ => Blk.dead) W := fun τ => by
  have get : ∀ (b : Nat) (x : Blk) (p : Place), (H ++ τ.map fun _ => Blk.dead)[b]? = some x → (ρ ++ τ)[b]? = some p → x = .dead ∨ (H[b]? = some x ∧ ρ[b]? = some p) := fun b x p hx hp => by
    rcases Nat.lt_or_ge b H.length with hb | hb
    · rw [List.getElem?_append_left hb] at hx
      rw [List.getElem?_append_left (by rw [h.rel.len]; exact hb)] at hp
      exact .inr ⟨hx, hp⟩
    · rw [List.getElem?_append_right hb, List.getElem?_map] at hx
      cases hq : τ[b - H.length]? with
      | none => rw [hq] at hx; cases hx
      | some q => rw [hq] at hx; cases hx; exact .inl rfl
  have he : Ext ρ (ρ ++ τ) := fun b p hp => by rw [List.getElem?_append_left (List.getElem?_eq_some_iff.1 hp).1]; exact hp
  refine ⟨⟨by simp [h.rel.len], fun b x p hx hp => ?_, fun b c x y p q hne hx hy hp hq hw hl => ?_⟩, h.fr, h.low, fun b x p hx hp hw => ?_⟩
  · rcases get b x p hx hp with rfl | ⟨h1, h2⟩
    · trivial
    · exact (h.rel.blk b x p h1 h2).ext he
  · rcases get b x p hx hp with rfl | ⟨h1, h2⟩
    · cases hw
    · rcases get c y q hy hq with rfl | ⟨h3, h4⟩
      · cases hl
      · exact h.rel.apart b c x y p q hne h1 h3 h2 h4 hw hl
  · rcases get b x p hx hp with rfl | ⟨h1, h2⟩
    · cases hw
    · exact h.free b x p h1 h2 hw

/-- the slices taken over in the text's order -/
theorem ZI.done {ops : Array Oper} {z : Nat} {st : St} {xs : List AV} {nb : List Blk} {Wb : World} {ρ0 : List Place} {listed : Array Bool} {a : Act} {W : World} {τ : List Place}
    (h : ZI P ops z st xs nb F W0 Wb ρ0 listed a W τ) (hz : z ≤ ops.size) (hnb : nb.length = rankU ops z) (hall : ∀ j, j < z → listed.getD j false = true) (hb0 : W0.heap.size ≤ Wb.heap.size)
    (hC0 : ∀ (b : Nat) (x : Blk) (p : Place), st.heap[b]? = some x → ρ0[b]? = some p → x.live = true → p.cap ≠ 0 → p.blk < Wb.heap.size) (hlow : ∀ k, F k → k < Wb.heap.size) : Cls F W0 (ρ0 ++ τ) (st.heap ++ nb) W := by
  have hit : ∀ u, u < nb.length → ∃ j o, j < z ∧ ops[j]? = some o ∧ isMk o = true ∧ rankU ops j = u := fun u hu => by
    rw [hnb] at hu
    clear hnb hall
    induction z with
    | zero => simp [rankU] at hu
    | succ n ih =>
      have hn : n < ops.size := by omega
      have ho := Array.getElem?_eq_getElem hn
      have hs := rankU_succ ops n ho
      by_cases hk : isMk ops[n] = true
      · rw [if_pos hk] at hs
        by_cases hlt : u < rankU ops n
        · obtain ⟨j, o, h1, h2, h3, h4⟩ := (show ∃ j o, j < n ∧ ops[j]? = some o ∧ isMk o = true ∧ rankU ops j = u from by
            clear ih hs
            have : ∀ n, n ≤ ops.size → u < rankU ops n → ∃ j o, j < n ∧ ops[j]? = some o ∧ isMk o = true ∧ rankU ops j = u := fun n => by
              induction n with
              | zero => intro _ h; simp [rankU] at h
              | succ n ih =>
                intro hn hu
                have ho := Array.getElem?_eq_getElem (show n < ops.size by omega)
                have hs := rankU_succ ops n ho
                by_cases hk : isMk ops[n] = true
                · rw [if_pos hk] at hs
                  by_cases hlt : u < rankU ops n
                  · obtain ⟨j, o, h1, h2, h3, h4⟩ := ih (by omega) hlt
                    exact ⟨j, o, by omega, h2, h3, h4⟩
                  · exact ⟨n, _, by omega, ho, hk, by omega⟩
                · rw [if_neg hk] at hs
                  obtain ⟨j, o, h1, h2, h3, h4⟩ := ih (by omega) (by omega)
                  exact ⟨j, o, by omega, h2, h3, h4⟩
            exact this n (by omega) hlt)
          exact ⟨j, o, by omega, h2, h3, h4⟩
        · exact ⟨n, _, by omega, ho, hk, by omega⟩
      · rw [if_neg hk] at hs
        have : ∀ n, n ≤ ops.size → u < rankU ops n → ∃ j o, j < n ∧ ops[j]? = some o ∧ isMk o = true ∧ rankU ops j = u := fun n => by
          induction n with
          | zero => intro _ h; simp [rankU] at h
          | succ n ih =>
            intro hn hu
            have ho := Array.getElem?_eq_getElem (show n < ops.size by omega)
            have hs := rankU_succ ops n ho
            by_cases hk : isMk ops[n] = true
            · rw [if_pos hk] at hs
              by_cases hlt : u < rankU ops n
              · obtain ⟨j, o, h1, h2, h3, h4⟩ := ih (by omega) hlt
                exact ⟨j, o, by omega, h2, h3, h4⟩
              · exact ⟨n, _, by omega, ho, hk, by omega⟩
            · rw [if_neg hk] at hs
              obtain ⟨j, o, h1, h2, h3, h4⟩ := ih (by omega) (by omega)
              exact ⟨j, o, by omega, h2, h3, h4⟩
        obtain ⟨j, o, h1, h2, h3, h4⟩ := this n (by omega) (by omega)
        exact ⟨j, o, by omega, h2, h3, h4⟩
  have key : ∀ u, u ≤ nb.length → Cls F W0 (ρ0 ++ τ.take u) (st.heap ++ nb.take u) W := fun u => by
    induction u with
    | zero => intro _; simpa using h.cls
    | succ u ih =>
      intro hu
      have hc := ih (by omega)
      obtain ⟨j, o, h1, h2, h3, rfl⟩ := hit u (by omega)
      obtain ⟨q, y, e1, e2, e3, e4⟩ := h.mks j o h2 h1 (hall j h1) h3
      have t1 : τ.take (rankU ops j + 1) = τ.take (rankU ops j) ++ [q] := by rw [List.take_add_one, e1]; rfl
      have t2 : nb.take (rankU ops j + 1) = nb.take (rankU ops j) ++ [y] := by rw [List.take_add_one, e2]; rfl
      rw [t1, t2, ← List.append_assoc, ← List.append_assoc]
      by_cases hcap : q.cap = 0
      · -- no room: nobody is met
        refine ⟨⟨by rw [List.length_append (bs := [q]), List.length_append (bs := [y]), hc.rel.len]; rfl, fun b x p hx hp => ?_, fun b c x y' p r hne hx hy hp hr hw hl hcp hcr => ?_⟩, hc.fr, hc.low, fun b x p hx hp hw hcp => ?_⟩
        · rcases len_get hc.rel.len q _ hp hx with ⟨g1, g2, _⟩ | ⟨_, rfl, rfl⟩
          · exact (hc.rel.blk b x p g2 g1).ext (Ext.append _ q)
          · exact e3 _
        · rcases len_get hc.rel.len q _ hp hx with ⟨g1, g2, _⟩ | ⟨_, rfl, rfl⟩
          · rcases len_get hc.rel.len q _ hr hy with ⟨g3, g4, _⟩ | ⟨_, rfl, rfl⟩
            · exact hc.rel.apart b c x y' p r hne g2 g4 g1 g3 hw hl hcp hcr
            · exact absurd hcap hcr
          · exact absurd hcap hcp
        · rcases len_get hc.rel.len q _ hp hx with ⟨g1, g2, _⟩ | ⟨_, rfl, rfl⟩
          · exact hc.free b x p g2 g1 hw hcp
          · exact absurd hcap hcp
      · obtain ⟨e5, e6⟩ := e4 hcap
        refine hc.adopt q y (e3 _) (fun hF => by have := hlow _ hF; omega) fun b x p hx hp hlv hcp => ?_
        rcases Nat.lt_or_ge b st.heap.length with hb | hb
        · rw [List.getElem?_append_left hb] at hx
          rw [List.getElem?_append_left (by rw [h.cls.rel.len]; exact hb)] at hp
          have := hC0 b x p hx hp hlv hcp
          omega
        · rw [List.getElem?_append_right (by rw [h.cls.rel.len]; exact hb), List.getElem?_take] at hp
          split at hp
          · rename_i hlt
            rw [h.cls.rel.len] at hp hlt
            obtain ⟨i, o', i1, i2, i3, i4⟩ := hit (b - st.heap.length) (by omega)
            rw [← i4] at hp
            refine h.inj i j o' o p q i2 h2 i1 h1 (hall i i1) (hall j h1) i3 h3 hp e1 hcp hcap fun e => ?_
            subst e
            omega
          · cases hp
  have := key nb.length (Nat.le_refl _)
  rwa [List.take_length, ← h.tl, List.take_length] at this

/-- all that the walk has shown -/
structure UW (P : Program) (ops : Array Oper) (z : Nat) (st : St) (xs : List AV) (nb : List Blk) (σf : List AV) : Prop where
  hz : z ≤ ops.size
  hxs : xs.length = z
  hnb : nb.length = rankU ops z
  hσ : σf = putAll (ops.toList.take z) xs st.slots
  fact : ∀ (j : Nat) (o : Oper) (x : AV), ops[j]? = some o → j < z → xs[j]? = some x → o.guard = none ∧ FactU P st.heap nb o (maskK (opnd o) 0 σf) x (rankU ops j) ∧
    ∀ w ∈ opnd o, ∀ (n : Nat) (o' : Oper), n < j → ops[n]? = some o' → o'.dst = some w → n ∈ cl .any ops j
  uniq : ∀ (j m : Nat) (o o' : Oper) (d : Nat), ops[j]? = some o → ops[m]? = some o' → j < z → m < z → o.dst = some d → o'.dst = some d → j = m
  free : ∀ (j m : Nat) (o o' : Oper) (w : Nat), ops[j]? = some o → ops[m]? = some o' → j ≤ m → m < z → w ∈ opnd o → o'.dst ≠ some w
  ap : ∀ (i j : Nat) (o : Oper) (x : AV), ops[i]? = some o → isMk o = true → i < z → j < z → i ≠ j → i ∉ cl .any ops j → xs[j]? = some x → ment (st.heap.length + rankU ops i) x = false

theorem ZI.step {ops : Array Oper} {z : Nat} {st : St} {xs : List AV} {nb : List Blk} {σf : List AV} {Wb : World} {ρ0 : List Place} {listed : Array Bool} {a : Act} {W : World} {τ : List Place} {Q : Exit → Act → World → Prop}
    (hw : UW P ops z st xs nb σf) (h : ZI P ops z st xs nb F W0 Wb ρ0 listed a W τ) {i : Nat} (hi : i < z) (hr : i ∈ Region.ready .any ops listed) :
    wpOp P ops Q i (fun a' W' => ∃ τ', ZI P ops z st xs nb F W0 Wb ρ0 (listed.setIfInBounds i true) a' W' τ') a W := by
  obtain ⟨hun, o, ho, _⟩ := mem_ready.1 hr
  have hisz : i < listed.size := by rw [h.size]; exact (Array.getElem?_eq_some_iff.1 ho).1
  have hxl : i < xs.length := by rw [hw.hxs]; exact hi
  have hx : xs[i]? = some xs[i] := List.getElem?_eq_getElem hxl
  generalize xs[i] = x at hx
  have hcl : ∀ n ∈ cl .any ops i, listed.getD n false = true := clo_listed h.down _ _ (ready_edges hr)
  have hnl : listed.getD i false = false := getD_false hisz hun
  obtain ⟨hg, hf, hpr⟩ := hw.fact i o x ho hi hx
  have hlen : σf.length = st.slots.length := by rw [hw.hσ, putAll_len]
  have hE0 : ∀ τ' : List Place, Ext ρ0 (ρ0 ++ τ') := fun τ' b p hp => by rw [List.getElem?_append_left (List.getElem?_eq_some_iff.1 hp).1]; exact hp
  have hs : SRel (ρ0 ++ τ) (maskK (opnd o) 0 σf) a.tmps := by
    refine ⟨by rw [maskK_len, h.tsz, hlen], fun w y hy => ?_⟩
    rcases maskK_get _ _ _ _ _ hy with ⟨rfl, hlt⟩ | ⟨hwo, hs⟩
    · exact ⟨a.tmps[w]'(by rw [h.tsz, ← hlen]; exact hlt), Array.getElem?_eq_getElem _, by simp [VRel]⟩
    · rw [Nat.zero_add] at hwo
      have hwl : w < st.slots.length := by rw [← hlen]; exact (List.getElem?_eq_some_iff.1 hs).1
      rw [hw.hσ] at hs
      rcases putAll_get _ _ _ _ _ hs with ⟨m, o', h1, h2, h3⟩ | ⟨h1, h2⟩
      · obtain ⟨hmz, ho'⟩ := opsT.1 h1
        rcases Nat.lt_or_ge m i with hl | hl
        · exact h.new m o' w y ho' hmz (hcl m (hpr w hwo m o' hl ho' h2)) h2 hwl h3
        · exact absurd h2 (hw.free i m o o' w ho ho' hl hmz hwo)
      · obtain ⟨v, v1, v2⟩ := h.old w y h1 fun j o' ho' hj => h2 j o' (opsT.2 ⟨hj, ho'⟩) (by rw [hw.hxs]; exact hj)
        exact ⟨v, v1, v2.ext (hE0 τ)⟩
  have hwant : Region.wanted o (yielded ops a.tmps) = true := by unfold Region.wanted; rw [hg]
  unfold wpOp
  simp only [ho]
  rw [if_pos hwant]
  left
  have hdown := h.down.step hr
  have hhi : ∀ j, z ≤ j → (listed.setIfInBounds i true).getD j false = false := fun j hj => by rw [getD_set_ne false (by omega)]; exact h.hi j hj
  have hold : ∀ (v : Value), ∀ (w : Nat) (y : AV), st.slots[w]? = some y → (∀ (j : Nat) (o : Oper), ops[j]? = some o → j < z → o.dst ≠ some w) → ∃ u, (a.put o.dst v).tmps[w]? = some u ∧ VRel ρ0 y u := fun v w y hy hd => by
    obtain ⟨u, h1, h2⟩ := h.old w y hy hd
    exact ⟨u, by rw [put_get_other (hd i o ho hi)]; exact h1, h2⟩
  rcases hf with ⟨hk, t, l, c, n, m, sz, zz, ob, hop, hm, hfl, rfl, hny, hob⟩ | ⟨hk, hv⟩
  · -- a slice
    have hnb : rankU ops i < nb.length := by rw [hw.hnb]; exact rankU_lt ops hi ho hk
    have hC1 : Cls (· < W.heap.size) W [] [] W := ⟨⟨rfl, fun b x p hx => by simp at hx, fun b c x y p q _ hx => by simp at hx⟩, ⟨rfl, rfl, rfl, Nat.le_refl _, fun _ _ => rfl⟩, fun _ h => h, fun b x p hx => by simp at hx⟩
    have noS : ∀ {y : AV} {v : Value} {k n}, delit y = .int k n → VRel (ρ0 ++ τ) y v → VRel [] (.int k n) v := fun e hv => by
      have := delit_rel hv; rw [e] at this; exact this
    have hlr : ∃ kl nl, (St.mk (maskK (opnd o) 0 σf) []).ev l = .int kl nl := by
      unfold makeA at hm
      split at hm
      · rename_i h1 h2 h3; exact ⟨_, _, h2⟩
      · cases hm
    have hcr : ∃ kc nc, (St.mk (maskK (opnd o) 0 σf) []).ev c = .int kc nc := by
      unfold makeA at hm
      split at hm
      · rename_i h1 h2 h3; exact ⟨_, _, h3⟩
      · cases hm
    obtain ⟨kl, nl, hl⟩ := hlr
    obtain ⟨kc, nc, hc⟩ := hcr
    have vl := ev_rel (st := ⟨maskK (opnd o) 0 σf, []⟩) hs l
    have vc := ev_rel (st := ⟨maskK (opnd o) 0 σf, []⟩) hs c
    rw [hl] at vl; rw [hc] at vc
    rw [hl, hc] at hm
    obtain ⟨ρ', he, u, W', hrun, hC', hv⟩ := make_ok (P := P) hm (ρ := []) (by simpa [VRel] using vl) (by simpa [VRel] using vc) hC1
    have hbel := hC'.toBelow
    have hl1 : ρ'.length = 1 := hC'.rel.len
    obtain ⟨q, rfl⟩ : ∃ q, ρ' = [q] := by
      match ρ', hl1 with
      | [q], _ => exact ⟨q, rfl⟩
    have hbq := hC'.rel.blk 0 _ q rfl rfl
    have hfq := hC'.free 0 _ q rfl rfl
    have hsz : W.heap.size ≤ W'.heap.size := hbel.size
    have hrun' : (execOp a.eval o).run P W = .ok (.value u) W' := by
      obtain ⟨dst, op, type, pos, after, guard⟩ := o
      simp only at hop
      subst hop
      show (toNext (Instr.makeSlice t (a.eval l) (a.eval c))).run P W = _
      simp only [toNext, Sem.run_bind, hrun, Result.andThen_ok, Sem.run_pure]
    refine opT_wp (V := fun v W2 => v = u ∧ W2 = W') (by rw [hrun']; exact ⟨rfl, rfl⟩) ?_
    rintro v W2 ⟨rfl, rfl⟩
    have hset : ∀ c', c' ≠ st.heap.length + rankU ops i → (ρ0 ++ τ.set (rankU ops i) q)[c']? = (ρ0 ++ τ)[c']? := fun c' hc' => by
      rcases Nat.lt_or_ge c' ρ0.length with hb | hb
      · rw [List.getElem?_append_left hb, List.getElem?_append_left hb]
      · rw [List.getElem?_append_right hb, List.getElem?_append_right hb, List.getElem?_set_ne]
        have := h.cls.rel.len
        omega
    have hself : (ρ0 ++ τ.set (rankU ops i) q)[st.heap.length + rankU ops i]? = some q := by
      rw [← h.cls.rel.len, List.getElem?_append_right (by omega), show ρ0.length + rankU ops i - ρ0.length = rankU ops i by omega, List.getElem?_set_self (by rw [h.tl]; exact hnb)]
    have hvq : VRel (ρ0 ++ τ.set (rankU ops i) q) (.slc (st.heap.length + rankU ops i) 0 n) v := by
      simp only [VRel] at *
      obtain ⟨p, y, hp, r⟩ := hv
      simp at hp
      subst hp
      exact ⟨q, y, hself, r⟩
    refine ⟨τ.set (rankU ops i) q, ⟨by simpa using h.size, hdown, hhi, by rw [put_defers]; exact h.defers, by rw [put_size]; exact h.tsz, by simpa using h.tl, h.cls.below hbel, Nat.le_trans h.lo hsz, hold v, fun j o' d y ho' hj hlj hd hdl hy => ?_, fun j o' ho' hj hlj hk' => ?_, fun j1 j2 o1 o2 p1 p2 g1 g2 g3 g4 g5 g6 g7 g8 g9 g10 g11 g12 g13 => ?_⟩⟩
    · by_cases hji : j = i
      · subst hji
        rw [ho] at ho'; cases ho'
        rw [hx] at hy; cases hy
        rw [hd]
        exact ⟨v, put_get_self (by rw [h.tsz]; exact hdl), hvq⟩
      · have hlj := (getD_set_f hlj).resolve_left hji
        obtain ⟨w, w1, w2⟩ := h.new j o' d y ho' hj hlj hd hdl hy
        refine ⟨w, by rw [put_get_other fun e => hji (hw.uniq j i o' o d ho' ho hj hi hd e)]; exact w1, ?_⟩
        refine ment_rel hset (hw.ap i j o y ho hk hi hj (Ne.symm hji) (fun hin => ?_) hy) w2
        have := clo_listed h.down _ _ (fun e he => h.down j hlj e he) i hin
        rw [hnl] at this; cases this
    · by_cases hji : j = i
      · subst hji
        refine ⟨q, _, by rw [List.getElem?_set_self (by rw [h.tl]; exact hnb)], hny, fun ρ => flat_brel hfl hbq, fun hcq => ?_⟩
        have hge := hfq rfl hcq
        have hlt := hbq.lt rfl hcq
        have := h.lo
        omega
      · have hlj := (getD_set_f hlj).resolve_left hji
        obtain ⟨q', y', e1, e2, e3, e4⟩ := h.mks j o' ho' hj hlj hk'
        refine ⟨q', y', by rw [List.getElem?_set_ne fun e => hji (rankU_inj ops ho' hk' ho hk e.symm)]; exact e1, e2, fun ρ => (e3 ρ).same fun hlv hcq => hbel.block _ (e4 hcq).2, fun hcq => ?_⟩
        have := e4 hcq
        omega
    · have hlt : ∀ (j : Nat) (o' : Oper) (p : Place), ops[j]? = some o' → isMk o' = true → j < z → j ≠ i → (listed.setIfInBounds i true).getD j false = true → (τ.set (rankU ops i) q)[rankU ops j]? = some p → p.cap ≠ 0 → τ[rankU ops j]? = some p ∧ p.blk < W.heap.size := fun j o' p ho' hk' hj hji hlj hp hcp => by
        rw [List.getElem?_set_ne fun e => hji (rankU_inj ops ho' hk' ho hk e.symm)] at hp
        obtain ⟨q', y', e1, e2, e3, e4⟩ := h.mks j o' ho' hj ((getD_set_f hlj).resolve_left hji) hk'
        rw [hp] at e1; cases e1
        exact ⟨hp, (e4 hcp).2⟩
      have hqi : ∀ p : Place, (τ.set (rankU ops i) q)[rankU ops i]? = some p → p = q := fun p hp => by
        rw [List.getElem?_set_self (by rw [h.tl]; exact hnb)] at hp; cases hp; rfl
      by_cases e1 : j1 = i
      · by_cases e2 : j2 = i
        · exact absurd (e1.trans e2.symm) g13
        · subst e1
          have := hqi p1 g9
          subst this
          have h2 := hlt j2 o2 p2 g2 g8 g4 e2 g6 g10 g12
          have h1 := hfq rfl g11
          omega
      · have h1 := hlt j1 o1 p1 g1 g7 g3 e1 g5 g9 g11
        by_cases e2 : j2 = i
        · subst e2
          have := hqi p2 g10
          subst this
          have h2 := hfq rfl g12
          omega
        · have h2 := hlt j2 o2 p2 g2 g8 g4 e2 g6 g10 g12
          exact h.inj j1 j2 o1 o2 p1 p2 g1 g2 g3 g4 ((getD_set_f g5).resolve_left e1) ((getD_set_f g6).resolve_left e2) g7 g8 h1.1 h2.1 g11 g12 g13
  · -- a value
    have hCd := h.cls.roOf.deads τ
    refine op_wp (C := Cls (· < W.heap.size) W (ρ0 ++ τ) (roH st.heap ++ τ.map fun _ => Blk.dead)) (σ := st.slots) (evV_ok noC_ok (evV_mono (nb := τ.map fun _ => Blk.dead) hv) hs hCd) fun v W' hvr hC' => ?_
    have hbel := hC'.toBelow
    have hsz : W.heap.size ≤ W'.heap.size := hbel.size
    refine ⟨τ, ⟨by simpa using h.size, hdown, hhi, by rw [put_defers]; exact h.defers, by rw [put_size]; exact h.tsz, h.tl, h.cls.below hbel, Nat.le_trans h.lo hsz, hold v, fun j o' d y ho' hj hlj hd hdl hy => ?_, fun j o' ho' hj hlj hk' => ?_, fun j1 j2 o1 o2 p1 p2 g1 g2 g3 g4 g5 g6 g7 g8 g9 g10 g11 g12 g13 => ?_⟩⟩
    · by_cases hji : j = i
      · subst hji
        rw [ho] at ho'; cases ho'
        rw [hx] at hy; cases hy
        rw [hd]
        exact ⟨v, put_get_self (by rw [h.tsz]; exact hdl), hvr⟩
      · obtain ⟨w, w1, w2⟩ := h.new j o' d y ho' hj ((getD_set_f hlj).resolve_left hji) hd hdl hy
        exact ⟨w, by rw [put_get_other fun e => hji (hw.uniq j i o' o d ho' ho hj hi hd e)]; exact w1, w2⟩
    · have hji : j ≠ i := fun e => by subst e; rw [ho] at ho'; cases ho'; rw [hk] at hk'; cases hk'
      obtain ⟨q', y', e1, e2, e3, e4⟩ := h.mks j o' ho' hj ((getD_set_f hlj).resolve_left hji) hk'
      refine ⟨q', y', e1, e2, fun ρ => (e3 ρ).same fun hlv hcq => hbel.block _ (e4 hcq).2, fun hcq => ?_⟩
      have := e4 hcq
      omega
    · have n1 : j1 ≠ i := fun e => by subst e; rw [ho] at g1; cases g1; rw [hk] at g7; cases g7
      have n2 : j2 ≠ i := fun e => by subst e; rw [ho] at g2; cases g2; rw [hk] at g8; cases g8
      exact h.inj j1 j2 o1 o2 p1 p2 g1 g2 g3 g4 ((getD_set_f g5).resolve_left n1) ((getD_set_f g6).resolve_left n2) g7 g8 g9 g10 g11 g12 g13

theorem apartU_spec {ops : Array Oper} {z N : Nat} {xs : List AV} (h : apartU ops z N xs = true) (i j : Nat) (o : Oper) (x : AV) (ho : ops[i]? = some o) (hk : isMk o = true) (hi : i < z) (hj : j < z) (hij : i ≠ j) (hn : i ∉ cl .any ops j) (hx : xs[j]? = some x) : ment (N + rankU ops i) x = false := by
  unfold apartU at h
  rw [List.all_eq_true] at h
  have h1 := h i (List.mem_range.2 hi)
  rw [ho] at h1
  simp only [hk, Bool.not_true, Bool.false_or, List.all_eq_true] at h1
  have h2 := h1 j (List.mem_range.2 hj)
  simp only [Bool.or_eq_true, Bool.not_eq_true'] at h2
  rcases h2 with (h2 | h2) | h2
  · exact absurd (Nat.eq_of_beq_eq_true h2) hij
  · exact absurd (anyBeq.1 h2) hn
  · rwa [gt_some hx] at h2

/-- such a region -/
theorem regionU_ok (hm : P.follows .mixedOrders = true) {id : Nat} {ops : Array Oper} {Q : Exit → Act → World → Prop} {st st' : St} {l : List Oper} (h : evU P ops st = some (st', l, true)) {B : Nat} {ρ : List Place} {a : Act} {W : World}
    (hr : Rl B F W0 ρ st a W) (hl : ∀ ρ' a' W', ExtB B ρ ρ' → Rl B F W0 ρ' st' a' W' → wpK P ops Q (Q .normal) l a' W') : (Code.region id ops true).wp P Q a W := by
  unfold evU at h
  obtain ⟨hed, h⟩ := cond_some h
  split at h
  · rename_i xs nb ob hds
    obtain ⟨hap, h⟩ := cond_some h
    simp only [Option.some.injEq, Prod.mk.injEq] at h
    obtain ⟨rfl, rfl, rfl⟩ := h
    obtain ⟨hz, hsuf⟩ := sufFrom_spec (md := .any) (ops := ops) ops.size
    generalize hzz : sufFrom .any ops ops.size = z at *
    have hlen : (ops.toList.take z).length = z := by simp; omega
    obtain ⟨s1, s2, s3, s4, s5, s6⟩ := evUs_spec (ops.toList.take z) 0 st.slots [] nb xs (fun k hk => by
      rw [hlen] at hk
      rw [Nat.zero_add, List.getElem?_take, if_pos hk, Array.getElem?_toList]) (by simp [rankU]) hds
    rw [hlen] at s1 s2
    rw [Nat.zero_add] at s2
    rw [lenB_len] at hap
    have hw : UW P ops z st xs nb (putAll (ops.toList.take z) xs st.slots) := ⟨hz, s1, s2, rfl, fun j o x ho hj hx => by
        obtain ⟨x', q1, q2, q3, q4⟩ := s4 j o (opsT.2 ⟨hj, ho⟩)
        rw [hx] at q1; cases q1
        rw [Nat.zero_add] at q3 q4
        exact ⟨q2, q3, q4⟩, fun j m o o' d h1 h2 h3 h4 h5 h6 => s5 j m o o' d (opsT.2 ⟨h3, h1⟩) (opsT.2 ⟨h4, h2⟩) h5 h6,
      fun j m o o' w h1 h2 h3 h4 h5 => s6 j m o o' w (opsT.2 ⟨by omega, h1⟩) (opsT.2 ⟨h4, h2⟩) h3 h5, fun i j o x h1 h2 h3 h4 h5 h6 h7 => apartU_spec hap i j o x h1 h2 h3 h4 h5 h6 h7⟩
    have hedge : ∀ i, i < ops.size → ∀ e ∈ edgesOf .any ops i, e < i := fun i hi e he => by
      unfold edB at hed
      rw [List.all_eq_true] at hed
      have := hed i (List.mem_range.2 hi)
      rw [List.all_eq_true] at this
      simpa [Nat.blt_eq] using this e he
    have prog : ∀ (listed : Array Bool) (n : Nat), n < ops.size → listed.getD n true = false → (∀ j, j < n → listed.getD j false = true) → Region.ready .any ops listed ≠ [] := fun listed n hn hun hlow hnil => by
      have : n ∈ Region.ready .any ops listed := mem_ready.2 ⟨hun, ops[n], Array.getElem?_eq_getElem hn, fun e he hb => hlow _ (hedge n hn _ (edges_mem.2 ⟨_, Array.getElem?_eq_getElem hn, e, he, hb, rfl⟩))⟩
      rw [hnil] at this; cases this
    let W1 : World := { W with drawn := W.drawn + 1 }
    have hC1 : Cls F W0 ρ st.heap W1 := hr.c.drawn _
    have hlo : ∀ (listed : Array Bool) (n : Nat), listed.size = ops.size → n < ops.size → listed.getD n false = false → listed.getD n true = false := fun listed n hs hn h => by
      simp only [Array.getD_eq_getD_getElem?, Array.getElem?_eq_getElem (show n < listed.size by omega), Option.getD_some] at *
      exact h
    let I : Array Bool → Act → World → Prop := fun listed a' W' =>
      (∃ τ, ZI P ops z st xs nb F W0 W1 ρ listed a' W' τ) ∨
      (∃ n, z ≤ n ∧ n ≤ ops.size ∧ listed.size = ops.size ∧ Down .any ops listed ∧ (∀ j, j < n → listed.getD j false = true) ∧ (∀ j, n ≤ j → listed.getD j false = false) ∧ wpK P ops Q (Q .normal) (ops.toList.drop n) a' W')
    have toEnd : ∀ listed a' W' τ, ZI P ops z st xs nb F W0 W1 ρ listed a' W' τ → (∀ j, j < z → listed.getD j false = true) → wpK P ops Q (Q .normal) (ops.toList.drop z) a' W' := fun listed a' W' τ hd hall => by
      have hC := hd.done hz s2 hall hC1.fr.size (fun b x p hx hp hlv hc => hC1.rel.lt hx hp hlv hc) (fun k hk => Nat.lt_of_lt_of_le (hC1.low k hk) hC1.fr.size)
      have hE : Ext ρ (ρ ++ τ) := fun b p hp => by rw [List.getElem?_append_left (List.getElem?_eq_some_iff.1 hp).1]; exact hp
      refine hl (ρ ++ τ) a' W' hE.toB ⟨⟨by rw [hd.tsz, putAll_len], fun w y hy => ?_⟩, hd.defers, hC, Nat.le_trans hr.hB (by simp)⟩
      have hwl : w < st.slots.length := by have := (List.getElem?_eq_some_iff.1 hy).1; rwa [putAll_len] at this
      rcases putAll_get _ _ _ _ _ hy with ⟨m, o', h1, h2, h3⟩ | ⟨h1, h2⟩
      · obtain ⟨hmz, ho'⟩ := opsT.1 h1
        exact hd.new m o' w y ho' hmz (hall m hmz) h2 hwl h3
      · obtain ⟨v, v1, v2⟩ := hd.old w y h1 fun j o' ho' hj => h2 j o' (opsT.2 ⟨hj, ho'⟩) (by rw [s1]; exact hj)
        exact ⟨v, v1, v2.ext hE⟩
    have sufStep : ∀ n a' W' (K : Act → World → Prop), n < ops.size → wpK P ops Q (Q .normal) (ops.toList.drop n) a' W' → (∀ a2 W2, wpK P ops Q (Q .normal) (ops.toList.drop (n + 1)) a2 W2 → K a2 W2) → wpOp P ops Q n K a' W' := fun n a' W' K hn hk hK => by
      have hn' : n < ops.toList.length := by simpa using hn
      rw [List.drop_eq_getElem_cons hn'] at hk
      unfold wpOp
      simp only [Array.getElem?_eq_getElem hn]
      simp only [wpK, Array.getElem_toList] at hk
      split at hk
      · rename_i hwt
        rw [if_pos hwt]
        rcases hk with hk | hk
        · exact .inl (Oper.wp_mono hK hk)
        · exact .inr hk
      · rename_i hwt
        rw [if_neg hwt]
        exact hK _ _ hk
    have rep : ∀ j, (Array.replicate ops.size false).getD j false = false := fun j => by
      simp only [Array.getD_eq_getD_getElem?, Array.getElem?_replicate]
      split <;> rfl
    -- places before any slice is made
    obtain ⟨τ0, hτ0⟩ : ∃ τ0 : List Place, τ0.length = nb.length := ⟨List.replicate nb.length ⟨0, 0, 0, 0⟩, by simp⟩
    refine wp_region_any hm (wpAny_inv (I := I) ?_ ?_ _ _ _ _ (.inl ⟨τ0, ?_⟩) ?_)
    · rintro listed a' W' i (⟨τ, hd⟩ | ⟨n, n1, n2, n3, n4, n5, n6, n7⟩) hi
      · obtain ⟨hun, o, ho, _⟩ := mem_ready.1 hi
        have hio : i < ops.size := (Array.getElem?_eq_some_iff.1 ho).1
        rcases Nat.lt_or_ge i z with hiz | hiz
        · exact wpOp_mono (fun a2 W2 hh => .inl hh) (hd.step hw hiz hi)
        · have hcl : ∀ n ∈ cl .any ops i, listed.getD n false = true := clo_listed hd.down _ _ (ready_edges hi)
          have hall : ∀ j, j < i → listed.getD j false = true := fun j hj => hcl j (waitsAll_spec (hsuf i hiz hio) j hj)
          have hiz' : i = z := by
            rcases Nat.lt_or_ge z i with h | h
            · have := hall z h
              rw [hd.hi z (Nat.le_refl _)] at this; cases this
            · omega
          subst hiz'
          refine sufStep i a' W' _ hio (toEnd _ _ _ _ hd hall) fun a2 W3 hk => .inr ⟨i + 1, by omega, by omega, by simpa using hd.size, hd.down.step hi, fun j hj => ?_, fun j hj => ?_, hk⟩
          · by_cases hji : j = i
            · subst hji; exact getD_self (by rw [hd.size]; exact hio)
            · rw [getD_set_ne false (Ne.symm hji)]; exact hall j (by omega)
          · rw [getD_set_ne false (by omega)]; exact hd.hi j (by omega)
      · obtain ⟨hun, o, ho, _⟩ := mem_ready.1 hi
        have hio : i < ops.size := (Array.getElem?_eq_some_iff.1 ho).1
        have hin : i = n := by
          rcases Nat.lt_or_ge i n with h | h
          · exact (getD_both hun (n5 i h)).elim
          · rcases Nat.lt_or_ge n i with h' | h'
            · have hcl := clo_listed n4 _ _ (ready_edges hi) n (waitsAll_spec (hsuf i (by omega) hio) n h')
              rw [n6 n (Nat.le_refl _)] at hcl; cases hcl
            · omega
        subst hin
        refine sufStep i a' W' _ hio n7 fun a2 W3 hk => .inr ⟨i + 1, by omega, by omega, by simpa using n3, n4.step hi, fun j hj => ?_, fun j hj => ?_, hk⟩
        · by_cases hji : j = i
          · subst hji; exact getD_self (by rw [n3]; exact hio)
          · rw [getD_set_ne false (Ne.symm hji)]; exact n5 j (by omega)
        · rw [getD_set_ne false (by omega)]; exact n6 j (by omega)
    · rintro listed a' W' (⟨τ, hd⟩ | ⟨n, n1, n2, n3, n4, n5, n6, n7⟩) hnil
      · have hall : ∀ n, n ≤ z → ∀ j, j < n → listed.getD j false = true := fun n => by
          induction n with
          | zero => intro _ j hj; omega
          | succ n ih =>
            intro hn j hj
            by_cases hjn : j = n
            · subst hjn
              cases hg : listed.getD j false with
              | true => rfl
              | false => exact absurd hnil (prog listed j (by omega) (hlo listed j hd.size (by omega) hg) (ih (by omega)))
            · exact ih (by omega) j (by omega)
        have hk := toEnd _ _ _ _ hd (hall z (Nat.le_refl _))
        rcases Nat.lt_or_ge z ops.size with h | h
        · exact absurd hnil (prog listed z h (hlo listed z hd.size h (hd.hi z (Nat.le_refl _))) (hall z (Nat.le_refl _)))
        · rw [List.drop_eq_nil_of_le (by simpa using h)] at hk
          exact hk
      · rcases Nat.lt_or_ge n ops.size with h | h
        · exact absurd hnil (prog listed n h (hlo listed n n3 h (n6 n (Nat.le_refl _))) n5)
        · rw [List.drop_eq_nil_of_le (by simpa using h)] at n7
          exact n7
    · exact ⟨by simp, fun j hj => (by rw [rep] at hj; cases hj), fun j _ => rep j, hr.d, hr.s.len, hτ0, hC1, Nat.le_refl _, fun w x hx _ => hr.s.get w x hx, fun j _ _ _ _ _ hj => (by rw [rep] at hj; cases hj), fun j _ _ _ hj => (by rw [rep] at hj; cases hj), fun i j _ _ _ _ _ _ _ _ hi => (by rw [rep] at hi; cases hi)⟩
    · unfold unl
      exact Nat.le_trans List.countP_le_length (by simp)
  · cases h
end
end Go.Sx
