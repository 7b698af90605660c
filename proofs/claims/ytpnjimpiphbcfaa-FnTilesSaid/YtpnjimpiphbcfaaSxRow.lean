/- Drawn regions where all that makes or writes memory comes in one row: whatever order gives what the text's order gives. -/
import Derived.Test.YtpnjimpiphbcfaaSxMix
set_option linter.unusedSimpArgs false
set_option linter.unusedVariables false
namespace Go.Sx
open Go.RowKit

section
variable {P : Program} {F : Nat → Prop} {W0 : World} {ρ : List Place}

theorem lenB_len : ∀ H : List Blk, lenB H = H.length
  | [] => rfl
  | _ :: t => by simp [lenB, lenB_len t]
theorem slcB_some {x : AV} {b : Nat} (h : slcB x = some b) : ∃ r n, x = .slc b r n := by
  cases x <;> simp [slcB] at h
  subst h
  exact ⟨_, _, rfl⟩
theorem bsz_eq : ∀ (H : List Blk) (b : Nat), bsz H b = (H[b]?).bind fun x => match x with | .one _ l => some l.length | .rows _ _ sz _ => some sz | .dead => none
  | [], b => by simp [bsz]
  | .one w l :: t, 0 => by simp [bsz]
  | .rows w n sz f :: t, 0 => by simp [bsz]
  | .dead :: t, 0 => by simp [bsz]
  | .one w l :: t, b + 1 => by simp [bsz, bsz_eq t b]
  | .rows w n sz f :: t, b + 1 => by simp [bsz, bsz_eq t b]
  | .dead :: t, b + 1 => by simp [bsz, bsz_eq t b]

/-- an operation that looks at one block -/
theorem evV_rd {σ : List AV} {H H' : List Blk} {o : Oper} {b : Nat} (h : rdOf ⟨σ, H⟩ o = some b) (hb : H'[b]? = H[b]?) : evV P noC ⟨σ, H'⟩ o = evV P noC ⟨σ, H⟩ o := by
  obtain ⟨dst, op, type, pos, after, guard⟩ := o
  cases op <;> simp only [rdOf, reduceCtorEq] at h
  case load t x =>
    obtain ⟨r, off, hx⟩ := ptrB_some h
    unfold evV evV0
    simp only
    rw [litOp_heap σ H' H, ev_heap σ H' H, hx]
    simp only [loadA, rowOf_eq, hb]
  case indexAddr t x ix =>
    obtain ⟨r, n, hx⟩ := slcB_some h
    unfold evV evV0
    simp only
    rw [litOp_heap σ H' H, ev_heap σ H' H, hx]
    have e : bsz H' b = bsz H b := by rw [bsz_eq, bsz_eq, hb]
    cases hu : P.underlying t with
    | none => rfl
    | some d => cases d <;> first | rfl | (cases St.ev ⟨σ, H⟩ ix <;> first | rfl | simp only [e])
  case slice t x lo hi mx =>
    obtain ⟨r, n, hx⟩ := slcB_some h
    unfold evV evV0
    simp only
    rw [litOp_heap σ H' H, ev_heap σ H' H, hx]
    have e : bsz H' b = bsz H b := by rw [bsz_eq, bsz_eq, hb]
    have e2 : blkOf H' b = blkOf H b := by rw [blkOf_get, blkOf_get, hb]
    unfold sliceA
    cases hm : mx.isSome with
    | true => rfl
    | false =>
      cases hu : P.underlying t with
      | none => rfl
      | some d => cases d <;> first | rfl | simp only [e, e2]

theorem putRow_other {H H2 : List Blk} {b r o c : Nat} {cs : List AV} {ob : Bool} (h : putRow H b r o cs = some (H2, ob)) (hc : b ≠ c) : H2[c]? = H[c]? := by
  rw [putRow_eq] at h
  cases hb : H[b]? with
  | none => rw [hb] at h; cases h
  | some x =>
    rw [hb] at h
    simp only [Option.bind_some, Option.map_eq_some_iff] at h
    obtain ⟨y, _, e⟩ := h
    simp only [Prod.mk.injEq] at e
    obtain ⟨rfl, _⟩ := e
    exact List.getElem?_set_ne hc

/-- what an operation on memory does not write stays -/
theorem evH_tch {st : St} {o : Oper} {v : AV} {H' : List Blk} {ob : Bool} (h : evH P st o = some (v, H', ob)) {b : Nat} (hb : b < st.heap.length) (ht : tchO st o ≠ some b) : H'[b]? = st.heap[b]? := by
  have app1 : ∀ y : Blk, (st.heap ++ [y])[b]? = st.heap[b]? := fun y => List.getElem?_append_left hb
  have set1 : ∀ (c : Nat) (y : Blk), some c ≠ some b → (setB st.heap c y)[b]? = st.heap[b]? := fun c y hc => by
    rw [setB_eq, List.getElem?_set_ne (fun e => hc (by rw [e]))]
  have sa1 : ∀ (c : Nat) (y z : Blk), some c ≠ some b → (setB st.heap c y ++ [z])[b]? = st.heap[b]? := fun c y z hc => by
    rw [List.getElem?_append_left (by rw [setB_eq, List.length_set]; exact hb)]
    exact set1 c y hc
  obtain ⟨dst, op, type, pos, after, guard⟩ := o
  cases op <;> simp only [evH, reduceCtorEq] at h
  case alloc t =>
    split at h
    · split at h
      · simp only [Option.some.injEq, Prod.mk.injEq] at h; obtain ⟨_, rfl, _⟩ := h; exact app1 _
      · cases h
    · cases h
  case box t x =>
    split at h
    · simp only [Option.some.injEq, Prod.mk.injEq] at h; obtain ⟨_, rfl, _⟩ := h; exact app1 _
    · cases h
  case store t x y =>
    split at h
    · rename_i c r o l n ex hl hn
      obtain ⟨_, h'⟩ := cond_some h
      split at h'
      · rename_i H2 ob hput
        simp only [Option.some.injEq, Prod.mk.injEq] at h'
        obtain ⟨_, rfl, _⟩ := h'
        simp only [tchO, ex, ptrB] at ht
        exact putRow_other hput fun e => ht (by rw [e])
      · cases h'
    · cases h
  case convert s d x =>
    split at h
    · simp only [Option.some.injEq, Prod.mk.injEq] at h; obtain ⟨_, rfl, _⟩ := h; rfl
    · cases h
  case buildSlice t len parts =>
    split at h
    · split at h
      · split at h
        · obtain ⟨_, h'⟩ := cond_some h
          split at h'
          · obtain ⟨_, h'⟩ := cond_some h'
            simp only [Option.some.injEq, Prod.mk.injEq] at h'
            obtain ⟨_, rfl, _⟩ := h'
            exact app1 _
          · cases h'
        · cases h
      · cases h
    · cases h
  case makeSlice t l c =>
    unfold makeA at h
    split at h
    · simp only [Option.some.injEq, Prod.mk.injEq] at h; obtain ⟨_, rfl, _⟩ := h; exact app1 _
    · cases h
  case slice t x lo hi mx =>
    cases mx with
    | none => simp [evH] at h
    | some m =>
      cases m <;> simp only [evH, reduceCtorEq] at h
      · split at h
        · simp only [Option.some.injEq, Prod.mk.injEq] at h; obtain ⟨_, rfl, _⟩ := h; rfl
        · cases h
      unfold fullA at h
      split at h
      · obtain ⟨_, h⟩ := cond_some h
        simp only [Option.some.injEq, Prod.mk.injEq] at h; obtain ⟨_, rfl, _⟩ := h; exact app1 _
      · obtain ⟨_, h⟩ := cond_some h
        simp only [Option.some.injEq, Prod.mk.injEq] at h; obtain ⟨_, rfl, _⟩ := h; exact app1 _
      · cases h
  case call c =>
    obtain ⟨callee, args, argTypes⟩ := c
    simp only at h
    split at h
    · rename_i s x t u e2 e3
      obtain ⟨_, h⟩ := cond_some h
      simp only [tchO, e2] at ht
      unfold appendA at h
      split at h
      · rename_i c r n d q m _ e4 _
        simp only [e4, slcB] at ht
        split at h
        · obtain ⟨_, h⟩ := cond_some h
          cases hbc : Nat.beq c d with
          | true =>
            rw [hbc] at h
            simp only [cond_true, Option.some.injEq, Prod.mk.injEq] at h; obtain ⟨_, rfl, _⟩ := h; exact set1 _ _ ht
          | false =>
            rw [hbc] at h
            simp only [cond_false, Option.some.injEq, Prod.mk.injEq] at h; obtain ⟨_, rfl, _⟩ := h; exact sa1 _ _ _ ht
        · cases h
      · split at h
        · obtain ⟨_, h⟩ := cond_some h
          simp only [Option.some.injEq, Prod.mk.injEq] at h; obtain ⟨_, rfl, _⟩ := h; exact app1 _
        · cases h
      · rename_i c r n _ e4 _
        simp only [e4, slcB] at ht
        split at h
        · obtain ⟨_, h⟩ := cond_some h
          simp only [Option.some.injEq, Prod.mk.injEq] at h; obtain ⟨_, rfl, _⟩ := h; exact sa1 _ _ _ ht
        · cases h
      · cases h
    · rename_i d x t u e2 e3
      obtain ⟨_, h⟩ := cond_some h
      simp only [tchO, e2] at ht
      unfold copyA at h
      split at h
      · rename_i c r n d' q m _ e4 _
        simp only [e4, slcB] at ht
        split at h
        · obtain ⟨_, h⟩ := cond_some h
          simp only [Option.some.injEq, Prod.mk.injEq] at h; obtain ⟨_, rfl, _⟩ := h; exact set1 _ _ ht
        · cases h
      · cases h
    · rename_i d t e2 e3
      simp only [tchO, e2] at ht
      unfold clearA at h
      split at h
      · rename_i c r n _ e4
        simp only [e4, slcB] at ht
        split at h
        · obtain ⟨_, h⟩ := cond_some h
          simp only [Option.some.injEq, Prod.mk.injEq] at h; obtain ⟨_, rfl, _⟩ := h; exact set1 _ _ ht
        · cases h
      · cases h
    · cases h

/-- what an operation on memory comes to -/
def SY (P : Program) (σ : List AV) (H H' : List Blk) (o : Oper) (x : AV) : Prop :=
  ∀ F W0 ρ W (a : Act), Cls F W0 ρ H W → SRel ρ σ a.tmps → OkT P (fun u W' => ∃ ρ', Ext ρ ρ' ∧ Cls F W0 ρ' H' W' ∧ VRel ρ' x u) ((execOp a.eval o).run P W)

theorem okT_next {C : World → Prop} {V : Value → Prop} {Q : Value → World → Prop} {r : Result Next} (h : OkNext P C V r) (hQ : ∀ u w, V u → C w → Q u w) : OkT P Q r := by
  cases r with
  | halt h' w => exact h.elim
  | ok n w =>
    cases n with
    | value u => exact hQ _ _ h.2 h.1
    | skip => exact hQ _ _ h.2 h.1
    | enter f args => exact Calls.mono h fun e w ⟨v, he, hv, hc⟩ => ⟨v, he, hQ _ _ hv hc⟩
    | _ => exact h.elim

/-- the three kinds of operations -/
theorem evY1_ok {call : CallerT} (hcall : CallerTOk P call) {o : Oper} {σ : List AV} {H H' : List Blk} {v : AV} {K : YK} (h : evY1 P call o σ H = some (v, K, H', true)) :
    o.guard = none ∧
    ((K = .free ∧ H' = H ∧ evV P noC ⟨σ, []⟩ o = some (v, true)) ∨
     (∃ b, K = .rd b ∧ H' = H ∧ rdOf ⟨σ, H⟩ o = some b ∧ evV P noC ⟨σ, H⟩ o = some (v, true)) ∨
     (K.isM = true ∧ H.length ≤ H'.length ∧ (∀ b, K.hits (.rd b) = false → H'[b]? = H[b]?) ∧ SY P σ H H' o v)) := by
  unfold evY1 at h
  split at h
  · cases h
  · rename_i hg
    refine ⟨hg, ?_⟩
    split at h
    · rename_i fx args hco
      split at h
      · rename_i f first captured hfx
        obtain ⟨dst, op, type, pos, after, guard⟩ := o
        unfold callOf at hco
        cases op <;> simp only [reduceCtorEq] at hco
        rename_i c
        obtain ⟨callee, cargs, argTypes⟩ := c
        cases callee <;> simp only [reduceCtorEq, Option.some.injEq, Prod.mk.injEq] at hco
        rename_i f'
        obtain ⟨rfl, rfl⟩ := hco
        right; right
        have main : ∀ (t : Tr (AV × Option (List Blk))), call f (first ++ rawL ⟨σ, H⟩ cargs.toList ++ captured) H = some (t, true) →
            ∀ F W0 ρ W (a : Act), Cls F W0 ρ H W → SRel ρ σ a.tmps → OkT P (fun u W' => ∃ ρ', Ext ρ ρ' ∧ Cls F W0 ρ' (hp H t.get) W' ∧ VRel ρ' t.get.1 u ∧ Keep H (hp H t.get)) ((execOp a.eval ⟨dst, .call ⟨.value f', cargs, argTypes⟩, type, pos, after, guard⟩).run P W) := fun t ht F W0 ρ W a hC hs => by
          have hf := ev_rel (st := ⟨σ, H⟩) hs f'
          rw [hfx] at hf
          simp only [VRel] at hf
          obtain ⟨fs, cs, hf, h1, h2⟩ := hf
          have e : (fs.toList ++ List.map a.eval cargs.toList ++ cs.toList).toArray = fs ++ cargs.map a.eval ++ cs := by
            apply Array.ext'; simp
          have := hcall _ _ _ _ ht F W0 ρ W _ hC ((h1.append (rawL_rel (st := ⟨σ, H⟩) hs cargs.toList)).append h2)
          rw [e] at this
          simpa [execOp, resolve, hf, Deferred.ofValue, invoke] using this
        split at h
        · rename_i v' ob ht
          simp only [Option.some.injEq, Prod.mk.injEq] at h
          obtain ⟨rfl, rfl, rfl, rfl⟩ := h
          refine ⟨rfl, Nat.le_refl _, fun _ _ => rfl, fun F W0 ρ W a hC hs => (main _ ht F W0 ρ W a hC hs).mono fun u W' ⟨ρ', he, hc, hv, _⟩ => ⟨ρ', he, hc, hv⟩⟩
        · rename_i v' H2 ob ht
          obtain ⟨hle, h⟩ := cond_some h
          simp only [Option.some.injEq, Prod.mk.injEq] at h
          obtain ⟨rfl, rfl, rfl, rfl⟩ := h
          have hle := Nat.le_of_ble_eq_true hle
          rw [lenB_len, lenB_len] at hle
          refine ⟨rfl, hle, fun b hb => ?_, fun F W0 ρ W a hC hs => (main _ ht F W0 ρ W a hC hs).mono fun u W' ⟨ρ', he, hc, hv, _⟩ => ⟨ρ', he, hc, hv⟩⟩
          have hb : H2.length ≤ b := by
            rcases Nat.lt_or_ge b H2.length with h | h
            · have e1 : Nat.ble 0 b = true := by rw [Nat.ble_eq]; exact Nat.zero_le _
              have e2 : Nat.blt b H2.length = true := by rw [Nat.blt_eq]; exact h
              simp only [YK.hits, lenB_len, e1, e2, Bool.and_true, Bool.true_or] at hb
              cases hb
            · exact h
          rw [List.getElem?_eq_none hb, List.getElem?_eq_none (by omega)]
        · cases h
      · cases h
    · split at h
      · rename_i v' ob hv
        simp only [Option.some.injEq, Prod.mk.injEq] at h
        obtain ⟨rfl, rfl, rfl, rfl⟩ := h
        exact .inl ⟨rfl, rfl, hv⟩
      · split at h
        · rename_i v' ob b hv hrd
          simp only [Option.some.injEq, Prod.mk.injEq] at h
          obtain ⟨rfl, rfl, rfl, rfl⟩ := h
          exact .inr (.inl ⟨b, rfl, rfl, hrd, hv⟩)
        · split at h
          · rename_i v' H2 ob hv
            obtain ⟨hle, h⟩ := cond_some h
            simp only [Option.some.injEq, Prod.mk.injEq] at h
            obtain ⟨rfl, rfl, rfl, rfl⟩ := h
            have hle := Nat.le_of_ble_eq_true hle
            rw [lenB_len, lenB_len] at hle
            refine .inr (.inr ⟨rfl, hle, fun b hb => ?_, fun F W0 ρ W a hC hs => ?_⟩)
            · simp only [YK.hits, Bool.or_eq_false_iff, lenB_len] at hb
              obtain ⟨h1, h2⟩ := hb
              rcases Nat.lt_or_ge b H.length with hl | hl
              · refine evH_tch hv hl fun e => ?_
                rw [e] at h2
                simp [beqO] at h2
              · have : H2.length ≤ b := by
                  rcases Nat.lt_or_ge b H2.length with h | h
                  · have e1 : Nat.ble H.length b = true := by rw [Nat.ble_eq]; exact hl
                    have e2 : Nat.blt b H2.length = true := by rw [Nat.blt_eq]; exact h
                    rw [e1, e2] at h1; cases h1
                  · exact h
                rw [List.getElem?_eq_none this, List.getElem?_eq_none hl]
            · obtain ⟨ρ', he, hok⟩ := evH_ok (P := P) (a := a) hv hs hC
              exact okT_next hok fun u w hu hw => ⟨ρ', he, hw, hu⟩
          · cases h

theorem okY_spec {c : List Nat} {k : YK} : ∀ {ks : List (Nat × YK)}, okY c k ks = true → ∀ p ∈ ks, p.2.hits k = true → p.1 ∈ c
  | [], _, p, hp, _ => by cases hp
  | (n, x) :: t, h, p, hp, hh => by
    simp only [okY, Bool.and_eq_true, Bool.or_eq_true, Bool.not_eq_true'] at h
    rcases List.mem_cons.1 hp with rfl | hp
    · rcases h.1 with h1 | h1
      · rw [hh] at h1; cases h1
      · exact anyBeq.1 h1
    · exact okY_spec h.2 p hp hh

theorem evYs_spec {call : CallerT} {ops : Array Oper} : ∀ (l : List Oper) (i : Nat) (σ : List AV) (H Hn : List Blk) (ks : List (Nat × YK)) (xs : List AV), (∀ k, k < l.length → l[k]? = ops[i + k]?) →
    evYs P call ops i l σ H ks = some (xs, Hn, true) →
    xs.length = l.length ∧ ∃ (Hs : Nat → List Blk) (Ks : Nat → YK), Hs 0 = H ∧ Hs l.length = Hn ∧
    (∀ k o, l[k]? = some o → ∃ x, xs[k]? = some x ∧ evY1 P call o (maskK (opnd o) 0 (putAll l xs σ)) (Hs k) = some (x, Ks k, Hs (k + 1), true) ∧
      (∀ w ∈ opnd o, ∀ (n : Nat) (o' : Oper), n < i + k → ops[n]? = some o' → o'.dst = some w → n ∈ cl .any ops (i + k)) ∧
      (∀ p ∈ ks, p.2.hits (Ks k) = true → p.1 ∈ cl .any ops (i + k)) ∧ (∀ m, m < k → (Ks m).hits (Ks k) = true → i + m ∈ cl .any ops (i + k))) ∧
    (∀ (k m : Nat) o o' d, l[k]? = some o → l[m]? = some o' → o.dst = some d → o'.dst = some d → k = m) ∧
    (∀ (k m : Nat) o o' w, l[k]? = some o → l[m]? = some o' → k ≤ m → w ∈ opnd o → o'.dst ≠ some w)
  | [], i, σ, H, Hn, ks, xs, _, h => by
    simp only [evYs, Option.some.injEq, Prod.mk.injEq, and_true] at h
    obtain ⟨rfl, rfl⟩ := h
    exact ⟨rfl, fun _ => H, fun _ => .free, rfl, rfl, by simp, by simp, by simp⟩
  | o :: t, i, σ, H, Hn, ks, xs, hop, h => by
    simp only [evYs] at h
    obtain ⟨hc, h⟩ := cond_some h
    simp only [Bool.and_eq_true, List.all_eq_true, Bool.not_eq_true'] at hc
    obtain ⟨hc1', hc2⟩ := hc
    have hc1 : ∀ w ∈ opnd o, dstIn w (o :: t) = false := fun w hw => (hc1' w hw).1
    have hpr : ∀ w ∈ opnd o, ∀ (n : Nat) (o' : Oper), n < i → ops[n]? = some o' → o'.dst = some w → n ∈ cl .any ops i := fun w hw n o' hn ho' hd => prodB_spec (hc1' w hw).2 n o' hn ho' hd
    split at h
    · rename_i v k H' ob hv
      obtain ⟨hk, h⟩ := cond_some h
      split at h
      · rename_i xs' Hn' ob' hr
        simp only [Option.some.injEq, Prod.mk.injEq] at h
        obtain ⟨rfl, rfl, hob⟩ := h
        obtain ⟨rfl, rfl⟩ := andB_true hob
        obtain ⟨r1, Hs, Ks, r2, r3, r4, r5, r6⟩ := evYs_spec t (i + 1) (putD σ o v) H' Hn' ((i, k) :: ks) xs' (fun k hk => by have := hop (k + 1) (by simpa using hk); rw [show i + 1 + k = i + (k + 1) by omega]; simpa using this) hr
        have hmask : maskK (opnd o) 0 σ = maskK (opnd o) 0 (putAll t xs' (putD σ o v)) := by
          refine maskK_congr _ _ _ _ (by rw [putAll_len, putD_len]) fun j hj => ?_
          have hfree := dstIn_false (hc1 j (by simpa using hj))
          rw [putAll_keep t xs' _ j fun o' ho' => hfree o' (List.mem_cons_of_mem _ ho'), putD_other (hfree o List.mem_cons_self)]
        refine ⟨by simp [r1], fun n => match n with | 0 => H | n + 1 => Hs n, fun n => match n with | 0 => k | n + 1 => Ks n, rfl, by simpa using r3, fun k' o' hk' => ?_, fun k m o1 o2 d h1 h2 h3 h4 => ?_, fun k m o1 o2 w h1 h2 hkm hw => ?_⟩
        · cases k' with
          | zero =>
            simp at hk'
            subst hk'
            refine ⟨v, by simp, ?_, by simpa using hpr, fun p hp hh => okY_spec hk p hp hh, fun m hm => by omega⟩
            rw [hmask] at hv
            simp only [r2]
            exact hv
          | succ k' =>
            obtain ⟨x, q1, q2, q3, q4, q5⟩ := r4 k' o' (by simpa using hk')
            have e : i + 1 + k' = i + (k' + 1) := by omega
            rw [e] at q3 q4 q5
            refine ⟨x, by simpa using q1, q2, q3, fun p hp => q4 p (List.mem_cons_of_mem _ hp), fun m hm hh => ?_⟩
            cases m with
            | zero => exact q4 (i, k) List.mem_cons_self hh
            | succ m => have := q5 m (by omega) hh; rwa [show i + 1 + m = i + (m + 1) by omega] at this
        · have nod : ∀ (m : Nat) o2, t[m]? = some o2 → o.dst = some d → o2.dst = some d → False := fun m o2 hm e1 e2 => by
            rw [e1] at hc2
            simp only [Bool.not_eq_true'] at hc2
            exact dstIn_false hc2 o2 (List.mem_of_getElem? hm) e2
          cases k with
          | zero =>
            cases m with
            | zero => rfl
            | succ m => simp at h1 h2; subst h1; exact (nod m o2 h2 h3 h4).elim
          | succ k =>
            cases m with
            | zero => simp at h1 h2; subst h2; exact (nod k o1 h1 h4 h3).elim
            | succ m => rw [r5 k m o1 o2 d (by simpa using h1) (by simpa using h2) h3 h4]
        · cases k with
          | zero =>
            simp at h1
            subst h1
            exact dstIn_false (hc1 w hw) o2 (List.mem_of_getElem? h2)
          | succ k =>
            cases m with
            | zero => omega
            | succ m => exact r6 k m o1 o2 w (by simpa using h1) (by simpa using h2) (by omega) hw
      · cases h
    · cases h

/-- what holds on the way through such a region -/
structure YI (P : Program) (ops : Array Oper) (st : St) (xs : List AV) (Hs : Nat → List Blk) (Ks : Nat → YK) (F : Nat → Prop) (W0 : World) (ρ0 : List Place) (listed : Array Bool) (a : Act) (W : World) (ρ : List Place) (p : Nat) : Prop where
  size : listed.size = ops.size
  down : Down .any ops listed
  defers : a.defers = []
  tsz : a.tmps.size = st.slots.length
  ext : Ext ρ0 ρ
  old : ∀ (w : Nat) (x : AV), st.slots[w]? = some x → (∀ (j : Nat) (o : Oper), ops[j]? = some o → o.dst ≠ some w) → ∃ v, a.tmps[w]? = some v ∧ VRel ρ x v
  new : ∀ (j : Nat) (o : Oper) (d : Nat) (x : AV), ops[j]? = some o → listed.getD j false = true → o.dst = some d → d < st.slots.length → xs[j]? = some x → ∃ v, a.tmps[d]? = some v ∧ VRel ρ x v
  ple : p ≤ ops.size
  lo : ∀ i, i < p → (Ks i).isM = true → listed.getD i false = true
  hi : ∀ i, p ≤ i → i < ops.size → (Ks i).isM = true → listed.getD i false = false
  cls : Cls F W0 ρ (Hs p) W

theorem YK.hits_symm (x y : YK) : x.hits y = y.hits x := by cases x <;> cases y <;> rfl

theorem regionY_ok {call : CallerT} (hcall : CallerTOk P call) (hm : P.follows .mixedOrders = true) {id : Nat} {ops : Array Oper} {Q : Exit → Act → World → Prop} {st st' : St} (h : evY P call ops st = some (st', true)) {B : Nat} {a : Act} {W : World}
    (hr : Rl B F W0 ρ st a W) (hQ : ∀ ρ' a' W', ExtB B ρ ρ' → Rl B F W0 ρ' st' a' W' → Q .normal a' W') : (Code.region id ops true).wp P Q a W := by
  unfold evY at h
  obtain ⟨hed, h⟩ := cond_some h
  split at h
  · rename_i xs Hn ob hxs
    simp only [Option.some.injEq, Prod.mk.injEq] at h
    obtain ⟨rfl, rfl⟩ := h
    obtain ⟨s1, Hs, Ks, s2, s3, s4, s5, s6⟩ := evYs_spec ops.toList 0 st.slots st.heap Hn [] xs (fun k hk => by simp) hxs
    have hn : ops.toList.length = ops.size := by simp
    rw [hn] at s1 s3
    generalize hσ : putAll ops.toList xs st.slots = σf at *
    have hlen : σf.length = st.slots.length := by rw [← hσ, putAll_len]
    have tl : ∀ {j : Nat} {o : Oper}, ops[j]? = some o → ops.toList[j]? = some o := fun h => by simpa using h
    have fact : ∀ (j : Nat) (o : Oper), ops[j]? = some o → ∃ x, xs[j]? = some x ∧ evY1 P call o (maskK (opnd o) 0 σf) (Hs j) = some (x, Ks j, Hs (j + 1), true) ∧
        (∀ w ∈ opnd o, ∀ (n : Nat) (o' : Oper), n < j → ops[n]? = some o' → o'.dst = some w → n ∈ cl .any ops j) ∧ ∀ m, m < j → (Ks m).hits (Ks j) = true → m ∈ cl .any ops j := fun j o ho => by
      obtain ⟨x, q1, q2, q3, _, q5⟩ := s4 j o (tl ho)
      simp only [Nat.zero_add] at q3 q5
      exact ⟨x, q1, q2, q3, q5⟩
    have hedge : ∀ i, i < ops.size → ∀ e ∈ edgesOf .any ops i, e < i := fun i hi e he => by
      unfold edB at hed
      rw [List.all_eq_true] at hed
      have := hed i (List.mem_range.2 hi)
      rw [List.all_eq_true] at this
      simpa [Nat.blt_eq] using this e he
    have prog : ∀ (listed : Array Bool) (n : Nat), n < ops.size → listed.getD n true = false → (∀ j, j < n → listed.getD j false = true) → Region.ready .any ops listed ≠ [] := fun listed n hn hun hlow hnil => by
      have : n ∈ Region.ready .any ops listed := mem_ready.2 ⟨hun, ops[n], Array.getElem?_eq_getElem hn, fun e he hb => hlow _ (hedge n hn _ (edges_mem.2 ⟨_, Array.getElem?_eq_getElem hn, e, he, hb, rfl⟩))⟩
      rw [hnil] at this; cases this
    have hlo : ∀ (listed : Array Bool) (n : Nat), listed.size = ops.size → n < ops.size → listed.getD n false = false → listed.getD n true = false := fun listed n hs hn h => by
      simp only [Array.getD_eq_getD_getElem?, Array.getElem?_eq_getElem (show n < listed.size by omega), Option.getD_some] at *
      exact h
    -- memory along the text
    have quiet : ∀ j, j < ops.size → (Ks j).isM = false → Hs (j + 1) = Hs j := fun j hj hM => by
      obtain ⟨x, _, q2, _⟩ := fact j ops[j] (Array.getElem?_eq_getElem hj)
      rcases (evY1_ok hcall q2).2 with ⟨_, e, _⟩ | ⟨b, _, e, _⟩ | ⟨e, _⟩
      · exact e
      · exact e
      · rw [hM] at e; cases e
    have still1 : ∀ j, j < ops.size → ∀ b, ((Ks j).isM = true → (Ks j).hits (.rd b) = false) → (Hs (j + 1))[b]? = (Hs j)[b]? := fun j hj b hb => by
      obtain ⟨x, _, q2, _⟩ := fact j ops[j] (Array.getElem?_eq_getElem hj)
      rcases (evY1_ok hcall q2).2 with ⟨_, e, _⟩ | ⟨b, _, e, _⟩ | ⟨e, _, hs, _⟩
      · rw [e]
      · rw [e]
      · exact hs b (hb e)
    have quietD : ∀ j d, j + d ≤ ops.size → (∀ i, j ≤ i → i < j + d → (Ks i).isM = false) → Hs (j + d) = Hs j := fun j d => by
      induction d with
      | zero => intro _ _; rfl
      | succ d ih =>
        intro hd hno
        rw [← ih (by omega) fun i h1 h2 => hno i h1 (by omega), ← Nat.add_assoc]
        exact quiet (j + d) (by omega) (hno (j + d) (by omega) (by omega))
    have still : ∀ (b j d : Nat), j + d ≤ ops.size → (∀ i, j ≤ i → i < j + d → (Ks i).isM = true → (Ks i).hits (.rd b) = false) → (Hs (j + d))[b]? = (Hs j)[b]? := fun b j d => by
      induction d with
      | zero => intro _ _; rfl
      | succ d ih =>
        intro hd hno
        rw [← ih (by omega) fun i h1 h2 => hno i h1 (by omega), ← Nat.add_assoc]
        exact still1 (j + d) (by omega) b (hno (j + d) (by omega) (by omega))
    have notF : ∀ {b : Bool}, b ≠ true → b = false := fun {b} h => by cases b <;> simp_all
    refine wp_region_any hm (wpAny_inv (I := fun listed a' W' => ∃ ρ' p, YI P ops st xs Hs Ks F W0 ρ listed a' W' ρ' p) ?_ ?_ _ _ _ _ ?_ ?_)
    · -- a step
      rintro listed a' W' i ⟨ρ1, p, hI⟩ hi
      obtain ⟨hun, o, ho, _⟩ := mem_ready.1 hi
      have hio : i < ops.size := (Array.getElem?_eq_some_iff.1 ho).1
      have hisz : i < listed.size := by rw [hI.size]; exact hio
      have hcl : ∀ n ∈ cl .any ops i, listed.getD n false = true := clo_listed hI.down _ _ (ready_edges hi)
      have hnl : listed.getD i false = false := getD_false hisz hun
      obtain ⟨x, hx, q2, q3, q5⟩ := fact i o ho
      obtain ⟨hg, hkind⟩ := evY1_ok hcall q2
      have hs : SRel ρ1 (maskK (opnd o) 0 σf) a'.tmps := by
        refine ⟨by rw [maskK_len, hI.tsz, hlen], fun w y hy => ?_⟩
        rcases maskK_get _ _ _ _ _ hy with ⟨rfl, hlt⟩ | ⟨hwo, hs⟩
        · exact ⟨a'.tmps[w]'(by rw [hI.tsz, ← hlen]; exact hlt), Array.getElem?_eq_getElem _, by simp [VRel]⟩
        · rw [Nat.zero_add] at hwo
          have hwl : w < st.slots.length := by rw [← hlen]; exact (List.getElem?_eq_some_iff.1 hs).1
          rw [← hσ] at hs
          rcases putAll_get _ _ _ _ _ hs with ⟨m, o', h1, h2, h3⟩ | ⟨h1, h2⟩
          · have ho' : ops[m]? = some o' := by simpa using h1
            rcases Nat.lt_or_ge m i with hl | hl
            · exact hI.new m o' w y ho' (hcl m (q3 w hwo m o' hl ho' h2)) h2 hwl h3
            · exact absurd h2 (s6 i m o o' w (tl ho) h1 hl hwo)
          · exact hI.old w y h1 fun j o' ho' => h2 j o' (tl ho') (by rw [s1]; exact (Array.getElem?_eq_some_iff.1 ho').1)
      -- a later operation that this one hits has not been done
      have later : ∀ m, i < m → m < ops.size → (Ks m).hits (Ks i) = true → listed.getD m false = false := fun m h1 h2 hh => by
        cases hg' : listed.getD m false with
        | false => rfl
        | true =>
          obtain ⟨_, _, _, _, q5'⟩ := fact m ops[m] (Array.getElem?_eq_getElem h2)
          have hin : i ∈ cl .any ops m := q5' i h1 (by rw [YK.hits_symm]; exact hh)
          have := clo_listed hI.down _ _ (hI.down m hg') i hin
          rw [hnl] at this; cases this
      have hwant : Region.wanted o (yielded ops a'.tmps) = true := by unfold Region.wanted; rw [hg]
      unfold wpOp
      simp only [ho]
      rw [if_pos hwant]
      left
      -- slots behind the operation
      have hold : ∀ (v : Value) (ρ' : List Place), Ext ρ1 ρ' → ∀ (w : Nat) (y : AV), st.slots[w]? = some y → (∀ (j : Nat) (o : Oper), ops[j]? = some o → o.dst ≠ some w) → ∃ u, (a'.put o.dst v).tmps[w]? = some u ∧ VRel ρ' y u := fun v ρ' he w y hy hd => by
        obtain ⟨u, h1, h2⟩ := hI.old w y hy hd
        exact ⟨u, by rw [put_get_other (hd i o ho)]; exact h1, h2.ext he⟩
      have hnew : ∀ (v : Value) (ρ' : List Place), Ext ρ1 ρ' → VRel ρ' x v → ∀ (j : Nat) (o' : Oper) (d : Nat) (y : AV), ops[j]? = some o' → (listed.setIfInBounds i true).getD j false = true → o'.dst = some d → d < st.slots.length → xs[j]? = some y → ∃ u, (a'.put o.dst v).tmps[d]? = some u ∧ VRel ρ' y u := fun v ρ' he hv j o' d y ho' hl hd hdl hy => by
        by_cases hji : j = i
        · subst hji
          rw [ho] at ho'; cases ho'
          rw [hx] at hy; cases hy
          rw [hd]
          exact ⟨v, put_get_self (by rw [hI.tsz]; exact hdl), hv⟩
        · rcases getD_set_f hl with e | hl
          · exact absurd e hji
          · obtain ⟨u, h1, h2⟩ := hI.new j o' d y ho' hl hd hdl hy
            refine ⟨u, ?_, h2.ext he⟩
            rw [put_get_other fun e => hji (s5 j i o' o d (tl ho') (tl ho) hd e)]
            exact h1
      -- an operation on values
      have value : (Ks i).isM = false → evV P noC ⟨maskK (opnd o) 0 σf, Hs p⟩ o = some (x, true) →
          o.wp P a' W' (fun a' W' => ∃ ρ' p, YI P ops st xs Hs Ks F W0 ρ (listed.setIfInBounds i true) a' W' ρ' p) Q := fun hM hv => by
        refine op_wp (C := Cls F W0 ρ1 (Hs p)) (σ := st.slots) (evV_ok noC_ok hv hs hI.cls) fun v W2 hv hW2 => ⟨ρ1, p, by simpa using hI.size, hI.down.step hi, by rw [put_defers]; exact hI.defers, by rw [put_size]; exact hI.tsz, hI.ext, hold v ρ1 (Ext.refl _), hnew v ρ1 (Ext.refl _) hv, hI.ple, fun j hj hjM => ?_, fun j h1 h2 hjM => ?_, hW2⟩
        · have hji : i ≠ j := fun e => by subst e; rw [hM] at hjM; cases hjM
          rw [getD_set_ne false hji]; exact hI.lo j hj hjM
        · have hji : i ≠ j := fun e => by subst e; rw [hM] at hjM; cases hjM
          rw [getD_set_ne false hji]; exact hI.hi j h1 h2 hjM
      rcases hkind with ⟨hK, _, hv⟩ | ⟨b, hK, _, hrd, hv⟩ | ⟨hM, hle, _, hSY⟩
      · refine value (by rw [hK]; rfl) ?_
        have := evV_mono (nb := Hs p) hv
        simpa using this
      · refine value (by rw [hK]; rfl) ?_
        have same : (Hs p)[b]? = (Hs i)[b]? := by
          rcases Nat.lt_or_ge i p with hl | hl
          · obtain ⟨d, rfl⟩ : ∃ d, p = i + d := ⟨p - i, by omega⟩
            refine still b i d hI.ple fun m h1 h2 hmM => notF fun hh => ?_
            have hmi : m ≠ i := fun e => by subst e; rw [hK] at hmM; cases hmM
            have := later m (by omega) (by have := hI.ple; omega) (by rw [hK]; exact hh)
            rw [hI.lo m h2 hmM] at this; cases this
          · obtain ⟨d, rfl⟩ : ∃ d, i = p + d := ⟨i - p, by omega⟩
            refine (still b p d (by omega) fun m h1 h2 hmM => notF fun hh => ?_).symm
            have := hcl m (q5 m h2 (by rw [hK]; exact hh))
            rw [hI.hi m h1 (by omega) hmM] at this; cases this
        rw [evV_rd hrd same]
        exact hv
      · -- an operation on memory
        have hMM : ∀ m, (Ks m).isM = true → (Ks m).hits (Ks i) = true := fun m hm => by
          revert hm hM
          cases Ks m <;> cases Ks i <;> simp [YK.isM, YK.hits]
        have hpi : p ≤ i := by
          rcases Nat.lt_or_ge i p with hl | hl
          · have := hI.lo i hl hM
            rw [hnl] at this; cases this
          · exact hl
        have hHp : Hs i = Hs p := by
          obtain ⟨d, rfl⟩ : ∃ d, i = p + d := ⟨i - p, by omega⟩
          refine quietD p d (by omega) fun m h1 h2 => notF fun hmM => ?_
          have := hcl m (q5 m h2 (hMM m hmM))
          rw [hI.hi m h1 (by omega) hmM] at this; cases this
        rw [hHp] at hSY
        refine opT_wp (hSY F W0 ρ1 W' a' hI.cls hs) ?_
        rintro v W2 ⟨ρ2, he, hC2, hv⟩
        refine ⟨ρ2, i + 1, by simpa using hI.size, hI.down.step hi, by rw [put_defers]; exact hI.defers, by rw [put_size]; exact hI.tsz, hI.ext.trans he, hold v ρ2 he, hnew v ρ2 he hv, hio, fun j hj hjM => ?_, fun j h1 h2 hjM => ?_, hC2⟩
        · by_cases hji : i = j
          · subst hji; exact getD_self hisz
          · rw [getD_set_ne false hji]
            exact hcl j (q5 j (by omega) (hMM j hjM))
        · rw [getD_set_ne false (by omega)]
          exact hI.hi j (by omega) h2 hjM
    · -- nothing left
      rintro listed a' W' ⟨ρ1, p, hI⟩ hnil
      have hall : ∀ n, n ≤ ops.size → ∀ j, j < n → listed.getD j false = true := fun n => by
        induction n with
        | zero => intro _ j hj; omega
        | succ n ih =>
          intro hn j hj
          by_cases hjn : j = n
          · subst hjn
            cases hg : listed.getD j false with
            | true => rfl
            | false => exact absurd hnil (prog listed j (by omega) (hlo listed j hI.size (by omega) hg) (ih (by omega)))
          · exact ih (by omega) j (by omega)
      have hall := hall ops.size (Nat.le_refl _)
      have hHn : Hs p = Hn := by
        rw [← s3]
        obtain ⟨d, hd⟩ : ∃ d, ops.size = p + d := ⟨ops.size - p, by have := hI.ple; omega⟩
        rw [hd]
        refine (quietD p d (by omega) fun m h1 h2 => notF fun hmM => ?_).symm
        have := hI.hi m h1 (by omega) hmM
        rw [hall m (by omega)] at this; cases this
      have hC := hI.cls
      rw [hHn] at hC
      refine hQ ρ1 a' W' hI.ext.toB ⟨⟨by rw [hI.tsz, hlen], fun w y hy => ?_⟩, hI.defers, hC, ?_⟩
      · have hwl : w < st.slots.length := by rw [← hlen]; exact (List.getElem?_eq_some_iff.1 hy).1
        rw [← hσ] at hy
        rcases putAll_get _ _ _ _ _ hy with ⟨m, o', h1, h2, h3⟩ | ⟨h1, h2⟩
        · have ho' : ops[m]? = some o' := by simpa using h1
          exact hI.new m o' w y ho' (hall m (Array.getElem?_eq_some_iff.1 ho').1) h2 hwl h3
        · exact hI.old w y h1 fun j o' ho' => h2 j o' (tl ho') (by rw [s1]; exact (Array.getElem?_eq_some_iff.1 ho').1)
      · exact Nat.le_trans hr.hB (hr.c.keep hI.ext hC)
    · -- at the start
      have rep : ∀ j, (Array.replicate ops.size false).getD j false = false := fun j => by
        simp only [Array.getD_eq_getD_getElem?, Array.getElem?_replicate]
        split <;> rfl
      exact ⟨ρ, 0, by simp, fun j hj => (by rw [rep] at hj; cases hj), hr.d, hr.s.len, Ext.refl ρ, fun w x hx _ => hr.s.get w x hx, fun j o d x _ hj => (by rw [rep] at hj; cases hj), Nat.zero_le _, fun i hi => absurd hi (Nat.not_lt_zero i), fun i _ _ _ => rep i, by rw [s2]; exact hr.c.drawn _⟩
    · unfold unl
      exact Nat.le_trans List.countP_le_length (by simp)
  · cases h

-- slots told anew
theorem deqA_eq {x y : AV} (h : deqA x y = true) : x = y := @of_decide_eq_true _ (Classical.propDecidable _) h
theorem deqA_self (x : AV) : deqA x x = true := @decide_eq_true _ (Classical.propDecidable _) rfl
/-- a cell told anew -/
theorem BRel.cell {W : World} {p : Place} {w : Bool} {l : List AV} {o : Nat} {v : AV} (h : BRel ρ W p (.one w l)) (e : delit (gt l o) = delit v) : BRel ρ W p (.one w (pt l o v)) := by
  obtain ⟨cs, ty, fz, hb, h1, h2, h3, h4⟩ := h
  refine ⟨cs, ty, fz, hb, h1, by rw [pt_len]; exact h2, h3, fun j x hj => ?_⟩
  rw [pt_get] at hj
  split at hj
  · rename_i hc
    obtain ⟨rfl, hlt⟩ := hc
    cases hj
    obtain ⟨u, hu, hur⟩ := h4 o l[o] (List.getElem?_eq_getElem hlt)
    refine ⟨u, hu, delit_iff.1 ?_⟩
    rw [← e, gt_some (List.getElem?_eq_getElem hlt)]
    exact delit_iff.2 hur
  · exact h4 j x hj
theorem Cls.cell {H : List Blk} {W : World} (h : Cls F W0 ρ H W) {b : Nat} {w : Bool} {l : List AV} {o : Nat} {v : AV} (hb : H[b]? = some (.one w l)) (e : delit (gt l o) = delit v) : Cls F W0 ρ (H.set b (.one w (pt l o v))) W := by
  have get : ∀ c y, (H.set b (.one w (pt l o v)))[c]? = some y → (c = b ∧ y = .one w (pt l o v)) ∨ H[c]? = some y := fun c y hy => by
    rw [List.getElem?_set] at hy
    split at hy
    · rename_i hbc
      split at hy
      · simp at hy; exact .inl ⟨hbc.symm, hy.symm⟩
      · cases hy
    · exact .inr hy
  refine ⟨⟨by simp [h.rel.len], fun c y q hy hq => ?_, fun c d y z q r hne hy hz hq hr hw hl => ?_⟩, h.fr, h.low, fun c y q hy hq hw => ?_⟩
  · rcases get c y hy with ⟨rfl, rfl⟩ | hy
    · exact (h.rel.blk c _ q hb hq).cell e
    · exact h.rel.blk c y q hy hq
  · rcases get c y hy with ⟨e1, e2⟩ | hy'
    · rcases get d z hz with ⟨e3, e4⟩ | hz'
      · exact absurd (e1.trans e3.symm) hne
      · subst e1 e2
        exact h.rel.apart c d _ z q r hne hb hz' hq hr hw hl
    · rcases get d z hz with ⟨e3, e4⟩ | hz'
      · subst e3 e4
        exact h.rel.apart c d y _ q r hne hy' hb hq hr hw rfl
      · exact h.rel.apart c d y z q r hne hy' hz' hq hr hw hl
  · rcases get c y hy with ⟨rfl, rfl⟩ | hy
    · exact h.free c _ q hb hq hw
    · exact h.free c y q hy hq hw
theorem rwSt_ok {B : Nat} : ∀ (n : Nat) (l : List AV) (st st' : St), l.length ≤ n → rwSt l st = some (st', true) → ∀ {ρ : List Place} {a : Act} {W : World}, Rl B F W0 ρ st a W → Rl B F W0 ρ st' a W
  | 0, l, st, st', hl, h, ρ, a, W, hr => by
    have : l = [] := List.eq_nil_of_length_eq_zero (by omega)
    subst this
    unfold rwSt at h
    simp only [Option.some.injEq, Prod.mk.injEq, and_true] at h; subst h; exact hr
  | n + 1, l, st, st', hl, h, ρ, a, W, hr => by
    unfold rwSt at h
    split at h
    · rename_i k s v t
      split at h
      · rename_i st2 ob h2
        simp only [Option.some.injEq, Prod.mk.injEq] at h
        obtain ⟨rfl, hob⟩ := h
        obtain ⟨hd, rfl⟩ := andB_true hob
        refine rwSt_ok n t _ _ (by simp at hl; omega) h2 ⟨⟨by rw [pt_len]; exact hr.s.len, fun i y hy => ?_⟩, hr.d, hr.c, hr.hB⟩
        simp only [pt_get] at hy
        split at hy
        · rename_i hc
          obtain ⟨rfl, hlt⟩ := hc
          cases hy
          obtain ⟨u, hu, hur⟩ := hr.s.get s st.slots[s] (List.getElem?_eq_getElem hlt)
          refine ⟨u, hu, delit_iff.1 ?_⟩
          rw [← deqA_eq hd, gt_some (List.getElem?_eq_getElem hlt)]
          exact delit_iff.2 hur
        · exact hr.s.get i y hy
      · cases h
    · rename_i b r o v t
      split at h
      · rename_i w l hb
        split at h
        · rename_i st2 ob h2
          simp only [Option.some.injEq, Prod.mk.injEq] at h
          obtain ⟨rfl, hob⟩ := h
          obtain ⟨hd, rfl⟩ := andB_true hob
          rw [blkOf_get] at hb
          refine rwSt_ok n t _ _ (by simp at hl; omega) h2 ⟨hr.s, hr.d, ?_, ?_⟩
          · simp only [setB_eq]; exact hr.c.cell hb (deqA_eq hd)
          · simp only [setB_eq, List.length_set]; exact hr.hB
        · cases h
      · cases h
    · simp only [Option.some.injEq, Prod.mk.injEq, and_true] at h; subst h; exact hr
    · cases h
end
end Go.Sx
