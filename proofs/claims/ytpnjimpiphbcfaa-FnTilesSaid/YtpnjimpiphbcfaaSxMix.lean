/- Drawn regions that load and store in memory that was there: whatever order gives what the text's order gives. -/
import Derived.Test.YtpnjimpiphbcfaaSxDraw
set_option linter.unusedSimpArgs false
set_option linter.unusedVariables false
namespace Go.Sx
open Go.RowKit

section
variable {P : Program} {F : Nat → Prop} {W0 : World} {ρ : List Place}

theorem junkL_get : ∀ {l : List AV} {j : Nat} {x : AV}, (junkL l)[j]? = some x → x = .junk ∧ j < l.length
  | [], j, x, h => by simp [junkL] at h
  | y :: t, 0, x, h => by simp [junkL] at h; exact ⟨h.symm, by simp⟩
  | y :: t, j + 1, x, h => by
    simp only [junkL, List.getElem?_cons_succ] at h
    obtain ⟨h1, h2⟩ := junkL_get h
    exact ⟨h1, by simpa using h2⟩
theorem junkL_len : ∀ l : List AV, (junkL l).length = l.length
  | [] => rfl
  | _ :: t => by simp [junkL, junkL_len t]
theorem BRel.shp {W : World} {p : Place} {x : Blk} (h : BRel ρ W p x) : BRel ρ W p x.shp := by
  cases x with
  | dead => trivial
  | one w l =>
    obtain ⟨cs, ty, fz, hb, h1, h2, h3, h4⟩ := h
    refine ⟨cs, ty, fz, hb, by simp, by rw [junkL_len]; exact h2, h3, fun j x hj => ?_⟩
    obtain ⟨rfl, hl⟩ := junkL_get hj
    obtain ⟨v, hv, _⟩ := h4 j l[j] (List.getElem?_eq_getElem hl)
    exact ⟨v, hv, by simp [VRel]⟩
  | rows w n sz f =>
    obtain ⟨h1, h2, h⟩ := h
    refine ⟨h1, h2, fun hc => ?_⟩
    obtain ⟨cs, ty, fz, hb, _, h4, h6, h5⟩ := h hc
    exact ⟨cs, ty, fz, hb, by simp, h4, h6, fun i hi j x hj => by simp at hj⟩
theorem shp_wr (x : Blk) : x.shp.wr = false := by cases x <;> rfl
theorem shpH_get : ∀ (H : List Blk) (b : Nat), (shpH H)[b]? = (H[b]?).map Blk.shp
  | [], b => by simp [shpH]
  | x :: t, 0 => by simp [shpH]
  | x :: t, b + 1 => by simp [shpH, shpH_get t b]
theorem shpH_len : ∀ H : List Blk, (shpH H).length = H.length
  | [] => rfl
  | _ :: t => by simp [shpH, shpH_len t]

theorem Cls.frozen {H : List Blk} {W : World} (h : Cls F W0 ρ H W) : Cls (· < W.heap.size) W ρ (shpH H) W := by
  have get : ∀ (b : Nat) (x : Blk), (shpH H)[b]? = some x → x.wr = false := fun b x hx => by
    rw [shpH_get] at hx
    cases hb : H[b]? with
    | none => rw [hb] at hx; cases hx
    | some y => rw [hb] at hx; cases hx; exact shp_wr y
  refine ⟨⟨by rw [shpH_len]; exact h.rel.len, fun b x p hx hp => ?_, fun b c x y p q _ hx _ _ _ hw => ?_⟩, ⟨rfl, rfl, rfl, Nat.le_refl _, fun _ _ => rfl⟩, fun k hk => hk, fun b x p hx hp hw => ?_⟩
  · rw [shpH_get] at hx
    cases hb : H[b]? with
    | none => rw [hb] at hx; cases hx
    | some y => rw [hb] at hx; cases hx; exact (h.rel.blk b y p hb hp).shp
  · rw [get b x hx] at hw; cases hw
  · rw [get b x hx] at hw; cases hw

theorem okNext_monoC {C C' : World → Prop} {V : Value → Prop} {r : Result Next} (h : OkNext P C V r) (hC : ∀ W, C W → C' W) : OkNext P C' V r := by
  cases r with
  | halt h' w => exact h.elim
  | ok n w =>
    cases n with
    | value u => exact ⟨hC _ h.1, h.2⟩
    | skip => exact ⟨hC _ h.1, h.2⟩
    | enter f args => exact Calls.mono h fun e w ⟨v, he, hv, hc⟩ => ⟨v, he, hv, hC _ hc⟩
    | _ => exact h.elim

theorem valX {σ : List AV} {H : List Blk} {W : World} {o : Oper} {v : AV} {a : Act} (h : evV P noC ⟨σ, shpH H⟩ o = some (v, true)) (hs : SRel ρ σ a.tmps) (hC : Cls F W0 ρ H W) :
    OkNext P (Cls F W0 ρ H) (VRel ρ v) ((execOp a.eval o).run P W) :=
  okNext_monoC (evV_ok noC_ok h hs hC.frozen) fun W' h' => hC.below ⟨h'.fr.os, h'.fr.tape, h'.fr.output, h'.fr.size, h'.fr.keep⟩

-- what a load, a store turns on
def rowB : Blk → Nat → Option (List AV × Bool)
  | .one _ l, 0 => some (l, true)
  | .one _ _, _ + 1 => none
  | .rows _ n _ f, r => some (f r, Nat.blt r n)
  | .dead, _ => none
theorem rowOf_eq : ∀ (H : List Blk) (b r : Nat), rowOf H b r = (H[b]?).bind fun x => rowB x r
  | [], b, r => by simp [rowOf]
  | .one w l :: t, 0, 0 => by simp [rowOf, rowB]
  | .one w l :: t, 0, r + 1 => by simp [rowOf, rowB]
  | .rows w n sz f :: t, 0, r => by simp [rowOf, rowB]
  | .dead :: t, 0, r => by simp [rowOf, rowB]
  | .one w l :: t, b + 1, r => by simp [rowOf, rowOf_eq t b r]
  | .rows w n sz f :: t, b + 1, r => by simp [rowOf, rowOf_eq t b r]
  | .dead :: t, b + 1, r => by simp [rowOf, rowOf_eq t b r]
def putBlk : Blk → Nat → Nat → List AV → Option (Blk × Bool)
  | .one w l, 0, o, cs => bif w then (match overAt l o cs with | some l' => some (.one w l', true) | none => none) else none
  | .one _ _, _ + 1, _, _ => none
  | .rows w n sz f, r, o, cs => bif w then (match overAt (f r) o cs with | some l' => some (.rows w n sz (upd f r l'), Nat.blt r n) | none => none) else none
  | .dead, _, _, _ => none
theorem putRow_eq : ∀ (H : List Blk) (b r o : Nat) (cs : List AV), putRow H b r o cs = (H[b]?).bind fun x => (putBlk x r o cs).map fun y => (H.set b y.1, y.2)
  | [], b, r, o, cs => by simp [putRow]
  | .one w l :: t, 0, 0, o, cs => by cases w <;> simp [putRow, putBlk]; cases overAt l o cs <;> simp
  | .one w l :: t, 0, r + 1, o, cs => by simp [putRow, putBlk]
  | .rows w n sz f :: t, 0, r, o, cs => by cases w <;> simp [putRow, putBlk]; cases overAt (f r) o cs <;> simp
  | .dead :: t, 0, r, o, cs => by simp [putRow, putBlk]
  | .one w l :: t, b + 1, r, o, cs => by
    simp only [putRow, putRow_eq t b r o cs, List.getElem?_cons_succ, List.set_cons_succ]
    cases t[b]? with
    | none => rfl
    | some x => simp only [Option.bind_some]; cases putBlk x r o cs <;> rfl
  | .rows w n sz f :: t, b + 1, r, o, cs => by
    simp only [putRow, putRow_eq t b r o cs, List.getElem?_cons_succ, List.set_cons_succ]
    cases t[b]? with
    | none => rfl
    | some x => simp only [Option.bind_some]; cases putBlk x r o cs <;> rfl
  | .dead :: t, b + 1, r, o, cs => by
    simp only [putRow, putRow_eq t b r o cs, List.getElem?_cons_succ, List.set_cons_succ]
    cases t[b]? with
    | none => rfl
    | some x => simp only [Option.bind_some]; cases putBlk x r o cs <;> rfl
theorem overAt_len : ∀ {l l' : List AV} {o : Nat} {cs : List AV}, overAt l o cs = some l' → l'.length = l.length
  | l, l', 0, [], h => by cases l <;> simp [overAt, over] at h <;> simp [h] <;> (try subst h) <;> rfl
  | [], l', 0, c :: cs, h => by simp [overAt, over] at h
  | x :: t, l', 0, c :: cs, h => by
    simp only [overAt, over, Option.map_eq_some_iff] at h
    obtain ⟨t', ht, rfl⟩ := h
    have : overAt t 0 cs = some t' := by simpa [overAt] using ht
    simp [overAt_len this]
  | [], l', o + 1, cs, h => by simp [overAt] at h
  | x :: t, l', o + 1, cs, h => by
    simp only [overAt, Option.map_eq_some_iff] at h
    obtain ⟨t', ht, rfl⟩ := h
    simp [overAt_len ht]
theorem junkL_congr : ∀ {l l' : List AV}, l.length = l'.length → junkL l = junkL l'
  | [], [], _ => rfl
  | [], _ :: _, h => by simp at h
  | _ :: _, [], h => by simp at h
  | _ :: t, _ :: t', h => by simp only [junkL]; rw [junkL_congr (by simpa using h)]
theorem putBlk_shp {x y : Blk} {r o : Nat} {cs : List AV} {ob : Bool} (h : putBlk x r o cs = some (y, ob)) : y.shp = x.shp := by
  cases x with
  | dead => simp [putBlk] at h
  | one w l =>
    cases r with
    | succ r => simp [putBlk] at h
    | zero =>
      simp only [putBlk] at h
      obtain ⟨_, h⟩ := cond_some h
      split at h
      · rename_i l' hl
        simp only [Option.some.injEq, Prod.mk.injEq] at h
        obtain ⟨rfl, _⟩ := h
        simp only [Blk.shp]
        rw [junkL_congr (overAt_len hl)]
      · cases h
  | rows w n sz f =>
    simp only [putBlk] at h
    obtain ⟨_, h⟩ := cond_some h
    split at h
    · simp only [Option.some.injEq, Prod.mk.injEq] at h
      obtain ⟨rfl, _⟩ := h
      rfl
    · cases h

theorem ptrB_some {x : AV} {b : Nat} (h : ptrB x = some b) : ∃ r o, x = .ptr b r o := by
  cases x <;> simp [ptrB] at h
  subst h
  exact ⟨_, _, rfl⟩

def XK.nx (K : XK) (H1' H : List Blk) : List Blk :=
  match K with
  | .wr b => (match H1'[b]? with | some y => H.set b y | none => H)
  | _ => H
theorem XK.nx_wr {b : Nat} {H1' H : List Blk} {y : Blk} (h : H1'[b]? = some y) : (XK.wr b).nx H1' H = H.set b y := by simp only [XK.nx, h]
theorem XK.nx_not {K : XK} {H1' H : List Blk} (h : ∀ b, K ≠ .wr b) : K.nx H1' H = H := by
  cases K with
  | wr b => exact absurd rfl (h b)
  | rd b => rfl
  | free => rfl
/-- an operation at memory that is alike where it looks -/
theorem evX1_ok {o : Oper} {σ : List AV} {H1 H1' : List Blk} {v : AV} {K : XK} (h : evX1 P o σ H1 = some (v, K, H1', true)) :
    o.guard = none ∧ ((∀ b, K = .wr b → ∃ y, H1' = H1.set b y ∧ (H1[b]?).map Blk.shp = some y.shp) ∧ ((∀ b, K ≠ .wr b) → H1' = H1)) ∧
    ∀ (H : List Blk) (W : World) (a : Act), SRel ρ σ a.tmps → Cls F W0 ρ H W → shpH H = shpH H1 → (∀ b, K = .wr b ∨ K = .rd b → H[b]? = H1[b]?) →
      OkNext P (Cls F W0 ρ (K.nx H1' H)) (VRel ρ v) ((execOp a.eval o).run P W) := by
  unfold evX1 at h
  split at h
  · cases h
  · rename_i hg
    refine ⟨hg, ?_⟩
    split at h
    · -- a store
      rename_i t x y hop
      split at h
      · rename_i b v' H' ob hb hev
        simp only [Option.some.injEq, Prod.mk.injEq] at h
        obtain ⟨rfl, rfl, rfl, rfl⟩ := h
        obtain ⟨r, off, hx⟩ := ptrB_some hb
        simp only [evH, hop] at hev
        rw [hx] at hev
        split at hev
        · rename_i b' r' off' l n e1 hl hn
          simp only [AV.ptr.injEq] at e1
          obtain ⟨rfl, rfl, rfl⟩ := e1
          obtain ⟨hlen, hev⟩ := cond_some hev
          have hlen := Nat.eq_of_beq_eq_true hlen
          split at hev
          · rename_i H2 ob2 hput
            simp only [Option.some.injEq, Prod.mk.injEq] at hev
            obtain ⟨rfl, rfl, rfl⟩ := hev
            rw [putRow_eq] at hput
            cases hb1 : H1[b]? with
            | none => rw [hb1] at hput; cases hput
            | some z =>
              rw [hb1] at hput
              simp only [Option.bind_some, Option.map_eq_some_iff] at hput
              obtain ⟨⟨z', obz⟩, hz, e⟩ := hput
              simp only [Prod.mk.injEq] at e
              obtain ⟨rfl, rfl⟩ := e
              refine ⟨⟨fun c hc => (by cases hc; exact ⟨z', rfl, by rw [hb1]; simp [putBlk_shp hz]⟩), fun hno => absurd rfl (hno b)⟩, fun H W a hs hC hsh hbl => ?_⟩
              have hHb := hbl b (.inl rfl)
              rw [hb1] at hHb
              have hlt : b < H1.length := (List.getElem?_eq_some_iff.1 hb1).1
              have hset : (H1.set b z')[b]? = some z' := List.getElem?_set_self hlt
              rw [XK.nx_wr hset]
              have hput2 : putRow H b r off l = some (H.set b z', true) := by
                rw [putRow_eq, hHb]
                simp [hz]
              rw [ev_heap σ H1 []] at hx
              rw [show St.ev ⟨σ, []⟩ x = St.ev ⟨σ, H⟩ x from by rw [ev_heap σ [] H]] at hx
              have hxr := ev_rel (st := ⟨σ, H⟩) hs x
              rw [hx] at hxr
              have hyr := ev_rel (st := ⟨σ, H1⟩) hs y
              obtain ⟨W', hrun, hC'⟩ := store_ok (P := P) hl hn hlen hput2 hxr hyr hC
              obtain ⟨dst, op, type, pos, after, guard⟩ := o
              simp only at hop
              subst hop
              simp only [execOp, Sem.run_bind, hrun, Result.andThen_ok, Sem.run_pure]
              exact ⟨hC', by simp [VRel]⟩
          · cases hev
        · cases hev
      · cases h
    · -- a load
      rename_i t x hop
      split at h
      · rename_i b v' ob hb hev
        simp only [Option.some.injEq, Prod.mk.injEq] at h
        obtain ⟨rfl, rfl, rfl, rfl⟩ := h
        refine ⟨⟨fun c hc => by (cases hc), fun _ => rfl⟩, fun H W a hs hC hsh hbl => ?_⟩
        rw [XK.nx_not (fun c hc => by cases hc)]
        obtain ⟨r, off, hx⟩ := ptrB_some hb
        refine evV_ok noC_ok (st := ⟨σ, H⟩) ?_ hs hC
        rw [← hev]
        unfold evV evV0
        rw [hop]
        simp only
        rw [litOp_heap σ H H1, ev_heap σ H H1, hx]
        simp only [loadA, rowOf_eq, hbl b (.inr rfl)]
      · cases h
    · split at h
      · rename_i v' ob hev
        simp only [Option.some.injEq, Prod.mk.injEq] at h
        obtain ⟨rfl, rfl, rfl, rfl⟩ := h
        refine ⟨⟨fun c hc => by (cases hc), fun _ => rfl⟩, fun H W a hs hC hsh _ => ?_⟩
        rw [XK.nx_not (fun c hc => by cases hc)]
        rw [← hsh] at hev
        exact valX hev hs hC
      · cases h

theorem okX_spec {c : List Nat} {k : XK} : ∀ {ks : List (Nat × XK)}, okX c k ks = true → ∀ p ∈ ks, p.2.hits k = true → p.1 ∈ c
  | [], _, p, hp, _ => by cases hp
  | (n, x) :: t, h, p, hp, hh => by
    simp only [okX, Bool.and_eq_true, Bool.or_eq_true, Bool.not_eq_true'] at h
    rcases List.mem_cons.1 hp with rfl | hp
    · rcases h.1 with h1 | h1
      · rw [hh] at h1; cases h1
      · exact anyBeq.1 h1
    · exact okX_spec h.2 p hp hh

theorem evXs_spec {ops : Array Oper} : ∀ (l : List Oper) (i : Nat) (σ : List AV) (H Hn : List Blk) (ks : List (Nat × XK)) (xs : List AV), (∀ k, k < l.length → l[k]? = ops[i + k]?) →
    evXs P ops i l σ H ks = some (xs, Hn, true) →
    xs.length = l.length ∧ ∃ (Hs : Nat → List Blk) (Ks : Nat → XK), Hs 0 = H ∧ Hs l.length = Hn ∧
    (∀ k o, l[k]? = some o → ∃ x, xs[k]? = some x ∧ evX1 P o (maskK (opnd o) 0 (putAll l xs σ)) (Hs k) = some (x, Ks k, Hs (k + 1), true) ∧
      (∀ w ∈ opnd o, ∀ (n : Nat) (o' : Oper), n < i + k → ops[n]? = some o' → o'.dst = some w → n ∈ cl .any ops (i + k)) ∧
      (∀ p ∈ ks, p.2.hits (Ks k) = true → p.1 ∈ cl .any ops (i + k)) ∧ (∀ m, m < k → (Ks m).hits (Ks k) = true → i + m ∈ cl .any ops (i + k))) ∧
    (∀ (k m : Nat) o o' d, l[k]? = some o → l[m]? = some o' → o.dst = some d → o'.dst = some d → k = m) ∧
    (∀ (k m : Nat) o o' w, l[k]? = some o → l[m]? = some o' → k ≤ m → w ∈ opnd o → o'.dst ≠ some w)
  | [], i, σ, H, Hn, ks, xs, _, h => by
    simp only [evXs, Option.some.injEq, Prod.mk.injEq, and_true] at h
    obtain ⟨rfl, rfl⟩ := h
    exact ⟨rfl, fun _ => H, fun _ => .free, rfl, rfl, by simp, by simp, by simp⟩
  | o :: t, i, σ, H, Hn, ks, xs, hop, h => by
    simp only [evXs] at h
    obtain ⟨hc, h⟩ := cond_some h
    simp only [Bool.and_eq_true, List.all_eq_true, Bool.not_eq_true'] at hc
    obtain ⟨hc1', hc2⟩ := hc
    have hc1 : ∀ w ∈ opnd o, dstIn w (o :: t) = false := fun w hw => (hc1' w hw).1
    have hpr : ∀ w ∈ opnd o, ∀ (n : Nat) (o' : Oper), n < i → ops[n]? = some o' → o'.dst = some w → n ∈ cl .any ops i := fun w hw n o' hn ho' hd => prodB_spec (hc1' w hw).2 n o' hn ho' hd
    split at h
    · rename_i v k H' ob hv
      obtain ⟨hk, h⟩ := cond_some h
      split at h
      · rename_i xs' Hn' ob' hr
        simp only [Option.some.injEq, Prod.mk.injEq] at h
        obtain ⟨rfl, rfl, hob⟩ := h
        obtain ⟨rfl, rfl⟩ := andB_true hob
        obtain ⟨r1, Hs, Ks, r2, r3, r4, r5, r6⟩ := evXs_spec t (i + 1) (putD σ o v) H' Hn' ((i, k) :: ks) xs' (fun k hk => by have := hop (k + 1) (by simpa using hk); rw [show i + 1 + k = i + (k + 1) by omega]; simpa using this) hr
        have hmask : maskK (opnd o) 0 σ = maskK (opnd o) 0 (putAll t xs' (putD σ o v)) := by
          refine maskK_congr _ _ _ _ (by rw [putAll_len, putD_len]) fun j hj => ?_
          have hfree := dstIn_false (hc1 j (by simpa using hj))
          rw [putAll_keep t xs' _ j fun o' ho' => hfree o' (List.mem_cons_of_mem _ ho'), putD_other (hfree o List.mem_cons_self)]
        refine ⟨by simp [r1], fun n => match n with | 0 => H | n + 1 => Hs n, fun n => match n with | 0 => k | n + 1 => Ks n, rfl, by simpa using r3, fun k' o' hk' => ?_, fun k m o1 o2 d h1 h2 h3 h4 => ?_, fun k m o1 o2 w h1 h2 hkm hw => ?_⟩
        · cases k' with
          | zero =>
            simp at hk'
            subst hk'
            refine ⟨v, by simp, ?_, by simpa using hpr, fun p hp hh => okX_spec hk p hp hh, fun m hm => by omega⟩
            rw [hmask] at hv
            simp only [r2]
            exact hv
          | succ k' =>
            obtain ⟨x, q1, q2, q3, q4, q5⟩ := r4 k' o' (by simpa using hk')
            have e : i + 1 + k' = i + (k' + 1) := by omega
            rw [e] at q3 q4 q5
            refine ⟨x, by simpa using q1, q2, q3, fun p hp => q4 p (List.mem_cons_of_mem _ hp), fun m hm hh => ?_⟩
            cases m with
            | zero => exact q4 (i, k) List.mem_cons_self hh
            | succ m => have := q5 m (by omega) hh; rwa [show i + 1 + m = i + (m + 1) by omega] at this
        · have nod : ∀ (m : Nat) o2, t[m]? = some o2 → o.dst = some d → o2.dst = some d → False := fun m o2 hm e1 e2 => by
            rw [e1] at hc2
            simp only [Bool.not_eq_true'] at hc2
            exact dstIn_false hc2 o2 (List.mem_of_getElem? hm) e2
          cases k with
          | zero =>
            cases m with
            | zero => rfl
            | succ m => simp at h1 h2; subst h1; exact (nod m o2 h2 h3 h4).elim
          | succ k =>
            cases m with
            | zero => simp at h1 h2; subst h2; exact (nod k o1 h1 h4 h3).elim
            | succ m => rw [r5 k m o1 o2 d (by simpa using h1) (by simpa using h2) h3 h4]
        · cases k with
          | zero =>
            simp at h1
            subst h1
            exact dstIn_false (hc1 w hw) o2 (List.mem_of_getElem? h2)
          | succ k =>
            cases m with
            | zero => omega
            | succ m => exact r6 k m o1 o2 w (by simpa using h1) (by simpa using h2) (by omega) hw
      · cases h
    · cases h

/-- what holds on the way through such a region -/
structure XI (P : Program) (ops : Array Oper) (st : St) (xs : List AV) (Hs : Nat → List Blk) (Ks : Nat → XK) (F : Nat → Prop) (W0 : World) (ρ : List Place) (listed : Array Bool) (a : Act) (W : World) : Prop where
  size : listed.size = ops.size
  down : Down .any ops listed
  defers : a.defers = []
  tsz : a.tmps.size = st.slots.length
  old : ∀ (w : Nat) (x : AV), st.slots[w]? = some x → (∀ (j : Nat) (o : Oper), ops[j]? = some o → o.dst ≠ some w) → ∃ v, a.tmps[w]? = some v ∧ VRel ρ x v
  new : ∀ (j : Nat) (o : Oper) (d : Nat) (x : AV), ops[j]? = some o → listed.getD j false = true → o.dst = some d → d < st.slots.length → xs[j]? = some x → ∃ v, a.tmps[d]? = some v ∧ VRel ρ x v
  mem : ∃ H, Cls F W0 ρ H W ∧ shpH H = shpH st.heap ∧ ∀ b k, k ≤ ops.size → (∀ i, i < k → Ks i = .wr b → listed.getD i false = true) → (∀ i, k ≤ i → i < ops.size → Ks i = .wr b → listed.getD i false = false) → H[b]? = (Hs k)[b]?

theorem regionX_ok (hm : P.follows .mixedOrders = true) {id : Nat} {ops : Array Oper} {Q : Exit → Act → World → Prop} {st st' : St} (h : evX P ops st = some (st', true)) {B : Nat} {a : Act} {W : World}
    (hr : Rl B F W0 ρ st a W) (hQ : ∀ a' W', Rl B F W0 ρ st' a' W' → Q .normal a' W') : (Code.region id ops true).wp P Q a W := by
  unfold evX at h
  obtain ⟨hed, h⟩ := cond_some h
  split at h
  · rename_i xs Hn ob hxs
    simp only [Option.some.injEq, Prod.mk.injEq] at h
    obtain ⟨rfl, rfl⟩ := h
    obtain ⟨s1, Hs, Ks, s2, s3, s4, s5, s6⟩ := evXs_spec ops.toList 0 st.slots st.heap Hn [] xs (fun k hk => by simp) hxs
    have hn : ops.toList.length = ops.size := by simp
    rw [hn] at s1 s3
    generalize hσ : putAll ops.toList xs st.slots = σf at *
    have hlen : σf.length = st.slots.length := by rw [← hσ, putAll_len]
    have tl : ∀ {j : Nat} {o : Oper}, ops[j]? = some o → ops.toList[j]? = some o := fun h => by simpa using h
    have fact : ∀ (j : Nat) (o : Oper), ops[j]? = some o → ∃ x, xs[j]? = some x ∧ evX1 P o (maskK (opnd o) 0 σf) (Hs j) = some (x, Ks j, Hs (j + 1), true) ∧
        (∀ w ∈ opnd o, ∀ (n : Nat) (o' : Oper), n < j → ops[n]? = some o' → o'.dst = some w → n ∈ cl .any ops j) ∧ ∀ m, m < j → (Ks m).hits (Ks j) = true → m ∈ cl .any ops j := fun j o ho => by
      obtain ⟨x, q1, q2, q3, _, q5⟩ := s4 j o (tl ho)
      simp only [Nat.zero_add] at q3 q5
      exact ⟨x, q1, q2, q3, q5⟩
    have hedge : ∀ i, i < ops.size → ∀ e ∈ edgesOf .any ops i, e < i := fun i hi e he => by
      unfold edB at hed
      rw [List.all_eq_true] at hed
      have := hed i (List.mem_range.2 hi)
      rw [List.all_eq_true] at this
      simpa [Nat.blt_eq] using this e he
    have prog : ∀ (listed : Array Bool) (n : Nat), n < ops.size → listed.getD n true = false → (∀ j, j < n → listed.getD j false = true) → Region.ready .any ops listed ≠ [] := fun listed n hn hun hlow hnil => by
      have : n ∈ Region.ready .any ops listed := mem_ready.2 ⟨hun, ops[n], Array.getElem?_eq_getElem hn, fun e he hb => hlow _ (hedge n hn _ (edges_mem.2 ⟨_, Array.getElem?_eq_getElem hn, e, he, hb, rfl⟩))⟩
      rw [hnil] at this; cases this
    have hlo : ∀ (listed : Array Bool) (n : Nat), listed.size = ops.size → n < ops.size → listed.getD n false = false → listed.getD n true = false := fun listed n hs hn h => by
      simp only [Array.getD_eq_getD_getElem?, Array.getElem?_eq_getElem (show n < listed.size by omega), Option.getD_some] at *
      exact h
    -- memory along the text
    have stepH : ∀ j, j < ops.size → (∀ b, Ks j = .wr b → ∃ y, Hs (j + 1) = (Hs j).set b y ∧ ((Hs j)[b]?).map Blk.shp = some y.shp) ∧ ((∀ b, Ks j ≠ .wr b) → Hs (j + 1) = Hs j) := fun j hj => by
      obtain ⟨x, _, q2, _⟩ := fact j ops[j] (Array.getElem?_eq_getElem hj)
      obtain ⟨_, q, _⟩ := evX1_ok (F := F) (W0 := W0) (ρ := ρ) q2
      exact q
    have shpS : ∀ (H : List Blk) (b : Nat) (y : Blk), (H[b]?).map Blk.shp = some y.shp → shpH (H.set b y) = shpH H := fun H b y hy => by
      apply List.ext_getElem?
      intro c
      rw [shpH_get, shpH_get, List.getElem?_set]
      split
      · rename_i e; subst e
        split
        · rw [hy]; rfl
        · rename_i hlt
          rw [List.getElem?_eq_none (by omega)] at hy; cases hy
      · rfl
    have shpK : ∀ k, k ≤ ops.size → shpH (Hs k) = shpH st.heap := fun k => by
      induction k with
      | zero => intro _; rw [s2]
      | succ k ih =>
        intro hk
        obtain ⟨q1, q2⟩ := stepH k (by omega)
        by_cases hb : ∃ b, Ks k = .wr b
        · obtain ⟨b, hb⟩ := hb
          obtain ⟨y, e, hy⟩ := q1 b hb
          rw [e, shpS _ _ _ hy, ih (by omega)]
        · rw [q2 fun b hb' => hb ⟨b, hb'⟩, ih (by omega)]
    have still : ∀ (b j d : Nat), j + d ≤ ops.size → (∀ i, j ≤ i → i < j + d → Ks i ≠ .wr b) → (Hs (j + d))[b]? = (Hs j)[b]? := fun b j d => by
      induction d with
      | zero => intro _ _; rfl
      | succ d ih =>
        intro hd hno
        rw [← ih (by omega) fun i h1 h2 => hno i h1 (by omega)]
        obtain ⟨q1, q2⟩ := stepH (j + d) (by omega)
        rw [← Nat.add_assoc]
        by_cases hb : ∃ c, Ks (j + d) = .wr c
        · obtain ⟨c, hc⟩ := hb
          obtain ⟨y, e, _⟩ := q1 c hc
          rw [e, List.getElem?_set_ne]
          intro e'
          subst e'
          exact hno (j + d) (by omega) (by omega) hc
        · rw [q2 fun c hc => hb ⟨c, hc⟩]
    refine wp_region_any hm (wpAny_inv (I := fun listed a' W' => XI P ops st xs Hs Ks F W0 ρ listed a' W') ?_ ?_ _ _ _ _ ?_ ?_)
    · -- a step
      intro listed a' W' i hI hi
      obtain ⟨hun, o, ho, _⟩ := mem_ready.1 hi
      have hio : i < ops.size := (Array.getElem?_eq_some_iff.1 ho).1
      have hisz : i < listed.size := by rw [hI.size]; exact hio
      have hcl : ∀ n ∈ cl .any ops i, listed.getD n false = true := clo_listed hI.down _ _ (ready_edges hi)
      have hnl : listed.getD i false = false := getD_false hisz hun
      obtain ⟨x, hx, q2, q3, q5⟩ := fact i o ho
      obtain ⟨hg, qh, qok⟩ := evX1_ok (F := F) (W0 := W0) (ρ := ρ) q2
      have hs : SRel ρ (maskK (opnd o) 0 σf) a'.tmps := by
        refine ⟨by rw [maskK_len, hI.tsz, hlen], fun w y hy => ?_⟩
        rcases maskK_get _ _ _ _ _ hy with ⟨rfl, hlt⟩ | ⟨hwo, hs⟩
        · exact ⟨a'.tmps[w]'(by rw [hI.tsz, ← hlen]; exact hlt), Array.getElem?_eq_getElem _, by simp [VRel]⟩
        · rw [Nat.zero_add] at hwo
          have hwl : w < st.slots.length := by rw [← hlen]; exact (List.getElem?_eq_some_iff.1 hs).1
          rw [← hσ] at hs
          rcases putAll_get _ _ _ _ _ hs with ⟨m, o', h1, h2, h3⟩ | ⟨h1, h2⟩
          · have ho' : ops[m]? = some o' := by simpa using h1
            rcases Nat.lt_or_ge m i with hl | hl
            · exact hI.new m o' w y ho' (hcl m (q3 w hwo m o' hl ho' h2)) h2 hwl h3
            · exact absurd h2 (s6 i m o o' w (tl ho) h1 hl hwo)
          · exact hI.old w y h1 fun j o' ho' => h2 j o' (tl ho') (by rw [s1]; exact (Array.getElem?_eq_some_iff.1 ho').1)
      obtain ⟨H, hC, hsh, hH⟩ := hI.mem
      -- who hits it is done, who is hit is not
      have hdone : ∀ b, Ks i = .wr b ∨ Ks i = .rd b → ∀ m, m < i → Ks m = .wr b → listed.getD m false = true := fun b hb m hm hmw => by
        refine hcl m (q5 m hm ?_)
        rw [hmw]
        rcases hb with hb | hb <;> rw [hb] <;> simp [XK.hits]
      have hnot : ∀ b, Ks i = .wr b ∨ Ks i = .rd b → ∀ m, i < m → m < ops.size → Ks m = .wr b → listed.getD m false = false := fun b hb m hm hms hmw => by
        cases hg' : listed.getD m false with
        | false => rfl
        | true =>
          obtain ⟨_, _, _, _, q5'⟩ := fact m ops[m] (Array.getElem?_eq_getElem hms)
          have hin : i ∈ cl .any ops m := q5' i hm (by rw [hmw]; rcases hb with hb | hb <;> rw [hb] <;> simp [XK.hits])
          have := clo_listed hI.down _ _ (hI.down m hg') i hin
          rw [hnl] at this; cases this
      have hat : ∀ b, Ks i = .wr b ∨ Ks i = .rd b → H[b]? = (Hs i)[b]? := fun b hb => hH b i (by omega) (hdone b hb) fun m h1 h2 hmw => by
        by_cases hmi : m = i
        · subst hmi; exact hnl
        · exact hnot b hb m (by omega) h2 hmw
      have hok := qok H W' a' hs hC (by rw [hsh, shpK i (by omega)]) hat
      have hwant : Region.wanted o (yielded ops a'.tmps) = true := by unfold Region.wanted; rw [hg]
      unfold wpOp
      simp only [ho]
      rw [if_pos hwant]
      left
      refine op_wp (σ := st.slots) hok fun v W2 hv hW2 => ⟨by simpa using hI.size, hI.down.step hi, by rw [put_defers]; exact hI.defers, by rw [put_size]; exact hI.tsz, fun w y hy hd => ?_, fun j o' d y ho' hl hd hdl hy => ?_, ?_⟩
      · obtain ⟨u, h1, h2⟩ := hI.old w y hy hd
        exact ⟨u, by rw [put_get_other (hd i o ho)]; exact h1, h2⟩
      · by_cases hji : j = i
        · subst hji
          rw [ho] at ho'; cases ho'
          rw [hx] at hy; cases hy
          rw [hd]
          exact ⟨v, put_get_self (by rw [hI.tsz]; exact hdl), hv⟩
        · rcases getD_set_f hl with e | hl
          · exact absurd e hji
          · obtain ⟨u, h1, h2⟩ := hI.new j o' d y ho' hl hd hdl hy
            refine ⟨u, ?_, h2⟩
            rw [put_get_other fun e => hji (s5 j i o' o d (tl ho') (tl ho) hd e)]
            exact h1
      · by_cases hb : ∃ b, Ks i = .wr b
        · obtain ⟨b, hb⟩ := hb
          obtain ⟨y, ey, hy⟩ := (stepH i hio).1 b hb
          have hlt : b < (Hs i).length := by
            rcases Nat.lt_or_ge b (Hs i).length with h | h
            · exact h
            · rw [List.getElem?_eq_none h] at hy; cases hy
          have hset : (Hs (i + 1))[b]? = some y := by rw [ey, List.getElem?_set_self hlt]
          rw [hb, XK.nx_wr hset] at hW2
          have hHb := hat b (.inl hb)
          have hltH : b < H.length := by
            rcases Nat.lt_or_ge b H.length with h | h
            · exact h
            · rw [List.getElem?_eq_none h, List.getElem?_eq_getElem hlt] at hHb; cases hHb
          refine ⟨H.set b y, hW2, by rw [shpS _ _ _ (by rw [hHb]; exact hy), hsh], fun c k hk hlo1 hhi1 => ?_⟩
          by_cases hcb : b = c
          · subst hcb
            rw [List.getElem?_set_self hltH]
            have hki : i < k := by
              rcases Nat.lt_or_ge i k with h | h
              · exact h
              · have := hhi1 i h hio hb
                rw [getD_self hisz] at this; cases this
            obtain ⟨d, rfl⟩ : ∃ d, k = (i + 1) + d := ⟨k - (i + 1), by omega⟩
            rw [still b (i + 1) d hk fun m h1 h2 hmw => ?_, ey, List.getElem?_set_self hlt]
            have h3 := hlo1 m h2 hmw
            rcases getD_set_f h3 with e | h3
            · omega
            · rw [hnot b (.inl hb) m (by omega) (by omega) hmw] at h3; cases h3
          · rw [List.getElem?_set_ne hcb]
            refine hH c k hk (fun m h1 h2 => ?_) fun m h1 h2 h3 => ?_
            · rcases getD_set_f (hlo1 m h1 h2) with e | h
              · subst e; rw [hb] at h2; cases h2; exact absurd rfl hcb
              · exact h
            · have := hhi1 m h1 h2 h3
              by_cases hmi : i = m
              · subst hmi; exact hnl
              · rwa [getD_set_ne false hmi] at this
        · have hK : ∀ b, Ks i ≠ .wr b := fun b hb' => hb ⟨b, hb'⟩
          have hW3 : Cls F W0 ρ H W2 := by rw [XK.nx_not hK] at hW2; exact hW2
          refine ⟨H, hW3, hsh, fun c k hk hlo1 hhi1 => hH c k hk (fun m h1 h2 => ?_) fun m h1 h2 h3 => ?_⟩
          · rcases getD_set_f (hlo1 m h1 h2) with e | h
            · subst e; exact absurd h2 (hK c)
            · exact h
          · have := hhi1 m h1 h2 h3
            by_cases hmi : i = m
            · subst hmi; exact hnl
            · rwa [getD_set_ne false hmi] at this
    · -- nothing left
      intro listed a' W' hI hnil
      have hall : ∀ n, n ≤ ops.size → ∀ j, j < n → listed.getD j false = true := fun n => by
        induction n with
        | zero => intro _ j hj; omega
        | succ n ih =>
          intro hn j hj
          by_cases hjn : j = n
          · subst hjn
            cases hg : listed.getD j false with
            | true => rfl
            | false => exact absurd hnil (prog listed j (by omega) (hlo listed j hI.size (by omega) hg) (ih (by omega)))
          · exact ih (by omega) j (by omega)
      have hall := hall ops.size (Nat.le_refl _)
      obtain ⟨H, hC, hsh, hH⟩ := hI.mem
      have hHn : H = Hn := by
        rw [← s3]
        apply List.ext_getElem?
        intro b
        exact hH b ops.size (Nat.le_refl _) (fun i hi _ => hall i hi) fun i h1 h2 => by omega
      subst hHn
      refine hQ a' W' ⟨⟨by rw [hI.tsz, hlen], fun w y hy => ?_⟩, hI.defers, hC, ?_⟩
      · have hwl : w < st.slots.length := by rw [← hlen]; exact (List.getElem?_eq_some_iff.1 hy).1
        rw [← hσ] at hy
        rcases putAll_get _ _ _ _ _ hy with ⟨m, o', h1, h2, h3⟩ | ⟨h1, h2⟩
        · have ho' : ops[m]? = some o' := by simpa using h1
          exact hI.new m o' w y ho' (hall m (Array.getElem?_eq_some_iff.1 ho').1) h2 hwl h3
        · exact hI.old w y h1 fun j o' ho' => h2 j o' (tl ho') (by rw [s1]; exact (Array.getElem?_eq_some_iff.1 ho').1)
      · have := hr.hB
        have e : H.length = st.heap.length := by rw [← shpH_len H, hsh, shpH_len]
        simp only [e]; exact this
    · -- at the start
      have rep : ∀ j, (Array.replicate ops.size false).getD j false = false := fun j => by
        simp only [Array.getD_eq_getD_getElem?, Array.getElem?_replicate]
        split <;> rfl
      refine ⟨by simp, fun j hj => (by rw [rep] at hj; cases hj), hr.d, hr.s.len, fun w x hx _ => hr.s.get w x hx, fun j o d x _ hj => (by rw [rep] at hj; cases hj), ⟨st.heap, hr.c.drawn _, rfl, fun b k hk hlo1 _ => ?_⟩⟩
      have hno : ∀ i, i < k → Ks i ≠ .wr b := fun i hi hw => by have := hlo1 i hi hw; rw [rep] at this; cases this
      have := still b 0 k (by omega) fun i _ h2 => hno i (by omega)
      rw [Nat.zero_add] at this
      rw [this, s2]
    · unfold unl
      exact Nat.le_trans List.countP_le_length (by simp)
  · cases h
end
end Go.Sx
