/- Operations that make memory or write it; a region whose operations come in the order of the text. -/
import Derived.Test.YtpnjimpiphbcfaaSxVal
import Derived.Laws.CopyRow
set_option linter.unusedSimpArgs false
set_option linter.unusedVariables false
namespace Go.Sx
open Go.RowKit

theorem mS_rel {ρ : List Place} {b : Bool} {v w u : AV} (h : mS b v w = some u) : u = bif b then v else w := by
  unfold mS at h
  split at h
  · simp only [Option.some.injEq] at h; subst h; cases b <;> rfl
  · obtain ⟨hk, h⟩ := cond_some h
    simp only [Option.some.injEq] at h; subst h
    have := ikEq_eq hk; subst this
    cases b <;> rfl
  · obtain ⟨hk, h⟩ := cond_some h
    simp only [Option.some.injEq] at h; subst h
    have := fkEq_eq hk; subst this
    cases b <;> rfl
  · simp only [Option.some.injEq] at h; subst h; cases b <;> rfl
  · cases h

theorem mC_rel {ρ : List Place} {b : Bool} {x y : AV} {v : Value} (h : VRel ρ (bif b then x else y) v) : VRel ρ (mC b x y) v := by
  unfold mC
  have h' : VRel ρ (bif b then delit x else delit y) v := by cases b <;> exact delit_rel h
  cases hm : mS b (delit x) (delit y) with
  | some u => rw [mS_rel (ρ := ρ) hm]; exact h'
  | none =>
    simp only
    split
    · rename_i ex ey
      rw [ex, ey] at h'
      cases b <;> exact h'
    · exact h'

theorem mRow_get : ∀ {b : Bool} {xs ys : List AV} {j : Nat} {z : AV}, (mRow b xs ys)[j]? = some z → ∃ x, (bif b then xs else ys)[j]? = some x ∧ ∀ ρ v, VRel ρ x v → VRel ρ z v
  | b, x :: xs, y :: ys, 0, z, h => by
    simp only [mRow, List.getElem?_cons_zero, Option.some.injEq] at h
    subst h
    exact ⟨bif b then x else y, by cases b <;> simp, fun ρ v hv => mC_rel hv⟩
  | b, x :: xs, y :: ys, j + 1, z, h => by
    simp only [mRow, List.getElem?_cons_succ] at h
    obtain ⟨w, hw, hr⟩ := mRow_get h
    exact ⟨w, by cases b <;> simpa using hw, hr⟩
  | b, [], [], j, z, h => by simp [mRow] at h
  | b, [], y :: ys, j, z, h => ⟨z, by simpa [mRow] using h, fun _ _ h => h⟩
  | b, x :: xs, [], j, z, h => ⟨z, by simpa [mRow] using h, fun _ _ h => h⟩

theorem len_get {ρ : List Place} {H : List Blk} (h : ρ.length = H.length) {b : Nat} {p : Place} {x : Blk} (q : Place) (y : Blk) (hp : (ρ ++ [q])[b]? = some p) (hx : (H ++ [y])[b]? = some x) :
    (ρ[b]? = some p ∧ H[b]? = some x ∧ b < H.length) ∨ (b = H.length ∧ p = q ∧ x = y) := by
  rcases Nat.lt_trichotomy b H.length with hb | hb | hb
  · left
    rw [List.getElem?_append_left (by omega)] at hp hx
    exact ⟨hp, hx, hb⟩
  · right
    subst hb
    rw [List.getElem?_append_right (by omega)] at hp hx
    simp [h] at hp hx
    exact ⟨rfl, hp.symm, hx.symm⟩
  · rw [List.getElem?_eq_none (by simp; omega)] at hx; cases hx

/-- a new block -/
theorem Cls.alloc {F : Nat → Prop} {W0 : World} {ρ : List Place} {H : List Blk} {W : World} (h : Cls F W0 ρ H W) (o : Obj) (q : Place) (y : Blk) (hq : q.blk = W.heap.size) (hb : BRel (ρ ++ [q]) (W.alloc o) q y) :
    Cls F W0 (ρ ++ [q]) (H ++ [y]) (W.alloc o) := by
  have hbel : Below W.heap.size W (W.alloc o) := (Below.refl _ _).alloc (Nat.le_refl _) o
  refine ⟨⟨by simp [h.rel.len], fun b x p hx hp => ?_, fun b c x z p r hne hx hz hp hr hw hl hcp hcr => ?_⟩, h.fr.below h.low hbel, h.low, fun b x p hx hp hw hcp => ?_⟩
  · rcases len_get h.rel.len q y hp hx with ⟨h1, h2, _⟩ | ⟨_, rfl, rfl⟩
    · exact ((h.rel.below hbel).blk b x p h2 h1).ext (Ext.append ρ q)
    · exact hb
  · rcases len_get h.rel.len q y hp hx with ⟨h1, h2, _⟩ | ⟨e1, rfl, rfl⟩
    · rcases len_get h.rel.len q y hr hz with ⟨h3, h4, _⟩ | ⟨e2, rfl, rfl⟩
      · exact h.rel.apart b c x z p r hne h2 h4 h1 h3 hw hl hcp hcr
      · have := h.rel.lt h2 h1 (by cases x <;> simp [Blk.wr] at hw <;> rfl) hcp
        omega
    · rcases len_get h.rel.len p x hr hz with ⟨h3, h4, _⟩ | ⟨e2, rfl, rfl⟩
      · have := h.rel.lt h4 h3 hl hcr
        omega
      · omega
  · rcases len_get h.rel.len q y hp hx with ⟨h1, h2, _⟩ | ⟨e1, rfl, rfl⟩
    · exact h.free b x p h2 h1 hw hcp
    · intro hF
      have := h.low _ hF
      have := h.fr.size
      omega

theorem new_last (ρ : List Place) (H : List Blk) (h : ρ.length = H.length) (q : Place) : (ρ ++ [q])[H.length]? = some q := by
  rw [List.getElem?_append_right (by omega)]; simp [h]

theorem box_ok {P : Program} {F : Nat → Prop} {W0 W : World} {ρ : List Place} {H : List Blk} {l : List AV} {cs : Array Value} {t : TypeId} (hl : VRels ρ l cs.toList) (hC : Cls F W0 ρ H W) :
    ∃ ρ', Ext ρ ρ' ∧ ∃ u, (do Pure.pure (Value.pointer (some (← newRow t cs))) : Sem Value).run P W = .ok u (W.alloc (.cells cs t)) ∧ Cls F W0 ρ' (H ++ [.one true l]) (W.alloc (.cells cs t)) ∧ VRel ρ' (.ptr H.length 0 0) u := by
  let q : Place := ⟨W.heap.size, 0, l.length, 1⟩
  refine ⟨ρ ++ [q], Ext.append ρ q, .pointer (some ⟨W.heap.size, 0, none⟩), ?_, hC.alloc _ q _ rfl ?_, ?_⟩
  · simp [newRow]
  · refine ⟨cs, t, (0, 0), heap_alloc_new W _, fun _ => rfl, rfl, Nat.one_ne_zero, fun j x hj => ?_⟩
    obtain ⟨v, hv, hr⟩ := hl.get hj
    exact ⟨v, by simpa [q] using hv, hr.ext (Ext.append ρ q)⟩
  · simp only [VRel]
    exact ⟨q, new_last ρ H hC.rel.len q, by simp [q]⟩

theorem putRow_spec : ∀ {H H' : List Blk} {b r o : Nat} {cs : List AV}, putRow H b r o cs = some (H', true) →
    ∃ x x', H[b]? = some x ∧ H' = H.set b x' ∧ x'.wr = true ∧ x.wr = true ∧
      ((∃ l l', x = .one true l ∧ r = 0 ∧ overAt l o cs = some l' ∧ x' = .one true l') ∨
       (∃ n sz f l', x = .rows true n sz f ∧ r < n ∧ overAt (f r) o cs = some l' ∧ x' = .rows true n sz (upd f r l')))
  | [], H', b, r, o, cs, h => by simp [putRow] at h
  | .one w l :: t, H', 0, 0, o, cs, h => by
    simp only [putRow] at h
    obtain ⟨hw, h⟩ := cond_some h
    subst hw
    split at h
    · rename_i l' ho
      simp only [Option.some.injEq, Prod.mk.injEq, and_true] at h; subst h
      exact ⟨.one true l, .one true l', by simp, by simp, rfl, rfl, .inl ⟨l, l', rfl, rfl, ho, rfl⟩⟩
    · cases h
  | .one w l :: t, H', 0, r + 1, o, cs, h => by simp [putRow] at h
  | .rows w n sz f :: t, H', 0, r, o, cs, h => by
    simp only [putRow] at h
    obtain ⟨hw, h⟩ := cond_some h
    subst hw
    split at h
    · rename_i l' ho
      simp only [Option.some.injEq, Prod.mk.injEq] at h
      obtain ⟨rfl, hr⟩ := h
      exact ⟨.rows true n sz f, .rows true n sz (upd f r l'), by simp, by simp, rfl, rfl, .inr ⟨n, sz, f, l', rfl, by simpa [Nat.blt_eq] using hr, ho, rfl⟩⟩
    · cases h
  | .dead :: t, H', 0, r, o, cs, h => by simp [putRow] at h
  | .one w l :: t, H', b + 1, r, o, cs, h => by
    simp only [putRow] at h
    split at h
    · rename_i t' ob ht
      simp only [Option.some.injEq, Prod.mk.injEq] at h
      obtain ⟨rfl, rfl⟩ := h
      obtain ⟨x, x', h1, rfl, h3⟩ := putRow_spec ht
      exact ⟨x, x', by simpa using h1, by simp, h3⟩
    · cases h
  | .rows w n sz f :: t, H', b + 1, r, o, cs, h => by
    simp only [putRow] at h
    split at h
    · rename_i t' ob ht
      simp only [Option.some.injEq, Prod.mk.injEq] at h
      obtain ⟨rfl, rfl⟩ := h
      obtain ⟨x, x', h1, rfl, h3⟩ := putRow_spec ht
      exact ⟨x, x', by simpa using h1, by simp, h3⟩
    · cases h
  | .dead :: t, H', b + 1, r, o, cs, h => by
    simp only [putRow] at h
    split at h
    · rename_i t' ob ht
      simp only [Option.some.injEq, Prod.mk.injEq] at h
      obtain ⟨rfl, rfl⟩ := h
      obtain ⟨x, x', h1, rfl, h3⟩ := putRow_spec ht
      exact ⟨x, x', by simpa using h1, by simp, h3⟩
    · cases h

/-- a block of one's own turns -/
theorem Cls.turn {F : Nat → Prop} {W0 : World} {ρ : List Place} {H : List Blk} {W W' : World} (h : Cls F W0 ρ H W) {b : Nat} {x x' : Blk} {p : Place} (hx : H[b]? = some x) (hp : ρ[b]? = some p) (hw : x.wr = true) (hw' : x'.wr = true)
    (hos : W'.os = W.os ∧ W'.tape = W.tape ∧ W'.output = W.output ∧ W'.heap.size = W.heap.size) (hcap : p.cap ≠ 0) (hoth : ∀ k, k ≠ p.blk → W'.heap[k]? = W.heap[k]?) (hb : BRel ρ W' p x') : Cls F W0 ρ (H.set b x') W' := by
  have hlt : b < H.length := (List.getElem?_eq_some_iff.1 hx).1
  have get : ∀ c y, (H.set b x')[c]? = some y → (c = b ∧ y = x') ∨ (c ≠ b ∧ H[c]? = some y) := fun c y hy => by
    rw [List.getElem?_set] at hy
    split at hy
    · rename_i e; subst e
      simp only [hlt, if_true, Option.some.injEq] at hy
      exact .inl ⟨rfl, hy.symm⟩
    · rename_i e; exact .inr ⟨fun e' => e e'.symm, hy⟩
  refine ⟨⟨by simp [h.rel.len], fun c y q hy hq => ?_, fun c d y z q r hne hy hz hq hr hwy hlz hcy hcz => ?_⟩, ⟨hos.1.trans h.fr.os, hos.2.1.trans h.fr.tape, hos.2.2.1.trans h.fr.output, by rw [hos.2.2.2]; exact h.fr.size, fun k hk => ?_⟩, h.low, fun c y q hy hq hwy hcy => ?_⟩
  · rcases get c y hy with ⟨rfl, rfl⟩ | ⟨hne, hy⟩
    · rw [hp] at hq; cases hq; exact hb
    · exact (h.rel.blk c y q hy hq).same fun hl hcq => hoth _ (fun e => h.rel.apart b c x y p q (Ne.symm hne) hx hy hp hq hw hl hcap hcq e.symm)
  · have live : x'.live = true → x.live = true := fun _ => by cases x <;> simp [Blk.wr] at hw <;> rfl
    rcases get c y hy with ⟨e1, e2⟩ | ⟨hne1, hy2⟩
    · rcases get d z hz with ⟨e3, e4⟩ | ⟨hne2, hz2⟩
      · exact absurd (e1.trans e3.symm) hne
      · rw [e1] at hq hne
        exact h.rel.apart b d x z q r hne hx hz2 hq hr hw hlz hcy hcz
    · rcases get d z hz with ⟨e3, e4⟩ | ⟨hne2, hz2⟩
      · rw [e3] at hr hne
        rw [e4] at hlz
        exact h.rel.apart c b y x q r hne hy2 hx hq hr hwy (live hlz) hcy hcz
      · exact h.rel.apart c d y z q r hne hy2 hz2 hq hr hwy hlz hcy hcz
  · rw [hoth k (fun e => h.free b x p hx hp hw hcap (e ▸ hk))]; exact h.fr.keep k hk
  · rcases get c y hy with ⟨rfl, rfl⟩ | ⟨_, hy⟩
    · exact h.free _ x q hx hq hw hcy
    · exact h.free c y q hy hq hwy hcy

theorem setRow_other (W : World) (g : Nat) (cs : Array Value) (k : Nat) (h : k ≠ g) : (W.setRow g cs).heap[k]? = W.heap[k]? := by
  simp only [World.setRow]
  rw [Array.getElem?_modify, if_neg (fun e => h e.symm)]

theorem seg_get (l vs : List Value) (k j : Nat) (h : k + vs.length ≤ l.length) : (l.take k ++ vs ++ l.drop (k + vs.length))[j]? = if k ≤ j ∧ j < k + vs.length then vs[j - k]? else l[j]? := by
  have hk : (l.take k).length = k := by simp; omega
  by_cases h1 : j < k
  · rw [if_neg (by omega), List.append_assoc, List.getElem?_append_left (by omega), List.getElem?_take, if_pos h1]
  · by_cases h2 : j < k + vs.length
    · rw [if_pos ⟨by omega, h2⟩, List.getElem?_append_left (by simp; omega), List.getElem?_append_right (by omega), hk]
    · rw [if_neg (by omega), List.getElem?_append_right (by simp; omega), List.getElem?_drop]
      congr 1
      simp
      omega

theorem store_ok {P : Program} {F : Nat → Prop} {W0 W : World} {ρ : List Place} {H H' : List Blk} {t : TypeId} {b r o n : Nat} {l : List AV} {x : AV} {va vx : Value}
    (hc : x.cells = some l) (hn : szT P t = some n) (hln : l.length = n) (hput : putRow H b r o l = some (H', true)) (ha : VRel ρ (.ptr b r o) va) (hx : VRel ρ x vx) (hC : Cls F W0 ρ H W) :
    ∃ W', (Instr.storeAt t va vx).run P W = .ok () W' ∧ Cls F W0 ρ H' W' := by
  obtain ⟨y, y', hy, rfl, hw', hw, hcase⟩ := putRow_spec hput
  simp only [VRel] at ha
  obtain ⟨p, hp, rfl⟩ := ha
  have hcells := cells_rel hx hc
  have hlen := hcells.length
  have hone : ∀ v ∈ vx.cells.toList, v.oneCell' = true := fun v hv => by
    obtain ⟨j, hj⟩ := List.mem_iff_getElem?.1 hv
    have hjl : j < l.length := by rw [← hlen]; exact (List.getElem?_eq_some_iff.1 hj).1
    obtain ⟨w, h1, h2⟩ := hcells.get (List.getElem?_eq_getElem hjl)
    rw [hj] at h1; cases h1
    have := scal_ok h2 (allScal_get (cells_scal hc) j _ (List.getElem?_eq_getElem hjl))
    cases v <;> first | rfl | exact this.elim
  have hb := hC.rel.blk b y p hy hp
  -- the row of cells, wherever it lies
  have main : ∀ (cs : Array Value) (ty : TypeId), p.cap ≠ 0 → W.heap[p.blk]? = some (.cells cs ty (0, 0)) → p.off + r * p.sz + o + n ≤ cs.size →
      (∀ cs' : Array Value, cs'.size = cs.size → (∀ j, cs'[j]? = if p.off + r * p.sz + o ≤ j ∧ j < p.off + r * p.sz + o + n then vx.cells.toList[j - (p.off + r * p.sz + o)]? else cs[j]?) →
        ∀ W' : World, W'.heap[p.blk]? = some (.cells cs' ty (0, 0)) → BRel ρ W' p y') →
      ∃ W', (Instr.storeAt t (.pointer (some ⟨p.blk, p.off + r * p.sz + o, none⟩)) vx).run P W = .ok () W' ∧ Cls F W0 ρ (H.set b y') W' := by
    intro cs ty hcap hcs hfit hbr
    have hl : vx.cells.toList.length = n := by rw [hlen, hln]
    have hrun := run_storeCells_at P p.blk (p.off + r * p.sz + o) ty vx.cells.toList 0 cs W hcs (by rw [hl]; omega) hone
    simp only [Nat.add_zero] at hrun
    have hsz : vx.cells.size = n := by simpa using hl
    have hfull : (Instr.storeAt t (.pointer (some ⟨p.blk, p.off + r * p.sz + o, none⟩)) vx).run P W = .ok () (W.setRow p.blk (cs.toList.take (p.off + r * p.sz + o) ++ vx.cells.toList ++ cs.toList.drop (p.off + r * p.sz + o + vx.cells.toList.length)).toArray) := by
      simp only [Instr.storeAt, Instr.sureAddr, storeVar, Sem.run_bind, Sem.run_pure, Result.andThen_ok, run_sz hn]
      rw [if_neg (by simp [hsz])]
      exact hrun
    refine ⟨_, hfull, hC.turn hy hp hw hw' ⟨rfl, rfl, rfl, by simp [World.setRow]⟩ hcap (fun k hk => setRow_other W p.blk _ k hk) (hbr _ ?_ ?_ _ (setRow_heap W p.blk cs _ ty (0, 0) hcs))⟩
    · simp; omega
    · intro j
      simp only [List.getElem?_toArray]
      rw [seg_get _ _ _ _ (by rw [hl]; simpa using hfit), hl]
      simp
  rcases hcase with ⟨l0, l', rfl, rfl, hov, rfl⟩ | ⟨n0, sz, f, l', rfl, hrn, hov, rfl⟩
  · obtain ⟨cs, ty, fz, hcs, hfz, hsz, hcap, hget⟩ := hb
    have := hfz rfl; subst this
    obtain ⟨e1, e2, e3⟩ := overAt_spec hov
    by_cases hl0 : l0.length = 0
    · -- nothing in it: nothing is stored
      have hn0 : n = 0 := by omega
      subst hn0
      refine ⟨W, ?_, ?_⟩
      · have hz : vx.cells.toList = [] := List.eq_nil_of_length_eq_zero (by rw [hlen, hln])
        have hz' : vx.cells.size = 0 := by simpa using congrArg List.length hz
        simp only [Instr.storeAt, Instr.sureAddr, storeVar, Sem.run_bind, Sem.run_pure, Result.andThen_ok, run_sz hn]
        rw [if_neg (by simp [hz']), hz]
        rfl
      · exact hC.turn hy hp rfl rfl ⟨rfl, rfl, rfl, rfl⟩ hcap (fun _ _ => rfl) ⟨cs, ty, (0, 0), hcs, fun _ => rfl, by rw [hsz, e1], hcap, fun j x hj => by
          have : j < l'.length := (List.getElem?_eq_some_iff.1 hj).1
          omega⟩
    · have hfit : p.off + 0 * p.sz + o + n ≤ cs.size := by
        obtain ⟨v, hv, _⟩ := hget (l0.length - 1) _ (List.getElem?_eq_getElem (by omega))
        have := (Array.getElem?_eq_some_iff.1 hv).1
        omega
      refine main cs ty hcap hcs hfit fun cs' hs' hj' W' hW' => ⟨cs', ty, (0, 0), hW', fun _ => rfl, by rw [hsz, e1], hcap, fun j x hj => ?_⟩
      rw [e3] at hj
      rw [hj']
      split at hj
      · rename_i hc2
        rw [if_pos (by omega)]
        obtain ⟨v, hv, hr⟩ := hcells.get hj
        exact ⟨v, by rw [show p.off + j - (p.off + 0 * p.sz + o) = j - o by omega]; exact hv, hr⟩
      · rename_i hc2
        rw [if_neg (by omega)]
        exact hget j x hj
  · obtain ⟨hsz, hcap, hb⟩ := hb
    have hcap0 : p.cap ≠ 0 := by omega
    obtain ⟨cs, ty, fz, hcs, hfz, hsize, hall, hget⟩ := hb hcap0
    have := hfz rfl; subst this
    obtain ⟨e1, e2, e3⟩ := overAt_spec hov
    have hfr : (f r).length ≤ sz := by
      rcases Nat.eq_zero_or_pos (f r).length with h | h
      · omega
      · have := (hget r hrn ((f r).length - 1) _ (List.getElem?_eq_getElem (by omega))).1
        omega
    have hrow : (r + 1) * sz ≤ p.cap * sz := Nat.mul_le_mul_right _ (by omega)
    rw [Nat.add_mul] at hrow
    have hfit : p.off + r * p.sz + o + n ≤ cs.size := by rw [hsz]; omega
    refine main cs ty hcap0 hcs hfit fun cs' hs' hj' W' hW' => ⟨hsz, hcap, fun _ => ⟨cs', ty, (0, 0), hW', fun _ => rfl, by rw [hs']; exact hsize, fun k v hk hv => ?_, fun i hi j x hj => ?_⟩⟩
    · rw [hj'] at hv
      split at hv
      · exact hone v (List.mem_of_getElem? hv)
      · exact hall k v hk hv
    rw [hsz] at hj'
    unfold upd at hj
    obtain ⟨x0, hj, hup⟩ := mRow_get hj
    by_cases hir : i = r
    · subst hir
      simp only [Nat.beq_refl, cond_true, e3] at hj
      rw [hj']
      split at hj
      · rename_i hc2
        rw [if_pos (by omega)]
        obtain ⟨v, hv, hr⟩ := hcells.get hj
        exact ⟨by omega, v, by rw [show p.off + i * sz + j - (p.off + i * sz + o) = j - o by omega]; exact hv, hup _ _ hr⟩
      · rename_i hc2
        rw [if_neg (by omega)]
        obtain ⟨g1, v, g2, g3⟩ := hget i hi j x0 hj
        exact ⟨g1, v, g2, hup _ _ g3⟩
    · have : Nat.beq i r = false := by
        cases hbq : Nat.beq i r with
        | false => rfl
        | true => exact absurd (Nat.eq_of_beq_eq_true hbq) hir
      simp only [this, cond_false] at hj
      obtain ⟨h1, v, h2, h3⟩ := hget i hi j x0 hj
      refine ⟨h1, v, ?_, hup _ _ h3⟩
      rw [hj', if_neg]
      · exact h2
      · intro hc2
        rcases Nat.lt_or_gt_of_ne hir with hlt | hlt
        · have : (i + 1) * sz ≤ r * sz := Nat.mul_le_mul_right _ (by omega)
          rw [Nat.add_mul] at this
          omega
        · have : (r + 1) * sz ≤ i * sz := Nat.mul_le_mul_right _ (by omega)
          rw [Nat.add_mul] at this
          omega

theorem rep_len (l : List AV) : ∀ n, (rep l n).length = n * l.length
  | 0 => by simp [rep]
  | n + 1 => by simp [rep, rep_len l n, Nat.add_mul]; omega
theorem rep_get (l : List AV) (hl : 0 < l.length) : ∀ (n j : Nat), j < n * l.length → (rep l n)[j]? = l[j % l.length]?
  | 0, j, h => by omega
  | n + 1, j, h => by
    simp only [rep]
    by_cases hj : j < l.length
    · rw [List.getElem?_append_left hj, Nat.mod_eq_of_lt hj]
    · rw [List.getElem?_append_right (by omega), rep_get l hl n (j - l.length) (by rw [Nat.add_mul] at h; omega)]
      rw [← Nat.mod_eq_sub_mod (by omega)]

theorem buildSlice_run {P : Program} {W : World} {t e : TypeId} {len sz : Nat} {parts : Array (Nat × Value)} {u : Value} {arr : Array Value} (hu : P.underlying t = some (.slice e)) (hsz : szT P e = some sz) (hle : len * sz ≤ 16777216)
    (hz : (zeroValue e).run P W = .ok u W) (hf : Instr.fill (fun i => some (i * sz, sz)) ((Array.range (len * sz)).map ((if len * sz = 0 then #[] else u.cells)[· % (if len * sz = 0 then (#[] : Array Value) else u.cells).size]!)) parts.toList = some arr) :
    (Instr.buildSlice t len parts).run P W = .ok (.slice (some ⟨W.heap.size, 0, none⟩) len len) (W.alloc (.cells arr e)) := by
  unfold Instr.buildSlice
  simp only [Sem.run_bind, run_und hu, Result.andThen_ok, run_sz hsz]
  rw [if_neg (by omega)]
  by_cases h0 : len * sz = 0
  · rw [if_pos h0] at hf
    rw [if_pos h0]
    simp only [Sem.run_bind, Sem.run_pure, Result.andThen_ok, hf]
    rfl
  · rw [if_neg h0] at hf
    rw [if_neg h0]
    simp only [Sem.run_bind, hz, Sem.run_pure, Result.andThen_ok, hf]
    rfl

theorem fill_len {P : Program} {pl : Nat → Option (Nat × Nat)} : ∀ (ps : List (Nat × AV)) (l r : List AV), fillA P pl l ps = some r → r.length = l.length
  | [], l, r, h => by
    have h' : l = r := by cases l <;> simpa [fillA] using h
    rw [h']
  | (i, x) :: ps, l, r, h => by
    have h' : (match pl i, x.cells with
      | some (o, n), some cs => bif Nat.beq cs.length n then (match overAt l o cs with | some l' => fillA P pl l' ps | none => none) else none
      | _, _ => none) = some r := by cases l <;> exact h
    split at h'
    · obtain ⟨_, h'⟩ := cond_some h'
      split at h'
      · rename_i l' ho
        rw [fill_len ps _ _ h', (overAt_spec ho).1]
      · cases h'
    · cases h'

theorem rep_rel {ρ : List Place} {zc : List AV} {u : Array Value} {len sz : Nat} (hz : VRels ρ zc u.toList) (hl : zc.length = sz) (hp : 0 < sz) :
    VRels ρ (rep zc len) ((Array.range (len * sz)).map ((if len * sz = 0 then #[] else u)[· % (if len * sz = 0 then (#[] : Array Value) else u).size]!)).toList := by
  have hzl := hz.length
  simp only [Array.length_toList] at hzl
  refine VRels.of_get (by simp [rep_len, hl]) fun j x hj => ?_
  have hjl : j < len * sz := by
    have := (List.getElem?_eq_some_iff.1 hj).1
    rwa [rep_len, hl] at this
  rw [rep_get zc (by omega) len j (by rw [hl]; exact hjl), hl] at hj
  obtain ⟨w, hw, hwr⟩ := hz.get hj
  refine ⟨w, ?_, hwr⟩
  rw [if_neg (by omega)]
  simp only [Array.getElem?_toList] at hw
  simp only [Array.getElem?_toList, Array.getElem?_map, Array.getElem?_range, hjl, if_true, Option.map_some, Option.some.injEq]
  rw [show u.size = sz by omega, getElem!_def, hw]

theorem slice_new {P : Program} {F : Nat → Prop} {W0 W : World} {ρ : List Place} {H : List Blk} {l : List AV} {arr : Array Value} {len sz : Nat} {e : TypeId} {zc : List AV} (hl : l.length = len * sz) (hls : allScal l = true) (hr : VRels ρ l arr.toList) (hC : Cls F W0 ρ H W) :
    ∃ ρ', Ext ρ ρ' ∧ Cls F W0 ρ' (H ++ [.rows true len sz (fun i => bif Nat.blt i len then (l.drop (i * sz)).take sz else zc)]) (W.alloc (.cells arr e)) ∧ VRel ρ' (.slc H.length 0 len) (.slice (some ⟨W.heap.size, 0, none⟩) len len) := by
  have hal := hr.length
  simp only [Array.length_toList] at hal
  let q : Place := ⟨W.heap.size, 0, sz, len⟩
  refine ⟨ρ ++ [q], Ext.append ρ q, hC.alloc _ q _ rfl ?_, ?_⟩
  · refine ⟨rfl, Nat.le_refl _, fun _ => ⟨arr, e, (0, 0), heap_alloc_new W _, fun _ => rfl, by simp [q]; omega, fun k v hk hv => ?_, fun i hi j x hj => ?_⟩⟩
    · simp only [q, Nat.zero_add] at hv
      obtain ⟨h1, h2⟩ := Array.getElem?_eq_some_iff.1 hv
      have hjl : k < l.length := by omega
      obtain ⟨w, g1, g2⟩ := hr.get (List.getElem?_eq_getElem hjl)
      simp only [Array.getElem?_toList] at g1
      rw [hv] at g1; cases g1
      have := scal_ok g2 (allScal_get hls k _ (List.getElem?_eq_getElem hjl))
      cases v <;> first | rfl | exact this.elim
    have hbl : Nat.blt i len = true := by simpa [Nat.blt_eq] using hi
    simp only [hbl, cond_true] at hj
    rw [List.getElem?_take] at hj
    split at hj
    · rename_i hjs
      rw [List.getElem?_drop] at hj
      obtain ⟨w, hw, hwr⟩ := hr.get hj
      exact ⟨hjs, w, by simpa [q] using hw, hwr.ext (Ext.append ρ q)⟩
    · cases hj
  · simp only [VRel]
    exact ⟨q, _, new_last ρ H hC.rel.len q, rfl, by simp [q], by simp [q]⟩

end Go.Sx
