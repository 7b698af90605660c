/- Operations that make rows: make, append, copy, clear. -/
import Derived.Test.YtpnjimpiphbcfaaSxSeq
import Derived.Laws.MakeOwn
import Derived.Laws.BytesString
set_option linter.unusedSimpArgs false
set_option linter.unusedVariables false
namespace Go.Sx
open Go.RowKit

theorem ok_one {v : Value} (h : okCell v) : v.oneCell' = true := by cases v <;> first | rfl | exact h.elim

/-- what a type of elements says -/
theorem elemA_spec {P : Program} {t : TypeId} {sz : Nat} {zc : List AV} (h : elemA P t = some (sz, zc)) :
    ∃ e i zv, P.underlying t = some (.slice e) ∧ P.info? e = some i ∧ i.zero = some zv ∧ i.size = sz ∧ 0 < sz ∧ i.bytes ≤ 128 ∧ zc.length = sz ∧ allScal zc = true ∧ ∀ ρ, VRels ρ zc zv.cells.toList := by
  unfold elemA at h
  split at h
  · rename_i e hu
    split at h
    · rename_i i z hi hz
      split at h
      · rename_i zc' hzc
        obtain ⟨hb, h⟩ := cond_some h
        simp only [Option.some.injEq, Prod.mk.injEq] at h
        obtain ⟨rfl, rfl⟩ := h
        simp only [Bool.and_eq_true] at hb
        obtain ⟨⟨h1, h2⟩, h3⟩ := hb
        have h1 := Nat.eq_of_beq_eq_true h1
        have h2 : 0 < i.size := by simpa [Nat.blt_eq] using h2
        have h3 := Nat.le_of_ble_eq_true h3
        unfold zeroT at hz
        rw [hi] at hz
        simp only at hz
        cases hzv : i.zero with
        | none => rw [hzv] at hz; cases hz
        | some zv =>
          rw [hzv] at hz
          simp only [Option.some.injEq] at hz
          subst hz
          exact ⟨e, i, zv, hu, hi, hzv, rfl, h2, h3, h1, cells_scal hzc, fun ρ => cells_rel (absV_rel ρ zv) hzc⟩
      · cases h
    · cases h
  · cases h

theorem scal_cells {ρ : List Place} {l : List AV} {vs : List Value} (h : VRels ρ l vs) (hs : allScal l = true) : ∀ v ∈ vs, v.oneCell' = true := fun v hv => by
  obtain ⟨j, hj⟩ := List.mem_iff_getElem?.1 hv
  have hjl : j < l.length := by rw [← h.length]; exact (List.getElem?_eq_some_iff.1 hj).1
  obtain ⟨w, h1, h2⟩ := h.get (List.getElem?_eq_getElem hjl)
  rw [hj] at h1; cases h1
  exact ok_one (scal_ok h2 (allScal_get hs j _ (List.getElem?_eq_getElem hjl)))

/-- rows of noughts -/
theorem zero_rows {ρ : List Place} {zc : List AV} {z : Array Value} {sz : Nat} (hz : VRels ρ zc z.toList) (hl : zc.length = sz) (h0 : 0 < sz) {n k : Nat} (hk : k < n * sz) :
    ∃ v, (Builtin.zeroCells z n)[k]? = some v ∧ z[k % sz]? = some v := by
  have hzs : z.size = sz := by have := hz.length; simpa [hl] using this
  have hm : k % sz < z.size := by rw [hzs]; exact Nat.mod_lt _ h0
  refine ⟨z[k % sz], ?_, by simp [hm]⟩
  simp only [Builtin.zeroCells, Array.getElem?_map, hzs]
  rw [Array.getElem?_range, if_pos hk]
  simp only [Option.map_some, Option.some.injEq]
  rw [getElem!_pos z (k % sz) hm]

theorem make_ok {P : Program} {F : Nat → Prop} {W0 W : World} {ρ : List Place} {H H' : List Blk} {t : TypeId} {l c v : AV} {vl vc : Value} (h : makeA P H t l c = some (v, H', true)) (hl : VRel ρ l vl) (hc : VRel ρ c vc) (hC : Cls F W0 ρ H W) :
    ∃ ρ', Ext ρ ρ' ∧ ∃ u W', (Instr.makeSlice t vl vc).run P W = .ok u W' ∧ Cls F W0 ρ' H' W' ∧ VRel ρ' v u := by
  unfold makeA at h
  split at h
  · rename_i sz zc kl l kc c he
    simp only [Option.some.injEq, Prod.mk.injEq, Bool.and_eq_true, decide_eq_true_eq] at h
    obtain ⟨rfl, rfl, ⟨h0, h1⟩, h2⟩ := h
    obtain ⟨e, i, zv, hu, hi, hzv, rfl, hsz, hby, hzl, hzs, hzr⟩ := elemA_spec he
    rw [VRel_int hl, VRel_int hc]
    have h2' : c ≤ 1099511627776 := h2
    have hb : (i.bytes : Int) * c ≤ 281474976710656 := by
      have : (i.bytes : Int) * c ≤ 128 * c := Int.mul_le_mul_of_nonneg_right (by omega) (by omega)
      omega
    have hrun := run_make (P := P) W t e i zv hu hi hzv kl kc l c h0 h1 hb (by omega)
    let q : Place := ⟨W.heap.size, 0, i.size, c.toNat⟩
    refine ⟨ρ ++ [q], Ext.append ρ q, _, _, hrun, hC.alloc _ q _ rfl ?_, ?_⟩
    · have hzsz : zv.cells.size = i.size := by have := (hzr []).length; simpa [hzl] using this
      refine ⟨rfl, by show l.toNat ≤ c.toNat; omega, fun _ => ⟨_, e, (0, 0), heap_alloc_new W _, fun _ => rfl, by simp [q, size_madeCells], fun k v hk hv => ?_, fun r hr j x hj => ?_⟩⟩
      · have hk' : k < c.toNat * i.size := hk
        simp only [q, Nat.zero_add, madeCells, Array.getElem?_map, Array.getElem?_range, if_pos hk', Option.map_some, Option.some.injEq, hzsz] at hv
        have hm : k % i.size < zv.cells.size := by rw [hzsz]; exact Nat.mod_lt _ hsz
        rw [getElem!_pos zv.cells _ hm] at hv
        subst hv
        exact scal_cells (hzr []) hzs _ (by simp)
      · have hjl : j < i.size := by rw [← hzl]; exact (List.getElem?_eq_some_iff.1 hj).1
        refine ⟨hjl, ?_⟩
        obtain ⟨w, hw, hr'⟩ := (hzr (ρ ++ [q])).get hj
        refine ⟨w, ?_, hr'⟩
        have hlt : r * i.size + j < c.toNat * i.size := by
          have : (r + 1) * i.size ≤ c.toNat * i.size := Nat.mul_le_mul_right _ (by omega)
          rw [Nat.add_mul] at this
          omega
        simp only [q, Nat.zero_add, madeCells, Array.getElem?_map, Array.getElem?_range, if_pos hlt, Option.map_some, Option.some.injEq, hzsz]
        have hm : (r * i.size + j) % i.size = j := by rw [Nat.add_comm, Nat.add_mul_mod_self_right, Nat.mod_eq_of_lt hjl]
        rw [hm]
        simp only [Array.getElem?_toList] at hw
        rw [getElem!_def, hw]
    · simp only [VRel]
      refine ⟨q, _, new_last ρ H hC.rel.len q, rfl, by show 0 + l.toNat ≤ c.toNat; omega, fun _ => by simp [q]⟩
  · cases h

/-- a block that is not asked for any more -/
theorem Cls.kill {F : Nat → Prop} {W0 : World} {ρ : List Place} {H : List Blk} {W : World} (h : Cls F W0 ρ H W) (b : Nat) : Cls F W0 ρ (H.set b .dead) W := by
  have get : ∀ c y, (H.set b .dead)[c]? = some y → y = Blk.dead ∨ H[c]? = some y := fun c y hy => by
    rw [List.getElem?_set] at hy
    split at hy
    · split at hy
      · simp at hy; exact .inl hy.symm
      · cases hy
    · exact .inr hy
  refine ⟨⟨by simp [h.rel.len], fun c y q hy hq => ?_, fun c d y z q r hne hy hz hq hr hw hl => ?_⟩, h.fr, h.low, fun c y q hy hq hw => ?_⟩
  · rcases get c y hy with rfl | hy
    · trivial
    · exact h.rel.blk c y q hy hq
  · rcases get c y hy with rfl | hy
    · cases hw
    · rcases get d z hz with rfl | hz
      · cases hl
      · exact h.rel.apart c d y z q r hne hy hz hq hr hw hl
  · rcases get c y hy with rfl | hy
    · cases hw
    · exact h.free c y q hy hq hw

/-- a place without room -/
theorem Cls.phantom {F : Nat → Prop} {W0 : World} {ρ : List Place} {H : List Blk} {W : World} (h : Cls F W0 ρ H W) (q : Place) (w : Bool) (sz : Nat) (f : Nat → List AV) (hq : q.cap = 0) (hs : q.sz = sz) : Cls F W0 (ρ ++ [q]) (H ++ [.rows w 0 sz f]) W := by
  refine ⟨⟨by simp [h.rel.len], fun b x p hx hp => ?_, fun b c x z p r hne hx hz hp hr hw hl hcp hcr => ?_⟩, h.fr, h.low, fun b x p hx hp hw hcp => ?_⟩
  · rcases len_get h.rel.len q _ hp hx with ⟨h1, h2, _⟩ | ⟨_, rfl, rfl⟩
    · exact (h.rel.blk b x p h2 h1).ext (Ext.append ρ q)
    · exact ⟨hs, Nat.zero_le _, fun hc => absurd hq hc⟩
  · rcases len_get h.rel.len q _ hp hx with ⟨h1, h2, _⟩ | ⟨_, rfl, rfl⟩
    · rcases len_get h.rel.len q _ hr hz with ⟨h3, h4, _⟩ | ⟨_, rfl, rfl⟩
      · exact h.rel.apart b c x z p r hne h2 h4 h1 h3 hw hl hcp hcr
      · exact absurd hq hcr
    · exact absurd hq hcp
  · rcases len_get h.rel.len q _ hp hx with ⟨h1, h2, _⟩ | ⟨_, rfl, rfl⟩
    · exact h.free b x p h2 h1 hw hcp
    · exact absurd hq hcp

theorem slice3_ok {P : Program} {F : Nat → Prop} {W0 W : World} {ρ : List Place} {H : List Blk} {t : TypeId} {x m : AV} {lo hi : Option AV} {u mv : Value} {lv hv : Option Value}
    (h : slice3A P t x lo hi m = some true) (hx : VRel ρ x u) (rl : ORel ρ lo lv) (rh : ORel ρ hi hv) (rm : VRel ρ m mv) (hC : Cls F W0 ρ H W) :
    ∃ u', (Instr.sliceAt t u lv hv (some mv)).run P W = .ok u' W := by
  unfold slice3A at h
  split at h
  · rename_i e b r n l k hh k' mm hu hb
    split at h
    · rename_i sz hsz
      simp only [Option.some.injEq, Bool.and_eq_true, decide_eq_true_eq] at h
      obtain ⟨⟨⟨h0, h1⟩, h2⟩, h3⟩ := h
      obtain ⟨w, rfl, hw⟩ : ∃ w, hv = some w ∧ VRel ρ _ w := rh
      rw [VRel_int hw, VRel_int rm]
      simp only [VRel] at hx
      obtain ⟨p, y, hp, rfl, hcap, _⟩ := hx
      have hbd : (Instr.sliceBounds true n (p.cap - r) lv (some (.int k hh)) (some (.int k' mm))).run P W = .ok (l.toNat, hh.toNat, mm.toNat) W := by
        unfold Instr.sliceBounds
        simp only [Sem.run_bind]
        rw [sbound_run (by omega) (by omega)]
        simp only [Result.andThen_ok, Sem.run_bind]
        rw [sbound_run (by omega) (by omega)]
        simp only [Result.andThen_ok]
        cases lo with
        | none =>
          simp only [ORel] at rl; subst rl
          simp only [bndA, Option.some.injEq] at hb; subst hb
          simp
        | some x =>
          simp only [ORel] at rl
          obtain ⟨w', rfl, hw'⟩ := rl
          cases x <;> simp only [bndA, Option.some.injEq, reduceCtorEq] at hb
          subst hb
          rw [VRel_int hw']
          simp only [Sem.run_bind]
          rw [sbound_run (by omega) (by omega)]
          simp
      exact ⟨.slice (if mm.toNat = l.toNat then y else Option.map (fun x => x.add (l.toNat * sz)) y) (hh.toNat - l.toNat) (mm.toNat - l.toNat), by simp only [Instr.sliceAt, Instr.slice, Sem.run_bind, run_und hu, Result.andThen_ok, hbd, run_sz hsz, Sem.run_pure]⟩
    · cases h
  · cases h
theorem full_ok {P : Program} {F : Nat → Prop} {W0 W : World} {ρ : List Place} {H H' : List Blk} {t : TypeId} {x m v : AV} {lo hi : Option AV} {u mv : Value} {lv hv : Option Value}
    (h : fullA P H t x lo hi m = some (v, H', true)) (hx : VRel ρ x u) (rl : ORel ρ lo lv) (rh : ORel ρ hi hv) (rm : VRel ρ m mv) (hC : Cls F W0 ρ H W) :
    ∃ ρ', Ext ρ ρ' ∧ ∃ u', (Instr.sliceAt t u lv hv (some mv)).run P W = .ok u' W ∧ Cls F W0 ρ' H' W ∧ VRel ρ' v u' := by
  have is0_eq : ∀ {i : Int}, is0 i = true → i = 0 := fun {i} hi => by
    unfold is0 at hi
    split at hi
    · rfl
    · cases hi
  have bnd : ∀ (isS : Bool) (len cap : Nat) (l : Int) (k k' : IntKind), bndA 0 lo = some l → l = 0 → (Instr.sliceBounds isS len cap lv (some (.int k 0)) (some (.int k' 0))).run P W = .ok (0, 0, 0) W := by
    intro isS len cap l k k' hb hl
    subst hl
    unfold Instr.sliceBounds
    simp only [Sem.run_bind]
    rw [sbound_run (by omega) (by omega)]
    simp only [Result.andThen_ok, Sem.run_bind]
    rw [sbound_run (by omega) (by omega)]
    simp only [Result.andThen_ok]
    cases lo with
    | none =>
      simp only [ORel] at rl; subst rl
      simp
    | some x =>
      simp only [ORel] at rl
      obtain ⟨w, rfl, hw⟩ := rl
      cases x <;> simp only [bndA, Option.some.injEq, reduceCtorEq] at hb
      subst hb
      rw [VRel_int hw]
      simp only [Sem.run_bind]
      rw [sbound_run (by omega) (by omega)]
      simp
  unfold fullA at h
  split at h
  · rename_i sz zc b r n l k hh k' mm he hb
    obtain ⟨hz, h'⟩ := cond_some h
    simp only [Bool.and_eq_true] at hz
    obtain ⟨⟨z1, z2⟩, z3⟩ := hz
    have z2 := is0_eq z2; have z3 := is0_eq z3
    subst z2; subst z3
    simp only [Option.some.injEq, Prod.mk.injEq, and_true] at h'
    obtain ⟨rfl, rfl⟩ := h'
    obtain ⟨e, i, zv, hu, hi, hzv, rfl, hsz, hby, hzl, hzs, hzr⟩ := elemA_spec he
    obtain ⟨w, rfl, hw⟩ : ∃ w, hv = some w ∧ VRel ρ _ w := rh
    rw [VRel_int hw, VRel_int rm]
    simp only [VRel] at hx
    obtain ⟨p, a, hp, rfl, _⟩ := hx
    let q : Place := ⟨0, 0, i.size, 0⟩
    refine ⟨ρ ++ [q], Ext.append ρ q, .slice a 0 0, ?_, hC.phantom q true _ _ rfl rfl, ?_⟩
    · simp [Instr.sliceAt, Instr.slice, run_und hu, bnd _ _ _ l k k' hb (is0_eq z1), sizeOf, typeInfo, hi]
    · simp only [VRel]
      exact ⟨q, a, new_last ρ H hC.rel.len q, rfl, by simp [q], by simp [q]⟩
  · rename_i sz zc l k hh k' mm he hb
    obtain ⟨hz, h'⟩ := cond_some h
    simp only [Bool.and_eq_true] at hz
    obtain ⟨⟨z1, z2⟩, z3⟩ := hz
    have z2 := is0_eq z2; have z3 := is0_eq z3
    subst z2; subst z3
    simp only [Option.some.injEq, Prod.mk.injEq, and_true] at h'
    obtain ⟨rfl, rfl⟩ := h'
    obtain ⟨e, i, zv, hu, hi, hzv, rfl, hsz, hby, hzl, hzs, hzr⟩ := elemA_spec he
    obtain ⟨w, rfl, hw⟩ : ∃ w, hv = some w ∧ VRel ρ _ w := rh
    rw [VRel_int hw, VRel_int rm]
    simp only [VRel] at hx
    subst hx
    let q : Place := ⟨0, 0, i.size, 0⟩
    refine ⟨ρ ++ [q], Ext.append ρ q, .slice none 0 0, ?_, hC.phantom q true _ _ rfl rfl, ?_⟩
    · simp [Instr.sliceAt, Instr.slice, run_und hu, bnd _ _ _ l k k' hb (is0_eq z1), sizeOf, typeInfo, hi]
    · simp only [VRel]
      exact ⟨q, none, new_last ρ H hC.rel.len q, rfl, by simp [q], by simp [q]⟩
  · cases h

/-- the cells of some rows -/
theorem rows_cells {ρ : List Place} {W : World} {p : Place} {w : Bool} {N sz : Nat} {f : Nat → List AV} (hb : BRel ρ W p (.rows w N sz f)) (hc : p.cap ≠ 0) {q m : Nat} (hq : q + m ≤ N) :
    ∃ (cs : Array Value) (ty : TypeId) (fz : Nat × Nat) (vs : List Value), W.heap[p.blk]? = some (.cells cs ty fz) ∧ vs.length = m * sz ∧ (∀ k v, vs[k]? = some v → cs[p.off + q * sz + k]? = some v) ∧ (∀ v ∈ vs, v.oneCell' = true) ∧
      ∀ i, i < m → ∀ (j : Nat) (x : AV), (f (i + q))[j]? = some x → j < sz ∧ ∃ v, vs[i * sz + j]? = some v ∧ VRel ρ x v := by
  obtain ⟨hsz, hN, hb⟩ := hb
  obtain ⟨cs, ty, fz, hcs, _, hsize, hall, hget⟩ := hb hc
  have hle : (q + m) * sz ≤ p.cap * sz := Nat.mul_le_mul_right _ (by omega)
  rw [Nat.add_mul] at hle
  have hlen : ((cs.toList.drop (p.off + q * sz)).take (m * sz)).length = m * sz := by simp; omega
  have hk : ∀ (k : Nat) (v : Value), ((cs.toList.drop (p.off + q * sz)).take (m * sz))[k]? = some v → k < m * sz ∧ cs[p.off + q * sz + k]? = some v := fun k v h => by
    have hkl := (List.getElem?_eq_some_iff.1 h).1
    rw [hlen] at hkl
    rw [List.getElem?_take, if_pos hkl, List.getElem?_drop] at h
    exact ⟨hkl, by simpa using h⟩
  refine ⟨cs, ty, fz, _, hcs, hlen, fun k v h => (hk k v h).2, fun v hv => ?_, fun i hi j x hj => ?_⟩
  · obtain ⟨k, h⟩ := List.mem_iff_getElem?.1 hv
    obtain ⟨h1, h2⟩ := hk k v h
    exact hall (q * sz + k) v (by omega) (by rw [← Nat.add_assoc]; exact h2)
  · obtain ⟨h1, v, h2, h3⟩ := hget (i + q) (by omega) j x hj
    refine ⟨h1, v, ?_, h3⟩
    have hlt : i * sz + j < m * sz := by
      have : (i + 1) * sz ≤ m * sz := Nat.mul_le_mul_right _ (by omega)
      rw [Nat.add_mul] at this
      omega
    rw [List.getElem?_take, if_pos hlt, List.getElem?_drop, show p.off + q * sz + (i * sz + j) = p.off + (i + q) * sz + j by rw [Nat.add_mul]; omega]
    simpa using h2

/-- the first cells of a slice -/
theorem first_ok {P : Program} {ρ : List Place} {H : List Blk} {W : World} (h : HRel ρ H W) {c q m : Nat} {w : Bool} {M sz : Nat} {g : Nat → List AV} (hb : H[c]? = some (.rows w M sz g)) (hq : q + m ≤ M) {u : Value} (hu : VRel ρ (.slc c q m) u) :
    ∃ vs : List Value, vs.length = m * sz ∧ (∀ v ∈ vs, v.oneCell' = true) ∧ (Builtin.lenOf u = (Pure.pure m : Sem Nat)) ∧ (∀ W', W'.heap = W.heap → (Builtin.firstCells sz m u).run P W' = .ok vs.toArray W') ∧
      ∀ i, i < m → ∀ (j : Nat) (x : AV), (g (i + q))[j]? = some x → j < sz ∧ ∃ v, vs[i * sz + j]? = some v ∧ VRel ρ x v := by
  simp only [VRel] at hu
  obtain ⟨p, a, hp, rfl, hcap, ha⟩ := hu
  have hB := h.blk c _ p hb hp
  by_cases hm : m = 0
  · subst hm
    refine ⟨[], by simp, by simp, rfl, fun W' _ => ?_, fun i hi => by omega⟩
    cases a <;> simp [Builtin.firstCells, loadCells, loadCellsFrom]
  · have hc0 : p.cap ≠ 0 := by omega
    obtain ⟨cs, ty, fz, vs, h1, h2, h3, h4, h5⟩ := rows_cells hB hc0 hq
    have ha := ha (by omega)
    subst ha
    refine ⟨vs, h2, h4, rfl, fun W' hW => ?_, h5⟩
    refine run_firstCells_some (P := P) W' sz m _ m _ vs h2 fun j v hj => ?_
    rw [add_none, cell_of_row W' _ _ cs ty fz (by rw [hW]; exact h1)]
    have := h3 j v hj
    rw [hB.1]; exact this

/-- append, as the model has it -/
theorem append_core {P : Program} {W : World} {t u ty e : TypeId} {i : TypeInfo} {z : Value} (ht : P.underlying t = some (.slice e)) (hut : isSliceT P u = true) (hi : P.info? e = some i) (hz : i.zero = some z)
    {base : Option Addr} {n cap m : Nat} {x : Value} {olds news : List Value} (hx : Builtin.lenOf x = (Pure.pure m : Sem Nat))
    (hnews : ∀ W', W'.heap = W.heap → (Builtin.firstCells i.size m x).run P W' = .ok news.toArray W') (holds : ∀ W', W'.heap = W.heap → (Builtin.firstCells i.size n (.slice base n cap)).run P W' = .ok olds.toArray W')
    (hby : i.bytes ≤ 128) (hfew : n + m ≤ few) :
    (n + m ≤ cap → ∀ W', (match base with | some a => storeCells (a.add (n * i.size)) news | none => Pure.pure ()).run P W = .ok () W' → (Builtin.append_ #[t, u] ty #[.slice base n cap, x]).run P W = .ok (.slice base (n + m) cap) W') ∧
    (cap < n + m → (Builtin.append_ #[t, u] ty #[.slice base n cap, x]).run P W = .ok (.slice (some ⟨W.heap.size, 0, none⟩) (n + m) (grownCap W (n + m) cap e))
        (W.drew.alloc (.cells (olds.toArray ++ news.toArray ++ Builtin.zeroCells z.cells (grownCap W (n + m) cap e - (n + m))) e))) := by
  unfold few at hfew
  obtain ⟨e', hu'⟩ : ∃ e', P.underlying u = some (.slice e') := by
    unfold isSliceT at hut
    split at hut
    · rename_i e' h; exact ⟨e', h⟩
    · cases hut
  have hn1 := hnews W rfl
  have hn2 := hnews W.drew rfl
  have ho2 := holds W.drew rfl
  constructor
  · intro hle W' hst
    cases base with
    | none =>
      simp only [Sem.run_pure, Result.ok.injEq, true_and] at hst
      subst hst
      simp [Builtin.append_, run_underlying ht, run_underlying hu', sizeOf, typeInfo, hi, hx, hle, hn1]
    | some a =>
      simp [Builtin.append_, run_underlying ht, run_underlying hu', sizeOf, typeInfo, hi, hx, hle, hn1, hst]
  · intro hlt
    have h1 : ¬ (n + m ≤ cap) := by omega
    have h63 : ¬ (9223372036854775807 < ((n : Int) + (m : Int))) := by omega
    have hfit : Builtin.nextslicecap (n + m) cap * i.bytes ≤ 281474976710656 := growslice_fits hlt (by
      have : (n + m) * i.bytes ≤ 1099511627776 * 128 := Nat.mul_le_mul hfew hby
      omega)
    have h48 : ¬ (281474976710656 < Builtin.nextslicecap (n + m) cap * i.bytes) := by omega
    have hb0 : ¬ (9223372036854775807 < ((n : Int) + (m : Int)) ∧ i.bytes = 0) := fun h => h63 h.1
    simp [Builtin.append_, run_underlying ht, run_underlying hu', sizeOf, typeInfo, zeroValue, hi, hz, hx, h1, h63, h48, Question.forced, hn2, ho2, newRow, grownCap]
    congr 2
    apply Array.ext'
    simp [List.append_assoc]

theorem wrl {x : Blk} (h : x.wr = true) : x.live = true := by cases x <;> simp_all [Blk.live, Blk.wr]

/-- a block gives way to a new one at its own place -/
theorem Cls.move {F : Nat → Prop} {W0 : World} {ρ : List Place} {H : List Blk} {W W' : World} (h : Cls F W0 ρ H W) {b : Nat} {x y : Blk} {p q : Place} (hx : H[b]? = some x) (hp : ρ[b]? = some p) (hw : x.wr = true)
    (hq : q.cap ≠ 0 → q.blk = p.blk ∧ p.cap ≠ 0) (hos : W'.os = W.os ∧ W'.tape = W.tape ∧ W'.output = W.output ∧ W'.heap.size = W.heap.size) (hoth : ∀ k, (p.cap ≠ 0 → k ≠ p.blk) → W'.heap[k]? = W.heap[k]?)
    (hb : BRel (ρ ++ [q]) W' q y) : Cls F W0 (ρ ++ [q]) (H.set b .dead ++ [y]) W' := by
  have get : ∀ c z r, (ρ ++ [q])[c]? = some r → (H.set b .dead ++ [y])[c]? = some z → (c = H.length ∧ r = q ∧ z = y) ∨ z = Blk.dead ∨ (c ≠ b ∧ H[c]? = some z ∧ ρ[c]? = some r) := fun c z r hr hz => by
    rcases len_get (H := H.set b .dead) (by simp [h.rel.len]) q y hr hz with ⟨h1, h2, _⟩ | ⟨e1, e2, e3⟩
    · rw [List.getElem?_set] at h2
      split at h2
      · split at h2
        · simp at h2; exact .inr (.inl h2.symm)
        · cases h2
      · rename_i e; exact .inr (.inr ⟨fun e' => e e'.symm, h2, h1⟩)
    · exact .inl ⟨by simpa using e1, e2, e3⟩
  refine ⟨⟨by simp [h.rel.len], fun c z r hz hr => ?_, fun c d z v r s hne hz hv hr hs hwz hlv hcr hcs => ?_⟩, ⟨hos.1.trans h.fr.os, hos.2.1.trans h.fr.tape, hos.2.2.1.trans h.fr.output, by rw [hos.2.2.2]; exact h.fr.size, fun k hk => ?_⟩, h.low, fun c z r hz hr hwz hcr => ?_⟩
  · rcases get c z r hr hz with ⟨_, rfl, rfl⟩ | rfl | ⟨hne, hz, hr⟩
    · exact hb
    · trivial
    · exact ((h.rel.blk c z r hz hr).same fun hl hcr => hoth _ fun hpc e => h.rel.apart b c x z p r (Ne.symm hne) hx hz hp hr hw hl hpc hcr e.symm).ext (Ext.append ρ q)
  · rcases get c z r hr hz with ⟨e1, e2, e3⟩ | e2 | ⟨hnc, hz', hr'⟩
    · subst e2; subst e3
      rcases get d v s hs hv with ⟨e4, _, _⟩ | e4 | ⟨hnd, hv', hs'⟩
      · exact absurd (e1.trans e4.symm) hne
      · subst e4; cases hlv
      · obtain ⟨h1, h2⟩ := hq hcr
        rw [h1]
        exact h.rel.apart b d x v p s (Ne.symm hnd) hx hv' hp hs' hw hlv h2 hcs
    · subst e2; cases hwz
    · rcases get d v s hs hv with ⟨e4, e5, e6⟩ | e4 | ⟨hnd, hv', hs'⟩
      · subst e5; subst e6
        obtain ⟨h1, h2⟩ := hq hcs
        rw [h1]
        exact h.rel.apart c b z x r p hnc hz' hx hr' hp hwz (wrl hw) hcr h2
      · subst e4; cases hlv
      · exact h.rel.apart c d z v r s hne hz' hv' hr' hs' hwz hlv hcr hcs
  · rw [hoth k fun hpc e => h.free b x p hx hp hw hpc (e ▸ hk)]; exact h.fr.keep k hk
  · rcases get c z r hr hz with ⟨_, e2, e3⟩ | e2 | ⟨_, hz, hr⟩
    · subst e2; subst e3
      obtain ⟨h1, h2⟩ := hq hcr
      rw [h1]
      exact h.free b x p hx hp hw h2
    · subst e2; cases hwz
    · exact h.free c z r hz hr hwz hcr

/-- rows, as a list of cells has them -/
def RowsAt (ρ : List Place) (sz n : Nat) (f : Nat → List AV) (vs : List Value) : Prop :=
  ∀ i, i < n → ∀ (j : Nat) (x : AV), (f i)[j]? = some x → j < sz ∧ ∃ v, vs[i * sz + j]? = some v ∧ VRel ρ x v

theorem row_lt {i n sz j : Nat} (hi : i < n) (hj : j < sz) : i * sz + j < n * sz := by
  have : (i + 1) * sz ≤ n * sz := Nat.mul_le_mul_right _ hi
  rw [Nat.add_mul] at this
  omega

theorem RowsAt.cat {ρ : List Place} {sz n m : Nat} {f g : Nat → List AV} {xs ys : List Value} (h : RowsAt ρ sz n f xs) (k : RowsAt ρ sz m g ys) (hx : xs.length = n * sz) : RowsAt ρ sz (n + m) (catF n f g) (xs ++ ys) := fun i hi j x hj => by
  unfold catF at hj
  obtain ⟨x0, hj, hup⟩ := mRow_get hj
  by_cases hin : i < n
  · have hb : Nat.blt i n = true := by simpa [Nat.blt_eq] using hin
    simp only [hb, cond_true] at hj
    obtain ⟨h1, v, h2, h3⟩ := h i hin j x0 hj
    exact ⟨h1, v, by rw [List.getElem?_append_left (by rw [hx]; exact row_lt hin h1)]; exact h2, hup _ _ h3⟩
  · have hb : Nat.blt i n = false := by
      cases hbb : Nat.blt i n with
      | false => rfl
      | true => exact absurd (by simpa [Nat.blt_eq] using hbb) hin
    simp only [hb, cond_false] at hj
    obtain ⟨h1, v, h2, h3⟩ := k (i - n) (by omega) j x0 hj
    refine ⟨h1, v, ?_, hup _ _ h3⟩
    have e : i * sz = n * sz + (i - n) * sz := by rw [← Nat.add_mul, Nat.add_sub_cancel' (by omega)]
    rw [List.getElem?_append_right (by rw [hx, e]; omega), hx, show i * sz + j - n * sz = (i - n) * sz + j by omega]
    exact h2

/-- append that grows -/
theorem grow_ok {F : Nat → Prop} {W0 W : World} {ρ : List Place} {H : List Blk} {e : TypeId} {z : Array Value} {zc : List AV} {sz n m C : Nat} {f : Nat → List AV} {olds news : List Value} (hC : Cls F W0 ρ H W)
    (hzc : VRels ρ zc z.toList) (hzl : zc.length = sz) (hzs : allScal zc = true) (h0 : 0 < sz) (hk : RowsAt ρ sz (n + m) f (olds ++ news)) (hol : olds.length = n * sz) (ho1 : ∀ v ∈ olds, v.oneCell' = true) (hnl : news.length = m * sz)
    (hn1 : ∀ v ∈ news, v.oneCell' = true) (hge : n + m ≤ C) :
    ∃ ρ', Ext ρ ρ' ∧ Cls F W0 ρ' (H ++ [.rows true (n + m) sz f]) (W.drew.alloc (.cells (olds.toArray ++ news.toArray ++ Builtin.zeroCells z (C - (n + m))) e)) ∧
      VRel ρ' (.slc H.length 0 (n + m)) (.slice (some ⟨W.heap.size, 0, none⟩) (n + m) C) := by
  let q : Place := ⟨W.heap.size, 0, sz, C⟩
  have hzz : z.size = sz := by have := hzc.length; simpa [hzl] using this
  have hlen : (olds ++ news).length = (n + m) * sz := by rw [List.length_append, hol, hnl, Nat.add_mul]
  have hsz : (olds.toArray ++ news.toArray ++ Builtin.zeroCells z (C - (n + m))).size = C * sz := by
    have : (n + m) * sz + (C - (n + m)) * sz = C * sz := by rw [← Nat.add_mul, Nat.add_sub_cancel' hge]
    simp only [Array.size_append, List.size_toArray, size_zeroCells, hzz, hol, hnl]
    rw [← Nat.add_mul]; omega
  refine ⟨ρ ++ [q], Ext.append ρ q, (hC.drawn _).alloc _ q _ rfl ?_, ?_⟩
  · refine ⟨rfl, hge, fun _ => ⟨_, e, (0, 0), heap_alloc_new W.drew _, fun _ => rfl, by simp only [q, hsz]; omega, fun k v hk hv => ?_, fun i hi j x hj => ?_⟩⟩
    · simp only [q, Nat.zero_add] at hv
      have hv' : (olds ++ news ++ (Builtin.zeroCells z (C - (n + m))).toList)[k]? = some v := by
        rw [← Array.getElem?_toList] at hv
        simpa using hv
      rcases List.mem_append.1 (List.mem_of_getElem? hv') with h | h
      · rcases List.mem_append.1 h with h | h
        · exact ho1 v h
        · exact hn1 v h
      · obtain ⟨k', hk'⟩ := List.mem_iff_getElem?.1 h
        simp only [Array.getElem?_toList] at hk'
        have hlt := (Array.getElem?_eq_some_iff.1 hk').1
        rw [size_zeroCells, hzz] at hlt
        obtain ⟨w, h1, h2⟩ := zero_rows hzc hzl h0 hlt
        rw [hk'] at h1; cases h1
        exact scal_cells hzc hzs v (by
          rw [← Array.getElem?_toList] at h2
          exact List.mem_of_getElem? h2)
    · obtain ⟨h1, v, h2, h3⟩ := hk i hi j x hj
      refine ⟨h1, v, ?_, h3.ext (Ext.append ρ q)⟩
      simp only [q, Nat.zero_add]
      rw [← Array.getElem?_toList]
      simp only [Array.toList_append]
      rw [List.getElem?_append_left (by
        have := row_lt hi h1
        simp only [List.length_append, hol, hnl, ← Nat.add_mul]
        exact this)]
      exact h2
  · simp only [VRel]
    exact ⟨q, _, new_last ρ H hC.rel.len q, rfl, by simpa [q] using hge, fun _ => by simp [q]⟩

/-- cells put over a row's cells -/
theorem seg_cells {cs : Array Value} {vs : List Value} {o : Nat} (h : o + vs.length ≤ cs.size) (j : Nat) :
    ((cs.toList.take o ++ vs ++ cs.toList.drop (o + vs.length)).toArray)[j]? = if o ≤ j ∧ j < o + vs.length then vs[j - o]? else cs[j]? := by
  simp only [List.getElem?_toArray]
  rw [seg_get _ _ _ _ (by simpa using h)]
  simp

/-- append where there is room -/
theorem room_ok {P : Program} {F : Nat → Prop} {W0 W : World} {ρ : List Place} {H : List Blk} {sz n m b r N cap : Nat} {f g : Nat → List AV} {news : List Value} {base : Option Addr} (hC : Cls F W0 ρ H W) (hb : H[b]? = some (.rows true N sz f)) (hu : VRel ρ (.slc b r n) (.slice base n cap))
    (hrn : r + n ≤ N) (hn : RowsAt ρ sz m g news) (hnl : news.length = m * sz) (hn1 : ∀ v ∈ news, v.oneCell' = true) (hle : n + m ≤ cap) :
    ∃ ρ' W', Ext ρ ρ' ∧ (match base with | some a => storeCells (a.add (n * sz)) news | none => Pure.pure ()).run P W = .ok () W' ∧
      Cls F W0 ρ' (H.set b .dead ++ [.rows true (n + m) sz (catF n (shF f r) g)]) W' ∧ VRel ρ' (.slc H.length 0 (n + m)) (.slice base (n + m) cap) := by
  simp only [VRel] at hu
  obtain ⟨p, a, hp, hv, hcap, ha⟩ := hu
  simp only [Value.slice.injEq] at hv
  obtain ⟨rfl, _, rfl⟩ := hv
  have hB := hC.rel.blk b _ p hb hp
  obtain ⟨hsz, hN, hin⟩ := hB
  let q : Place := ⟨p.blk, p.off + r * sz, sz, p.cap - r⟩
  have hval : VRel (ρ ++ [q]) (.slc H.length 0 (n + m)) (.slice base (n + m) (p.cap - r)) := by
    simp only [VRel]
    exact ⟨q, _, new_last ρ H hC.rel.len q, rfl, by simpa [q] using hle, fun hne => by rw [ha hne]; simp [q, hsz]⟩
  by_cases hroom : p.cap - r = 0
  · have hm : m = 0 := by omega
    have hn0 : n = 0 := by omega
    subst hm; subst hn0
    have hnews : news = [] := List.eq_nil_of_length_eq_zero (by simpa using hnl)
    subst hnews
    refine ⟨ρ ++ [q], W, Ext.append ρ q, by cases base <;> rfl, hC.move hb hp rfl (fun hq => absurd hroom hq) ⟨rfl, rfl, rfl, rfl⟩ (fun _ _ => rfl) ⟨rfl, Nat.zero_le _, fun hc => absurd hroom hc⟩, hval⟩
  · have hc0 : p.cap ≠ 0 := by omega
    obtain ⟨cs, ty, fz, hcs, hfz, hsize, hall, hget⟩ := hin hc0
    have := hfz rfl; subst this
    have ha := ha hroom
    subst ha
    have hcm : r * sz + (p.cap - r) * sz = p.cap * sz := by rw [← Nat.add_mul, Nat.add_sub_cancel' (by omega)]
    have hle' : n * sz + m * sz ≤ (p.cap - r) * sz := by rw [← Nat.add_mul]; exact Nat.mul_le_mul_right _ hle
    have hfit : p.off + r * sz + n * sz + news.length ≤ cs.size := by rw [hnl]; omega
    have hst := run_storeCells_at P p.blk (p.off + r * sz + n * sz) ty news 0 cs W hcs (by simpa using hfit) hn1
    simp only [Nat.add_zero] at hst
    refine ⟨ρ ++ [q], W.setRow p.blk (cs.toList.take (p.off + r * sz + n * sz) ++ news ++ cs.toList.drop (p.off + r * sz + n * sz + news.length)).toArray, Ext.append ρ q, by simp only [add_none, hsz]; exact hst, hC.move hb hp rfl (fun _ => ⟨rfl, hc0⟩) ⟨rfl, rfl, rfl, by simp [World.setRow]⟩ (fun k hk => setRow_other W p.blk _ k (hk hc0)) ?_, hval⟩
    refine ⟨rfl, hle, fun _ => ⟨_, ty, (0, 0), setRow_heap W p.blk cs _ ty (0, 0) hcs, fun _ => rfl, ?_, fun k v hk hv => ?_, fun i hi j x hj => ?_⟩⟩
    · simp only [q, List.size_toArray, List.length_append, List.length_take, List.length_drop, Array.length_toList]
      omega
    · rw [seg_cells hfit] at hv
      split at hv
      · exact hn1 v (List.mem_of_getElem? hv)
      · simp only [q] at hk hv
        exact hall (r * sz + k) v (by omega) (by rw [← Nat.add_assoc]; exact hv)
    · rw [seg_cells hfit]
      unfold catF at hj
      obtain ⟨x0, hj, hup⟩ := mRow_get hj
      by_cases hlt : i < n
      · have hbl : Nat.blt i n = true := by simpa [Nat.blt_eq] using hlt
        simp only [hbl, cond_true, shF] at hj
        obtain ⟨h1, v, h2, h3⟩ := hget (i + r) (by omega) j x0 hj
        refine ⟨h1, v, ?_, hup _ _ (h3.ext (Ext.append ρ q))⟩
        have := row_lt hlt h1
        rw [if_neg (by simp only [q]; omega)]
        rw [Nat.add_mul] at h2
        rw [show q.off + i * sz + j = p.off + (i * sz + r * sz) + j by simp only [q]; omega]
        exact h2
      · have hbl : Nat.blt i n = false := by
          cases hbb : Nat.blt i n with
          | false => rfl
          | true => exact absurd (by simpa [Nat.blt_eq] using hbb) hlt
        simp only [hbl, cond_false] at hj
        obtain ⟨h1, v, h2, h3⟩ := hn (i - n) (by omega) j x0 hj
        refine ⟨h1, v, ?_, hup _ _ (h3.ext (Ext.append ρ q))⟩
        have e : i * sz = n * sz + (i - n) * sz := by rw [← Nat.add_mul, Nat.add_sub_cancel' (by omega)]
        have := row_lt (show i - n < m by omega) h1
        rw [if_pos (by simp only [q]; rw [hnl]; omega), show q.off + i * sz + j - (p.off + r * sz + n * sz) = (i - n) * sz + j by simp only [q]; omega]
        exact h2

/-- cells put over a block's rows from a row on -/
theorem over_ok {P : Program} {F : Nat → Prop} {W0 W : World} {ρ : List Place} {H : List Blk} {sz m b r N : Nat} {f g : Nat → List AV} {news : List Value} {p : Place} (hC : Cls F W0 ρ H W) (hb : H[b]? = some (.rows true N sz f)) (hp : ρ[b]? = some p)
    (hrm : r + m ≤ N) (hm : m ≠ 0) (hn : RowsAt ρ sz m g news) (hnl : news.length = m * sz) (hn1 : ∀ v ∈ news, v.oneCell' = true) :
    ∃ W', (storeCells ⟨p.blk, p.off + r * p.sz, none⟩ news).run P W = .ok () W' ∧ Cls F W0 ρ (H.set b (.rows true N sz (overF r m g f))) W' := by
  have hB := hC.rel.blk b _ p hb hp
  obtain ⟨hsz, hN, hin⟩ := hB
  have hc0 : p.cap ≠ 0 := by omega
  obtain ⟨cs, ty, fz, hcs, hfz, hsize, hall, hget⟩ := hin hc0
  have := hfz rfl; subst this
  have hle' : r * sz + m * sz ≤ p.cap * sz := by rw [← Nat.add_mul]; exact Nat.mul_le_mul_right _ (by omega)
  have hfit : p.off + r * sz + news.length ≤ cs.size := by rw [hnl]; omega
  have hst := run_storeCells_at P p.blk (p.off + r * sz) ty news 0 cs W hcs (by simpa using hfit) hn1
  simp only [Nat.add_zero] at hst
  refine ⟨W.setRow p.blk (cs.toList.take (p.off + r * sz) ++ news ++ cs.toList.drop (p.off + r * sz + news.length)).toArray, by rw [hsz]; exact hst, hC.turn hb hp rfl rfl ⟨rfl, rfl, rfl, by simp [World.setRow]⟩ hc0 (fun k hk => setRow_other W p.blk _ k hk) ?_⟩
  refine ⟨hsz, hN, fun _ => ⟨_, ty, (0, 0), setRow_heap W p.blk cs _ ty (0, 0) hcs, fun _ => rfl, ?_, fun k v hk hv => ?_, fun i hi j x hj => ?_⟩⟩
  · simp only [List.size_toArray, List.length_append, List.length_take, List.length_drop, Array.length_toList]
    omega
  · rw [seg_cells hfit] at hv
    split at hv
    · exact hn1 v (List.mem_of_getElem? hv)
    · exact hall k v hk hv
  · rw [seg_cells hfit]
    unfold overF at hj
    obtain ⟨x0, hj, hup⟩ := mRow_get hj
    by_cases hin : r ≤ i ∧ i < r + m
    · have hbl : (Nat.ble r i && Nat.blt i (r + m)) = true := by simp [Nat.blt_eq, Nat.ble_eq, hin]
      simp only [hbl, cond_true] at hj
      obtain ⟨h1, v, h2, h3⟩ := hn (i - r) (by omega) j x0 hj
      refine ⟨h1, v, ?_, hup _ _ h3⟩
      have e : i * sz = r * sz + (i - r) * sz := by rw [← Nat.add_mul, Nat.add_sub_cancel' hin.1]
      have := row_lt (show i - r < m by omega) h1
      rw [if_pos (by rw [hnl]; omega), show p.off + i * sz + j - (p.off + r * sz) = (i - r) * sz + j by omega]
      exact h2
    · have hbl : (Nat.ble r i && Nat.blt i (r + m)) = false := by
        cases hbb : (Nat.ble r i && Nat.blt i (r + m)) with
        | false => rfl
        | true =>
          simp only [Bool.and_eq_true, Nat.blt_eq, Nat.ble_eq] at hbb
          exact absurd hbb hin
      simp only [hbl, cond_false] at hj
      obtain ⟨h1, v, h2, h3⟩ := hget i hi j x0 hj
      refine ⟨h1, v, ?_, hup _ _ h3⟩
      rw [if_neg]
      · exact h2
      · rintro ⟨c1, c2⟩
        rw [hnl] at c2
        apply hin
        constructor
        · rcases Nat.lt_or_ge i r with hlt | hge
          · have := row_lt hlt h1
            omega
          · exact hge
        · rcases Nat.lt_or_ge i (r + m) with hlt | hge
          · exact hlt
          · have : (r + m) * sz ≤ i * sz := Nat.mul_le_mul_right _ hge
            rw [Nat.add_mul] at this
            omega

/-- a block's rows told by less -/
theorem Cls.congr {F : Nat → Prop} {W0 : World} {ρ : List Place} {H : List Blk} {W : World} (h : Cls F W0 ρ H W) {b N sz : Nat} {w : Bool} {f f' : Nat → List AV} (hb : H[b]? = some (.rows w N sz f))
    (hf : ∀ i, i < N → ∀ (j : Nat) (x : AV), (f' i)[j]? = some x → ∃ x0, (f i)[j]? = some x0 ∧ ∀ ρ v, VRel ρ x0 v → VRel ρ x v) : Cls F W0 ρ (H.set b (.rows w N sz f')) W := by
  have get : ∀ c y, (H.set b (.rows w N sz f'))[c]? = some y → (c = b ∧ y = .rows w N sz f') ∨ H[c]? = some y := fun c y hy => by
    rw [List.getElem?_set] at hy
    split at hy
    · rename_i e
      split at hy
      · simp at hy; exact .inl ⟨e.symm, hy.symm⟩
      · cases hy
    · exact .inr hy
  have old : ∀ c y, (H.set b (.rows w N sz f'))[c]? = some y → ∃ z : Blk, H[c]? = some z ∧ z.wr = Blk.wr y ∧ z.live = Blk.live y := fun c y hy => by
    rcases get c y hy with ⟨rfl, rfl⟩ | hy
    · exact ⟨_, hb, rfl, rfl⟩
    · exact ⟨y, hy, rfl, rfl⟩
  refine ⟨⟨by simp [h.rel.len], fun c y q hy hq => ?_, fun c d y z q r hne hy hz hq hr hw hl => ?_⟩, h.fr, h.low, fun c y q hy hq hw => ?_⟩
  · rcases get c y hy with ⟨rfl, rfl⟩ | hy
    · obtain ⟨h1, h2, h3⟩ := h.rel.blk c _ q hb hq
      refine ⟨h1, h2, fun hc => ?_⟩
      obtain ⟨cs, ty, fz, g1, g2, g3, g4, g5⟩ := h3 hc
      refine ⟨cs, ty, fz, g1, g2, g3, g4, fun i hi j x hj => ?_⟩
      obtain ⟨x0, hx0, hup⟩ := hf i (by omega) j x hj
      obtain ⟨k1, v, k2, k3⟩ := g5 i hi j x0 hx0
      exact ⟨k1, v, k2, hup _ _ k3⟩
    · exact h.rel.blk c y q hy hq
  · obtain ⟨y', hy', w1, _⟩ := old c y hy
    obtain ⟨z', hz', _, l1⟩ := old d z hz
    exact h.rel.apart c d y' z' q r hne hy' hz' hq hr (by rw [w1]; exact hw) (by rw [l1]; exact hl)
  · obtain ⟨y', hy', w1, _⟩ := old c y hy
    exact h.free c y' q hy' hq (by rw [w1]; exact hw)

theorem overF_none {a N : Nat} {g f : Nat → List AV} : ∀ i, i < N → ∀ (j : Nat) (x : AV), (overF a 0 g f i)[j]? = some x → ∃ x0, (f i)[j]? = some x0 ∧ ∀ ρ v, VRel ρ x0 v → VRel ρ x v := fun i _ j x hj => by
  unfold overF at hj
  obtain ⟨x0, hj, hup⟩ := mRow_get hj
  have : (Nat.ble a i && Nat.blt i (a + 0)) = false := by
    cases hb : (Nat.ble a i && Nat.blt i (a + 0)) with
    | false => rfl
    | true => simp only [Bool.and_eq_true, Nat.blt_eq, Nat.ble_eq] at hb; omega
  simp only [this, cond_false] at hj
  exact ⟨x0, hj, hup⟩

theorem append_ok {P : Program} {F : Nat → Prop} {W0 W : World} {ρ : List Place} {H H' : List Blk} {t u ty : TypeId} {s x v : AV} {us ux : Value} (h : appendA P H t s x = some (v, H', true)) (hut : isSliceT P u = true) (hs : VRel ρ s us) (hx : VRel ρ x ux) (hC : Cls F W0 ρ H W) :
    ∃ ρ', Ext ρ ρ' ∧ ∃ w W', (Builtin.append_ #[t, u] ty #[us, ux]).run P W = .ok w W' ∧ Cls F W0 ρ' H' W' ∧ VRel ρ' v w := by
  have nilx : ∀ (sz : Nat), Builtin.lenOf (.slice none 0 0) = (Pure.pure 0 : Sem Nat) ∧ ∀ W' : World, W'.heap = W.heap → (Builtin.firstCells sz 0 (.slice none 0 0)).run P W' = .ok ([] : List Value).toArray W' := fun sz => ⟨rfl, fun W' _ => by simp [Builtin.firstCells]⟩
  unfold appendA at h
  split at h
  · rename_i sz zc b r n c q m he
    obtain ⟨e, i, zv, hu, hi, hzv, rfl, hsz, hby, hzl, hzs, hzr⟩ := elemA_spec he
    split at h
    · rename_i N sz1 f w M sz2 g hbb hcc
      obtain ⟨h12, h'⟩ := cond_some h
      simp only [Bool.and_eq_true] at h12
      obtain ⟨e1, e2⟩ := h12
      have e1 := Nat.eq_of_beq_eq_true e1; have e2 := Nat.eq_of_beq_eq_true e2
      subst e1; subst e2
      rw [blkOf_get] at hbb hcc
      cases hbc : Nat.beq b c with
      | true =>
        rw [hbc] at h'
        have := Nat.eq_of_beq_eq_true hbc; subst this
        rw [hbb] at hcc
        simp only [Option.some.injEq, Blk.rows.injEq] at hcc
        obtain ⟨rfl, rfl, _, rfl⟩ := hcc
        simp only [cond_true, Option.some.injEq, Prod.mk.injEq, Bool.and_eq_true] at h'
        obtain ⟨rfl, rfl, ⟨o1, o2⟩, o3⟩ := h'
        have o1 := Nat.le_of_ble_eq_true o1; have o2 := Nat.le_of_ble_eq_true o2; have o3 := Nat.le_of_ble_eq_true o3
        obtain ⟨news, n1, n2, n3, n4, n5⟩ := first_ok (P := P) hC.rel hbb o2 hx
        obtain ⟨olds, l1, l2, l3, l4, l5⟩ := first_ok (P := P) hC.rel hbb (show r + n ≤ N by omega) hs
        have hs' := hs
        simp only [VRel] at hs
        obtain ⟨p, a, hp, rfl, hcap, ha⟩ := hs
        have hB := (hC.rel.blk b _ p hbb hp).2.1
        obtain ⟨c1, _⟩ := append_core (P := P) (W := W) (ty := ty) hu hut hi hzv n3 n4 l4 hby o3
        have hval : VRel ρ (.slc b r (n + m)) (.slice a (n + m) (p.cap - r)) := by
          simp only [VRel]
          exact ⟨p, a, hp, rfl, by omega, ha⟩
        rw [setB_eq]
        by_cases hm : m = 0
        · subst hm
          have hnews : news = [] := List.eq_nil_of_length_eq_zero (by simpa using n1)
          subst hnews
          exact ⟨ρ, Ext.refl ρ, _, W, c1 (by omega) W (by cases a <;> rfl), hC.congr hbb overF_none, hval⟩
        · have ha' := ha (by omega)
          subst ha'
          obtain ⟨W', h1, h2⟩ := over_ok (P := P) (r := r + n) hC hbb hp (by omega) hm n5 n1 n2
          refine ⟨ρ, Ext.refl ρ, _, W', c1 (by omega) W' ?_, h2, hval⟩
          have hps := (hC.rel.blk b _ p hbb hp).1
          simp only [add_none]
          rw [← hps]
          rw [Nat.add_mul, ← Nat.add_assoc] at h1
          exact h1
      | false =>
        rw [hbc] at h'
        simp only [cond_false, Option.some.injEq, Prod.mk.injEq, Bool.and_eq_true] at h'
        obtain ⟨rfl, rfl, ⟨o1, o2⟩, o3⟩ := h'
        have o1 := Nat.le_of_ble_eq_true o1; have o2 := Nat.le_of_ble_eq_true o2; have o3 := Nat.le_of_ble_eq_true o3
        obtain ⟨news, n1, n2, n3, n4, n5⟩ := first_ok (P := P) hC.rel hcc o2 hx
        obtain ⟨olds, l1, l2, l3, l4, l5⟩ := first_ok (P := P) hC.rel hbb o1 hs
        have hs' := hs
        simp only [VRel] at hs
        obtain ⟨p, a, hp, rfl, hcap, ha⟩ := hs
        obtain ⟨c1, c2⟩ := append_core (P := P) (W := W) (ty := ty) hu hut hi hzv n3 n4 l4 hby o3
        have hblt : b < H.length := (List.getElem?_eq_some_iff.1 hbb).1
        rw [setB_eq]
        by_cases hroom : n + m ≤ p.cap - r
        · obtain ⟨ρ', W', h1, h2, h3, h4⟩ := room_ok (P := P) hC hbb hs' o1 n5 n1 n2 hroom
          exact ⟨ρ', h1, _, W', c1 hroom W' h2, h3, h4⟩
        · obtain ⟨ρ', h1, h2, h3⟩ := grow_ok (e := e) (C := grownCap W (n + m) (p.cap - r) e) (f := catF n (shF f r) (shF g q)) hC (hzr ρ) hzl hzs hsz (RowsAt.cat l5 n5 l1) l1 l2 n1 n2 (grownCap_ge _ _ _ _)
          have h2 := h2.kill b
          rw [List.set_append_left _ _ hblt] at h2
          exact ⟨ρ', h1, _, _, c2 (by omega), h2, h3⟩
    · cases h
  · rename_i sz zc c q m he
    obtain ⟨e, i, zv, hu, hi, hzv, rfl, hsz, hby, hzl, hzs, hzr⟩ := elemA_spec he
    split at h
    · rename_i w M sz2 g hcc
      obtain ⟨e2, h'⟩ := cond_some h
      have e2 := Nat.eq_of_beq_eq_true e2
      subst e2
      rw [blkOf_get] at hcc
      simp only [Option.some.injEq, Prod.mk.injEq, Bool.and_eq_true] at h'
      obtain ⟨rfl, rfl, o1, o2⟩ := h'
      have o1 := Nat.le_of_ble_eq_true o1; have o2 := Nat.le_of_ble_eq_true o2
      obtain ⟨news, n1, n2, n3, n4, n5⟩ := first_ok (P := P) hC.rel hcc o1 hx
      simp only [VRel] at hs
      subst hs
      obtain ⟨c1, c2⟩ := append_core (P := P) (W := W) (ty := ty) (olds := []) (n := 0) hu hut hi hzv n3 n4 (nilx i.size).2 hby (by omega)
      simp only [Nat.zero_add] at c1 c2
      by_cases hm : m = 0
      · subst hm
        have hnews : news = [] := List.eq_nil_of_length_eq_zero (by simpa using n1)
        let pl : Place := ⟨0, 0, i.size, 0⟩
        refine ⟨ρ ++ [pl], Ext.append ρ pl, _, W, c1 (Nat.le_refl 0) W rfl, hC.phantom pl true _ _ rfl rfl, ?_⟩
        simp only [VRel]
        exact ⟨pl, none, new_last ρ H hC.rel.len pl, rfl, by simp [pl], by simp [pl]⟩
      · obtain ⟨ρ', h1, h2, h3⟩ := grow_ok (e := e) (C := grownCap W m 0 e) (n := 0) (m := m) (f := shF g q) (olds := []) hC (hzr ρ) hzl hzs hsz (by rw [Nat.zero_add, List.nil_append]; exact n5) (by simp) (by simp) n1 n2 (by simpa using grownCap_ge W m 0 e)
        simp only [Nat.zero_add] at h2 h3
        exact ⟨ρ', h1, _, _, c2 (by omega), h2, h3⟩
    · cases h
  · rename_i sz zc b r n he
    obtain ⟨e, i, zv, hu, hi, hzv, rfl, hsz, hby, hzl, hzs, hzr⟩ := elemA_spec he
    split at h
    · rename_i N sz1 f hbb
      obtain ⟨e2, h'⟩ := cond_some h
      have e2 := Nat.eq_of_beq_eq_true e2
      subst e2
      rw [blkOf_get] at hbb
      simp only [Option.some.injEq, Prod.mk.injEq, Bool.and_eq_true] at h'
      obtain ⟨rfl, rfl, o1, o2⟩ := h'
      have o1 := Nat.le_of_ble_eq_true o1; have o2 := Nat.le_of_ble_eq_true o2
      simp only [VRel] at hx
      subst hx
      obtain ⟨olds, l1, l2, l3, l4, l5⟩ := first_ok (P := P) hC.rel hbb o1 hs
      simp only [VRel] at hs
      obtain ⟨p, a, hp, rfl, hcap, ha⟩ := hs
      obtain ⟨c1, _⟩ := append_core (P := P) (W := W) (ty := ty) (news := []) (m := 0) hu hut hi hzv (nilx i.size).1 (nilx i.size).2 l4 hby (by omega)
      let q : Place := ⟨p.blk, p.off + r * i.size, i.size, p.cap - r⟩
      obtain ⟨hsz', hN, hin⟩ := hC.rel.blk b _ p hbb hp
      rw [setB_eq]
      refine ⟨ρ ++ [q], Ext.append ρ q, _, W, c1 (by omega) W (by cases a <;> rfl), hC.move hbb hp rfl (fun hq => ⟨rfl, fun hc => hq (by simp only [q]; omega)⟩) ⟨rfl, rfl, rfl, rfl⟩ (fun _ _ => rfl) ⟨rfl, by simp only [q]; omega, fun hq => ?_⟩, ?_⟩
      · have hq' : p.cap - r ≠ 0 := hq
        obtain ⟨cs, ty, fz, g1, g2, g3, g4, g5⟩ := hin (by omega)
        have hcm : r * i.size + (p.cap - r) * i.size = p.cap * i.size := by rw [← Nat.add_mul, Nat.add_sub_cancel' (by omega)]
        refine ⟨cs, ty, fz, g1, g2, by simp only [q]; omega, fun k v hk hv => ?_, fun i' hi' j x hj => ?_⟩
        · simp only [q] at hk hv
          exact g4 (r * i.size + k) v (by omega) (by rw [← Nat.add_assoc]; exact hv)
        · obtain ⟨k1, v, k2, k3⟩ := g5 (i' + r) (by omega) j x hj
          refine ⟨k1, v, ?_, k3.ext (Ext.append ρ q)⟩
          rw [Nat.add_mul] at k2
          rw [show q.off + i' * i.size + j = p.off + (i' * i.size + r * i.size) + j by simp only [q]; omega]
          exact k2
      · simp only [VRel]
        exact ⟨q, a, new_last ρ H hC.rel.len q, rfl, by simp only [q]; omega, fun hne => by rw [ha hne]; simp [q, hsz']⟩
    · cases h
  · cases h

theorem copy_ok {P : Program} {F : Nat → Prop} {W0 W : World} {ρ : List Place} {H H' : List Blk} {t u ty : TypeId} {d x v : AV} {ud ux : Value} (h : copyA P H t d x = some (v, H', true)) (hd : VRel ρ d ud) (hx : VRel ρ x ux) (hC : Cls F W0 ρ H W) :
    ∃ w W', (Builtin.copy_ #[t, u] ty #[ud, ux]).run P W = .ok w W' ∧ Cls F W0 ρ H' W' ∧ VRel ρ v w := by
  unfold copyA at h
  split at h
  · rename_i sz zc b r n c q m he
    obtain ⟨e, i, zv, hu, hi, hzv, rfl, hsz, hby, hzl, hzs, hzr⟩ := elemA_spec he
    split at h
    · rename_i N sz1 f w M sz2 g hbb hcc
      obtain ⟨h12, h'⟩ := cond_some h
      simp only [Bool.and_eq_true] at h12
      obtain ⟨e1, e2⟩ := h12
      have e1 := Nat.eq_of_beq_eq_true e1; have e2 := Nat.eq_of_beq_eq_true e2
      subst e1; subst e2
      rw [blkOf_get] at hbb hcc
      simp only [Option.some.injEq, Prod.mk.injEq, Bool.and_eq_true] at h'
      obtain ⟨rfl, rfl, o1, o2⟩ := h'
      have o1 := Nat.le_of_ble_eq_true o1; have o2 := Nat.le_of_ble_eq_true o2
      have hk : (bif Nat.ble m n then m else n) = Nat.min m n := by
        cases hb : Nat.ble m n with
        | true => have := Nat.le_of_ble_eq_true hb; simp [Nat.min_eq_left this]
        | false =>
          have : ¬ m ≤ n := fun h => by rw [Nat.ble_eq_true_of_le h] at hb; cases hb
          simp [Nat.min_eq_right (by omega : n ≤ m)]
      rw [hk, setB_eq]
      have hkm : Nat.min m n ≤ m := Nat.min_le_left m n
      have hkn : Nat.min m n ≤ n := Nat.min_le_right m n
      simp only [VRel] at hx
      obtain ⟨px, ax, hpx, rfl, hcapx, hax⟩ := hx
      have hx' : VRel ρ (.slc c q (Nat.min m n)) (.slice ax (Nat.min m n) (px.cap - q)) := by simp only [VRel]; exact ⟨px, ax, hpx, rfl, by omega, hax⟩
      obtain ⟨news, n1, n2, n3, n4, n5⟩ := first_ok (P := P) hC.rel hcc (by omega) hx'
      have n4 : (Builtin.firstCells i.size (Nat.min m n) (.slice ax m (px.cap - q))).run P W = .ok news.toArray W := by
        have := n4 W rfl
        cases ax <;> exact this
      simp only [VRel] at hd
      obtain ⟨p, a, hp, rfl, hcap, ha⟩ := hd
      have hrun : ∀ W', (match a with | some a => storeCells a news | none => Pure.pure ()).run P W = .ok () W' → (Builtin.copy_ #[t, u] ty #[.slice a n (p.cap - r), .slice ax m (px.cap - q)]).run P W = .ok (goInt (Nat.min m n : Nat)) W' := fun W' hst => by
        cases a with
        | none =>
          simp only [Sem.run_pure, Result.ok.injEq, true_and] at hst
          subst hst
          simp [Builtin.copy_, run_underlying hu, sizeOf, typeInfo, hi, Builtin.lenOf, n4]
        | some a =>
          simp [Builtin.copy_, run_underlying hu, sizeOf, typeInfo, hi, Builtin.lenOf, n4, hst]
      by_cases hm : Nat.min m n = 0
      · rw [hm] at n1 ⊢
        have hnews : news = [] := List.eq_nil_of_length_eq_zero (by simpa using n1)
        subst hnews
        rw [hm] at hrun
        exact ⟨_, W, hrun W (by cases a <;> rfl), hC.congr hbb overF_none, by simp [VRel, goInt]⟩
      · have ha' := ha (by omega)
        subst ha'
        obtain ⟨W', h1, h2⟩ := over_ok (P := P) (r := r) hC hbb hp (by omega) hm n5 n1 n2
        exact ⟨_, W', hrun W' h1, h2, by simp [VRel, goInt]⟩
    · cases h
  · cases h

theorem clear_ok {P : Program} {F : Nat → Prop} {W0 W : World} {ρ : List Place} {H H' : List Blk} {t ty : TypeId} {d v : AV} {ud : Value} (h : clearA P H t d = some (v, H', true)) (hd : VRel ρ d ud) (hC : Cls F W0 ρ H W) :
    ∃ w W', (Builtin.clear_ #[t] ty #[ud]).run P W = .ok w W' ∧ Cls F W0 ρ H' W' ∧ VRel ρ v w := by
  unfold clearA at h
  split at h
  · rename_i sz zc b r n he
    obtain ⟨e, i, zv, hu, hi, hzv, rfl, hsz, hby, hzl, hzs, hzr⟩ := elemA_spec he
    split at h
    · rename_i N sz1 f hbb
      obtain ⟨e2, h'⟩ := cond_some h
      have e2 := Nat.eq_of_beq_eq_true e2
      subst e2
      rw [blkOf_get] at hbb
      simp only [Option.some.injEq, Prod.mk.injEq] at h'
      obtain ⟨rfl, rfl, o1⟩ := h'
      have o1 := Nat.le_of_ble_eq_true o1
      rw [setB_eq]
      simp only [VRel] at hd
      obtain ⟨p, a, hp, rfl, hcap, ha⟩ := hd
      by_cases hm : n = 0
      · subst hm
        refine ⟨.tuple #[], W, ?_, hC.congr hbb overF_none, by simp [VRel]⟩
        cases a <;> simp [Builtin.clear_, run_underlying hu]
      · have ha' := ha (by omega)
        subst ha'
        have hz := hzr ρ
        have hrows : RowsAt ρ i.size n (fun _ => zc) (Builtin.zeroCells zv.cells n).toList := fun i' hi' j x hj => by
          have hjl : j < i.size := by rw [← hzl]; exact (List.getElem?_eq_some_iff.1 hj).1
          refine ⟨hjl, ?_⟩
          obtain ⟨w, h1, h2⟩ := zero_rows hz hzl hsz (row_lt hi' hjl)
          obtain ⟨w', h3, h4⟩ := hz.get hj
          have hm' : (i' * i.size + j) % i.size = j := by rw [Nat.add_comm, Nat.add_mul_mod_self_right, Nat.mod_eq_of_lt hjl]
          rw [hm'] at h2
          simp only [Array.getElem?_toList] at h3 ⊢
          rw [h2] at h3; cases h3
          exact ⟨w, h1, h4⟩
        have hone : ∀ v ∈ (Builtin.zeroCells zv.cells n).toList, v.oneCell' = true := fun v hv => by
          obtain ⟨k, hk⟩ := List.mem_iff_getElem?.1 hv
          simp only [Array.getElem?_toList] at hk
          have hzz : zv.cells.size = i.size := by have := hz.length; simpa [hzl] using this
          have hlt := (Array.getElem?_eq_some_iff.1 hk).1
          rw [size_zeroCells, hzz] at hlt
          obtain ⟨w, h1, h2⟩ := zero_rows hz hzl hsz hlt
          rw [hk] at h1; cases h1
          exact scal_cells hz hzs v (by
            rw [← Array.getElem?_toList] at h2
            exact List.mem_of_getElem? h2)
        obtain ⟨W', h1, h2⟩ := over_ok (P := P) (r := r) hC hbb hp o1 hm hrows (by
          have hzz : zv.cells.size = i.size := by have := hz.length; simpa [hzl] using this
          simp [size_zeroCells, hzz]) hone
        refine ⟨.tuple #[], W', ?_, h2, by simp [VRel]⟩
        obtain ⟨n', rfl⟩ : ∃ n', n = n' + 1 := ⟨n - 1, by omega⟩
        simp [Builtin.clear_, run_underlying hu, zeroValue, typeInfo, hi, hzv, h1]
    · cases h
  · cases h
theorem strF_spec {f : Nat → List AV} : ∀ {n r : Nat} {l : List UInt8}, strF f r n = some l → l.length = n ∧ ∃ ns : List Int, ns.length = n ∧ l = ns.map (fun y => UInt8.ofNat y.toNat) ∧ ∀ j y, ns[j]? = some y → ∃ x, f (r + j) = [x] ∧ delit x = .int .u8 y
  | 0, r, l, h => by
    simp only [strF, Option.some.injEq] at h; subst h
    exact ⟨rfl, [], rfl, rfl, by simp⟩
  | n + 1, r, l, h => by
    simp only [strF] at h
    split at h
    · rename_i x hx
      split at h
      · rename_i y hy
        split at h
        · rename_i t ht
          simp only [Option.some.injEq] at h; subst h
          obtain ⟨h1, ns, h2, rfl, h3⟩ := strF_spec ht
          refine ⟨by simp [h2], y :: ns, by simp [h2], rfl, fun j z hz => ?_⟩
          cases j with
          | zero => simp at hz; subst hz; exact ⟨x, hx, hy⟩
          | succ j =>
            have := h3 j z (by simpa using hz)
            rwa [show r + 1 + j = r + (j + 1) by omega] at this
        · cases h
      · cases h
    · cases h
theorem push_fold : ∀ (ns : List Int) (b : ByteArray), ns.foldl (fun r n => r.push (UInt8.ofNat n.toNat)) b = ⟨b.data ++ (ns.map fun y => UInt8.ofNat y.toNat).toArray⟩
  | [], b => by simp
  | y :: t, b => by
    rw [List.foldl_cons, push_fold t]
    simp [ByteArray.push]
theorem str_ok {P : Program} {F : Nat → Prop} {W0 W : World} {ρ : List Place} {H : List Blk} {s d : TypeId} {x : AV} {l : List UInt8} {u : Value}
    (h : strA P H s d x = some (l, true)) (hx : VRel ρ x u) (hC : Cls F W0 ρ H W) : (convert s d u).run P W = .ok (.string ⟨l.toArray⟩) W := by
  unfold strA at h
  split at h
  · rename_i e b r n hs hd
    split at h
    · rename_i w m f he hb
      split at h
      · rename_i l' hl
        simp only [Option.some.injEq, Prod.mk.injEq] at h
        obtain ⟨rfl, hle⟩ := h
        have hle := Nat.le_of_ble_eq_true hle
        obtain ⟨_, ns, hns, rfl, hcell⟩ := strF_spec hl
        simp only [VRel] at hx
        obtain ⟨p, a, hp, rfl, hcap, ha⟩ := hx
        have key : (convert s d (.slice a n (p.cap - r))).run P W = (Conv.bytesToString (.slice a n (p.cap - r))).run P W := by
          unfold convert
          rw [Sem.run_bind, run_und hs, Result.andThen_ok, Sem.run_bind, run_und hd, Result.andThen_ok]
          cases a <;> simp only [Sem.run_bind, run_und he, Result.andThen_ok]
        rw [key]
        cases a with
        | none =>
          have hn : n = 0 := by
            rcases Nat.eq_zero_or_pos n with h0 | h0
            · exact h0
            · have := ha (by omega); cases this
          subst hn
          have : ns = [] := List.length_eq_zero_iff.1 hns
          subst this
          rfl
        | some a =>
          have hload : (loadCells a n).run P W = .ok (ns.map (Value.int .u8)).toArray W := by
            rcases Nat.eq_zero_or_pos n with h0 | h0
            · subst h0
              have : ns = [] := List.length_eq_zero_iff.1 hns
              subst this
              rfl
            · have ha := ha (by omega)
              cases ha
              obtain ⟨hsz, hnc, hrow⟩ := hC.rel.blk b _ p (by rw [← blkOf_get]; exact hb) hp
              obtain ⟨cs, ty, fz, hc, _, _, _, hcs⟩ := hrow (by omega)
              rw [hsz]
              have e : n = (ns.map (Value.int .u8)).length := by simp [hns]
              rw [e]
              refine run_loadCells_list W _ _ fun j v hj => ?_
              rw [List.getElem?_map, Option.map_eq_some_iff] at hj
              obtain ⟨y, hy, rfl⟩ := hj
              have hjn : j < n := by rw [← hns]; exact (List.getElem?_eq_some_iff.1 hy).1
              obtain ⟨x, hx1, hx2⟩ := hcell j y hy
              obtain ⟨_, v, hv, hr⟩ := hcs (r + j) (by omega) 0 x (by rw [hx1]; rfl)
              have hr := delit_rel hr
              rw [hx2] at hr
              simp only [VRel] at hr
              subst hr
              rw [add_none, cell_of_row W _ _ cs ty fz hc, ← hv]
              congr 1
              omega
          rw [run_bytesToString W a n _ ns hload, push_fold]
          congr 2
          simp
      · cases h
    · cases h
  · cases h
--EVH
theorem unq_rel {ρ : List Place} {x : AV} {v : Value} (h : VRel ρ x v) : VRel ρ (unq x) v := by
  cases x <;> try exact h
  simp only [unq, VRel] at *
  obtain ⟨p, x, h1, h2, h3, h4, _⟩ := h
  exact ⟨p, x, h1, h2, h3, h4⟩
theorem evH_ok {P : Program} {F : Nat → Prop} {W0 W : World} {ρ : List Place} {st : St} {a : Act} {o : Oper} {v : AV} {H' : List Blk}
    (h : evH P st o = some (v, H', true)) (hs : SRel ρ st.slots a.tmps) (hC : Cls F W0 ρ st.heap W) :
    ∃ ρ', Ext ρ ρ' ∧ OkNext P (Cls F W0 ρ' H') (VRel ρ' v) ((execOp a.eval o).run P W) := by
  obtain ⟨dst, op, type, pos, after, guard⟩ := o
  cases op <;> simp only [evH, reduceCtorEq] at h
  case alloc t =>
    split at h
    · rename_i z hz
      split at h
      · rename_i l hl
        simp only [Option.some.injEq, Prod.mk.injEq, and_true] at h
        obtain ⟨rfl, rfl⟩ := h
        obtain ⟨u, hu, hr⟩ := run_zero (P := P) hz ρ W
        obtain ⟨ρ', he, w, h1, h2, h3⟩ := box_ok (P := P) (t := t) (cells_rel hr hl) hC
        refine ⟨ρ', he, ok_of_run (s := Instr.alloc t true (.tuple #[])) ?_ h2 h3⟩
        simpa [Instr.alloc, hu, newVar] using h1
      · cases h
    · cases h
  case box t x =>
    split at h
    · rename_i l hl
      simp only [Option.some.injEq, Prod.mk.injEq, and_true] at h
      obtain ⟨rfl, rfl⟩ := h
      obtain ⟨ρ', he, w, h1, h2, h3⟩ := box_ok (P := P) (t := t) (cells_rel (ev_rel hs x) hl) hC
      refine ⟨ρ', he, ok_of_run (s := Instr.box t (a.eval x)) ?_ h2 h3⟩
      simpa [Instr.box, newVar] using h1
    · cases h
  case store t x y =>
    split at h
    · rename_i b r o l n ex hl hn
      obtain ⟨hb, h'⟩ := cond_some h
      have hb := Nat.eq_of_beq_eq_true hb
      split at h'
      · rename_i H2 ob hput
        simp only [Option.some.injEq, Prod.mk.injEq] at h'
        obtain ⟨rfl, rfl, rfl⟩ := h'
        have hx := ev_rel hs x
        rw [ex] at hx
        obtain ⟨W', hrun, hC'⟩ := store_ok (P := P) hl hn hb hput hx (ev_rel hs y) hC
        refine ⟨ρ, Ext.refl ρ, ?_⟩
        simp only [execOp, Sem.run_bind, hrun, Result.andThen_ok, Sem.run_pure]
        exact ⟨hC', by simp [VRel]⟩
      · cases h'
    · cases h
  case convert s d x =>
    split at h
    · rename_i l ob hstr
      simp only [Option.some.injEq, Prod.mk.injEq] at h
      obtain ⟨rfl, rfl, rfl⟩ := h
      exact ⟨ρ, Ext.refl ρ, ok_of_run (str_ok hstr (ev_rel hs x) hC) hC (by simp [VRel])⟩
    · cases h
  case buildSlice t len parts =>
    split at h
    · rename_i e hu
      split at h
      · rename_i sz z hsz hz
        split at h
        · rename_i zc hzc
          obtain ⟨hb, h'⟩ := cond_some h
          simp only [Bool.and_eq_true] at hb
          obtain ⟨⟨hb1, hb2⟩, hb3⟩ := hb
          have hb1 := Nat.le_of_ble_eq_true hb1
          have hb2 := Nat.eq_of_beq_eq_true hb2
          have hb3 : 0 < sz := by simpa [Nat.blt_eq] using hb3
          split at h'
          · rename_i l hfill
            obtain ⟨hls, h'⟩ := cond_some h'
            simp only [Option.some.injEq, Prod.mk.injEq, and_true] at h'
            obtain ⟨rfl, rfl⟩ := h'
            obtain ⟨u, hu0, hr⟩ := run_zero (P := P) hz ρ W
            have hzr := cells_rel hr hzc
            have hp : PRels ρ (evP st parts.toList) (parts.map fun (i, x) => (i, a.eval x)).toList := by simpa using evP_rel hs parts.toList
            obtain ⟨arr, hf, hfr⟩ := fill_run (P := P) hfill hp (rep_rel (len := len) hzr hb2 hb3)
            have hll : l.length = len * sz := by rw [fill_len _ _ _ hfill, rep_len, hb2]
            obtain ⟨ρ', he, h2, h3⟩ := slice_new (P := P) (e := e) (zc := zc) hll hls hfr hC
            refine ⟨ρ', he, ?_⟩
            have hrun := buildSlice_run (P := P) (W := W) (len := len) hu hsz hb1 hu0 hf
            exact ok_of_run (s := Instr.buildSlice t len _) hrun h2 h3
          · cases h'
        · cases h
      · cases h
    · cases h
  case makeSlice t l c =>
    obtain ⟨ρ', he, u, W', hrun, hC', hv⟩ := make_ok (P := P) h (ev_rel hs l) (ev_rel hs c) hC
    exact ⟨ρ', he, ok_of_run (s := Instr.makeSlice t (a.eval l) (a.eval c)) hrun hC' hv⟩
  case slice t x lo hi mx =>
    cases mx with
    | none => simp [evH] at h
    | some m =>
      cases m <;> simp only [evH, reduceCtorEq] at h
      · rename_i m
        split at h
        · rename_i ob h3
          simp only [Option.some.injEq, Prod.mk.injEq] at h
          obtain ⟨rfl, rfl, rfl⟩ := h
          obtain ⟨u, hrun⟩ := slice3_ok (P := P) (W := W) h3 (ev_rel hs x) (orel_map hs lo) (orel_map hs hi) (ev_rel hs (.tmp m)) hC
          exact ⟨ρ, Ext.refl ρ, ok_of_run (s := Instr.sliceAt t (a.eval x) (lo.map a.eval) (hi.map a.eval) (some (a.eval (.tmp m)))) hrun hC (by simp [VRel])⟩
        · cases h
      rename_i m
      obtain ⟨ρ', he, u, hrun, hC', hv⟩ := full_ok (P := P) h (ev_rel hs x) (orel_map hs lo) (orel_map hs hi) (absV_rel ρ m) hC
      exact ⟨ρ', he, ok_of_run (s := Instr.sliceAt t (a.eval x) (lo.map a.eval) (hi.map a.eval) (some m)) hrun hC' hv⟩
  case call c =>
    obtain ⟨callee, args, argTypes⟩ := c
    have arr : ∀ {α : Type} {l : Array α} {m : List α}, l.toList = m → l = m.toArray := fun h => by rw [← h]
    simp only at h
    split at h
    · rename_i s x t u e2 e3
      have e2 := arr e2; have e3 := arr e3
      subst e2; subst e3
      obtain ⟨hut, h⟩ := cond_some h
      obtain ⟨ρ', he, w, W', hrun, hC', hv⟩ := append_ok (P := P) (ty := type) h hut (ev_rel hs s) (unq_rel (ev_rel hs x)) hC
      refine ⟨ρ', he, ?_⟩
      have e : (#[s, x] : Array Operand).map a.eval = #[a.eval s, a.eval x] := by simp
      show OkNext P _ _ ((builtin .append #[t, u] type ((#[s, x] : Array Operand).map fun | .const _ => true | _ => false) ((#[s, x] : Array Operand).map a.eval)).run P W)
      rw [e]
      exact ok_of_run (s := Builtin.append_ #[t, u] type #[a.eval s, a.eval x]) hrun hC' hv
    · rename_i d x t u e2 e3
      have e2 := arr e2; have e3 := arr e3
      subst e2; subst e3
      obtain ⟨hut, h⟩ := cond_some h
      obtain ⟨w, W', hrun, hC', hv⟩ := copy_ok (P := P) (u := u) (ty := type) h (ev_rel hs d) (ev_rel hs x) hC
      refine ⟨ρ, Ext.refl ρ, ?_⟩
      have e : (#[d, x] : Array Operand).map a.eval = #[a.eval d, a.eval x] := by simp
      show OkNext P _ _ ((builtin .copy #[t, u] type ((#[d, x] : Array Operand).map fun | .const _ => true | _ => false) ((#[d, x] : Array Operand).map a.eval)).run P W)
      rw [e]
      exact ok_of_run (s := Builtin.copy_ #[t, u] type #[a.eval d, a.eval x]) hrun hC' hv
    · rename_i d t e2 e3
      have e2 := arr e2; have e3 := arr e3
      subst e2; subst e3
      obtain ⟨w, W', hrun, hC', hv⟩ := clear_ok (P := P) (ty := type) h (ev_rel hs d) hC
      refine ⟨ρ, Ext.refl ρ, ?_⟩
      have e : (#[d] : Array Operand).map a.eval = #[a.eval d] := by simp
      show OkNext P _ _ ((builtin .clear #[t] type ((#[d] : Array Operand).map fun | .const _ => true | _ => false) ((#[d] : Array Operand).map a.eval)).run P W)
      rw [e]
      exact ok_of_run (s := Builtin.clear_ #[t] type #[a.eval d]) hrun hC' hv
    · cases h

end Go.Sx
