/- Slices that came in, as rows of cells. -/
import Derived.Test.YtpnjimpiphbcfaaSxArgs
import Derived.Test.YtpnjimpiphbcfaaSxGc
import Derived.ChangeArms
set_option linter.unusedSimpArgs false
set_option linter.unusedVariables false
namespace Go.Sx
open Go.RowKit Go.ChangeShapes

/-- the kinds of cells of a type without pointers -/
def kindsF (g : TypeId → Option (List LK)) (P : Program) : List Field → Nat → Option (List LK)
  | [], _ => some []
  | f :: t, off => bif Nat.beq f.offset off then (match g f.type with
    | some ks => bif Nat.beq (P.cellsOf f.type) ks.length then (match kindsF g P t (off + ks.length) with | some r => some (ks ++ r) | none => none) else none
    | none => none) else none
def repK (l : List LK) : Nat → List LK
  | 0 => []
  | n + 1 => l ++ repK l n
def kindsT (P : Program) : Nat → TypeId → Option (List LK)
  | 0, _ => none
  | d + 1, t => match P.underlying t with
    | some .bool => some [.bool]
    | some (.int k) => some [.int k]
    | some (.float k) => some [.flt k]
    | some .string => some [.str]
    | some (.struct fs) => match kindsF (kindsT P d) P fs.toList 0 with
      | some ks => bif Nat.beq (P.cellsOf t) ks.length then some ks else none
      | none => none
    | some (.array n e) => match kindsT P d e with
      | some ks => bif Nat.beq (P.cellsOf e) ks.length && Nat.beq (P.cellsOf t) (n * ks.length) then some (repK ks n) else none
      | none => none
    | _ => none

theorem typed_app : ∀ {ks ks' : List LK} {l l' : List AV}, Typed ks l → Typed ks' l' → Typed (ks ++ ks') (l ++ l')
  | [], ks', l, l', h, h' => by simp [Typed] at h; subst h; simpa using h'
  | k :: ks, ks', l, l', h, h' => by
    obtain ⟨x, t, rfl, hx, ht⟩ := h
    exact ⟨x, t ++ l', rfl, hx, typed_app ht h'⟩
theorem repK_len (l : List LK) : ∀ n, (repK l n).length = n * l.length
  | 0 => by simp [repK]
  | n + 1 => by simp [repK, repK_len l n, Nat.add_mul]; omega

theorem kt_one {k : LK} {v : Value} {ρ : List Place} {x : AV} (hx : k.has x) (hv : VRel ρ x v) (h1 : v.oneCell' = true) : ∃ l, Typed [k] l ∧ VRels ρ l [v] ∧ ∀ u ∈ [v], u.oneCell' = true :=
  ⟨[x], ⟨x, [], rfl, hx, rfl⟩, by simp only [VRels]; exact ⟨v, [], rfl, hv, rfl⟩, fun u hu => by simp at hu; subst hu; exact h1⟩

section
variable {H : Type} {enc : TypeId × Value → H} {P : Program} {w : World} {base : Nat} {spare : Nat → Bool} {held : Bool} {ρ : List Place}

theorem kindsT_ok : ∀ (d : Nat) (t : TypeId) (ks : List LK) (fuel : Nat) (cs : List Value) (x : DataW H × List MemPlace), kindsT P d t = some ks → DataW.trod enc P w base spare held fuel t cs = some x →
    ∃ l, Typed ks l ∧ VRels ρ l cs ∧ ∀ v ∈ cs, v.oneCell' = true
  | 0, _, _, _, _, _, h, _ => by simp [kindsT] at h
  | d + 1, t, ks, fuel, cs, x, hk, h => by
    simp only [kindsT] at hk
    split at hk
    · rename_i hu
      simp only [Option.some.injEq] at hk; subst hk
      obtain ⟨b, rfl, _⟩ := DataW.trod_bool hu h
      exact kt_one (x := .bool b) ⟨b, rfl⟩ (by simp [VRel]) rfl
    · rename_i k hu
      simp only [Option.some.injEq] at hk; subst hk
      obtain ⟨n, rfl, _, hw⟩ := DataW.trod_int hu h
      exact kt_one (x := .int k n) ⟨n, rfl, by simpa [Lit.wf] using hw⟩ (by simp [VRel]) rfl
    · rename_i k hu
      simp only [Option.some.injEq] at hk; subst hk
      have : ∃ b, cs = [.float k b] ∧ b < 2 ^ k.format.width := by
        cases fuel with
        | zero => simp [DataW.trod] at h
        | succ n =>
          unfold DataW.trod at h
          rw [hu] at h
          split at h <;> simp_all
          obtain ⟨⟨rfl, hw⟩, _⟩ := h
          revert hw
          cases ‹FloatKind› <;> simp [Lit.wf, FloatKind.format, Ieee.Format.width, Ieee.single, Ieee.double]
      obtain ⟨b, rfl, hb⟩ := this
      exact kt_one (x := .flt k (nrm k b)) ⟨nrm k b, rfl, b, hb, rfl⟩ (by simp only [VRel]; exact ⟨b, rfl, rfl, hb⟩) rfl
    · rename_i hu
      simp only [Option.some.injEq] at hk; subst hk
      obtain ⟨s, rfl, _, hw⟩ := DataW.trod_string hu h
      refine kt_one (x := .str s.data.toList) ⟨_, rfl, ?_⟩ (by simp [VRel]) rfl
      have h1 : s.size ≤ 9223372036854775807 := by simpa [maxLen] using hw
      have h2 : s.data.toList.length = s.size := by simp
      omega
    · rename_i fs hu
      obtain ⟨xs, n, rfl, rfl, hlen, hxs, hf⟩ := DataW.trod_struct hu h
      split at hk
      · rename_i ks' hks
        obtain ⟨hb, hk⟩ := cond_some hk
        simp only [Option.some.injEq] at hk; subst hk
        have hb := Nat.eq_of_beq_eq_true hb
        have key : ∀ (l : List Field) (off : Nat) (r : List LK), (∀ f ∈ l, ∃ y, DataW.trod enc P w base spare held n f.type ((cs.drop f.offset).take (P.cellsOf f.type)) = some y) → kindsF (kindsT P d) P l off = some r →
            ∃ a, Typed r a ∧ VRels ρ a ((cs.drop off).take r.length) ∧ ∀ v ∈ (cs.drop off).take r.length, v.oneCell' = true := by
          intro l
          induction l with
          | nil =>
            intro off r _ hr
            simp only [kindsF, Option.some.injEq] at hr; subst hr
            exact ⟨[], rfl, by simp [VRels], by simp⟩
          | cons f l ih =>
            intro off r hall hr
            simp only [kindsF] at hr
            obtain ⟨ho, hr⟩ := cond_some hr
            have ho := Nat.eq_of_beq_eq_true ho
            split at hr
            · rename_i k1 hk1
              obtain ⟨hc, hr⟩ := cond_some hr
              have hc := Nat.eq_of_beq_eq_true hc
              split at hr
              · rename_i k2 hk2
                simp only [Option.some.injEq] at hr; subst hr
                obtain ⟨y, hy⟩ := hall f List.mem_cons_self
                obtain ⟨a1, b1, b2, b3⟩ := kindsT_ok d f.type k1 n _ y hk1 hy
                obtain ⟨a2, c1, c2, c3⟩ := ih (off + k1.length) k2 (fun g hg => hall g (List.mem_cons_of_mem _ hg)) hk2
                rw [ho, hc] at b2 b3
                have e : (cs.drop off).take (k1 ++ k2).length = (cs.drop off).take k1.length ++ (cs.drop (off + k1.length)).take k2.length := by
                  rw [List.length_append, List.take_add, List.drop_drop]
                rw [e]
                refine ⟨a1 ++ a2, typed_app b1 c1, b2.append c2, fun v hv => ?_⟩
                rcases List.mem_append.1 hv with hv | hv
                · exact b3 v hv
                · exact c3 v hv
              · cases hr
            · cases hr
        obtain ⟨a, h1, h2, h3⟩ := key fs.toList 0 ks' (fun f hf' => by
          obtain ⟨i, hi⟩ := List.mem_iff_getElem?.1 hf'
          have hi' : fs[i]? = some f := by simpa using hi
          have := hf i f hi'
          have hlt : i < xs.length := by rw [hxs]; exact (Array.getElem?_eq_some_iff.1 hi').1
          rw [List.getElem?_eq_getElem hlt] at this
          exact ⟨_, this⟩) hks
        have e : (cs.drop 0).take ks'.length = cs := by rw [List.drop_zero, List.take_of_length_le (by omega)]
        rw [e] at h2 h3
        exact ⟨a, h1, h2, h3⟩
      · cases hk
    · rename_i m e hu
      split at hk
      · rename_i k1 hk1
        obtain ⟨hb, hk⟩ := cond_some hk
        simp only [Option.some.injEq] at hk; subst hk
        simp only [Bool.and_eq_true] at hb
        have hb1 := Nat.eq_of_beq_eq_true hb.1
        have hb2 := Nat.eq_of_beq_eq_true hb.2
        have : ∃ n, fuel = n + 1 ∧ cs.length = P.cellsOf t ∧ ∀ i, i < m → ∃ y, DataW.trod enc P w base spare held n e ((cs.drop (i * P.cellsOf e)).take (P.cellsOf e)) = some y := by
          cases fuel with
          | zero => simp [DataW.trod] at h
          | succ n =>
            unfold DataW.trod at h
            rw [hu] at h
            dsimp only at h
            split at h
            · rename_i hlen
              obtain ⟨xs, hp, _⟩ := Option.map_eq_some_iff.1 h
              refine ⟨n, rfl, hlen, fun i hi => ?_⟩
              have hl := mapM_some_length hp
              have := mapM_some_get hp i i (by simp [hi])
              rw [List.getElem?_eq_getElem (by rw [hl]; simpa using hi)] at this
              exact ⟨_, this⟩
            · cases h
        obtain ⟨n, rfl, hlen, hall⟩ := this
        have key : ∀ (j : Nat), j ≤ m → ∃ a, Typed (repK k1 j) a ∧ VRels ρ a ((cs.drop ((m - j) * k1.length)).take (j * k1.length)) ∧ ∀ v ∈ (cs.drop ((m - j) * k1.length)).take (j * k1.length), v.oneCell' = true := by
          intro j
          induction j with
          | zero => intro _; exact ⟨[], rfl, by simp [VRels], by simp⟩
          | succ j ih =>
            intro hj
            obtain ⟨a2, c1, c2, c3⟩ := ih (by omega)
            obtain ⟨y, hy⟩ := hall (m - (j + 1)) (by omega)
            rw [hb1] at hy
            obtain ⟨a1, b1, b2, b3⟩ := kindsT_ok d e k1 n _ y hk1 hy
            have e : (cs.drop ((m - (j + 1)) * k1.length)).take ((j + 1) * k1.length) = (cs.drop ((m - (j + 1)) * k1.length)).take k1.length ++ (cs.drop ((m - j) * k1.length)).take (j * k1.length) := by
              rw [show (j + 1) * k1.length = k1.length + j * k1.length by rw [Nat.add_mul]; omega, List.take_add, List.drop_drop]
              congr 3
              rw [show m - j = (m - (j + 1)) + 1 by omega, Nat.add_mul]; omega
            rw [e]
            refine ⟨a1 ++ a2, typed_app b1 c1, b2.append c2, fun v hv => ?_⟩
            rcases List.mem_append.1 hv with hv | hv
            · exact b3 v hv
            · exact c3 v hv
        obtain ⟨a, h1, h2, h3⟩ := key m (Nat.le_refl _)
        have e : (cs.drop ((m - m) * k1.length)).take (m * k1.length) = cs := by rw [Nat.sub_self, Nat.zero_mul, List.drop_zero, List.take_of_length_le (by omega)]
        rw [e] at h2 h3
        exact ⟨a, h1, h2, h3⟩
      · cases hk
    · cases hk

theorem cells?_spec {a : Addr} {n : Nat} {cs : List Value} (h : w.cells? 0 a n = some cs) : cs.length = n ∧ ∀ j, j < n → w.cell? (a.add j) = cs[j]? := by
  unfold World.cells? at h
  rw [if_pos (Nat.zero_le _)] at h
  have hl := mapM_some_length h
  refine ⟨by simpa using hl, fun j hj => ?_⟩
  have := mapM_some_get h j j (by simp [hj])
  exact this

theorem HRel.addRo {Hs : List Blk} {q : Place} {n sz : Nat} {f : Nat → List AV} (h : HRel ρ Hs w) (hro : ∀ (b : Nat) (x : Blk), Hs[b]? = some x → x.wr = false) (hb : BRel (ρ ++ [q]) w q (.rows false n sz f)) : HRel (ρ ++ [q]) (Hs ++ [.rows false n sz f]) w := by
  refine ⟨by simp [h.len], fun b x p hx hp => ?_, fun b c x z p r hne hx hz hp hr hw => ?_⟩
  · rcases len_get h.len q _ hp hx with ⟨h1, h2, _⟩ | ⟨_, rfl, rfl⟩
    · exact (h.blk b x p h2 h1).ext (Ext.append ρ q)
    · exact hb
  · rcases len_get h.len q _ hp hx with ⟨h1, h2, _⟩ | ⟨_, rfl, rfl⟩
    · rw [hro b x h2] at hw; cases hw
    · cases hw

theorem arg_slice {D : Nat} {r : Reach} {base' : Nat} {t e : TypeId} {ks : List LK} {v : Value} {dd : DataW H} {pp : List MemPlace} {Hs : List Blk} (hval : Value.okWide P w r base' t v) (h : DataW.Trod enc P w 0 (fun _ => true) held t v dd pp) (hu : P.underlying t = some (.slice e))
    (hk : kindsT P D e = some ks) (hsz : P.cellsOf e = ks.length) (h0 : 0 < ks.length) (hrel : HRel ρ Hs w) (hro : ∀ (b : Nat) (x : Blk), Hs[b]? = some x → x.wr = false) :
    ∃ (n : Nat) (f : Nat → List AV) (q : Place), n ≤ 9223372036854775807 ∧ (∀ i, i < n → Typed ks (f i)) ∧ HRel (ρ ++ [q]) (Hs ++ [.rows false n ks.length f]) w ∧ VRel (ρ ++ [q]) (.slc Hs.length 0 n) v := by
  have hv : v = .slice none 0 0 ∨ ∃ a len cap, v = .slice (some a) len cap := by
    unfold Value.okWide Cell.okWide Cell.ok at hval
    simp only [hu] at hval
    cases v <;> try exact hval.elim
    rename_i a len cap
    cases a with
    | some a => exact .inr ⟨a, len, cap, rfl⟩
    | none =>
      left
      cases len <;> cases cap <;> simp_all
  have nil : ∀ u, u = Value.slice none 0 0 → ∃ (n : Nat) (f : Nat → List AV) (q : Place), n ≤ 9223372036854775807 ∧ (∀ i, i < n → Typed ks (f i)) ∧ HRel (ρ ++ [q]) (Hs ++ [.rows false n ks.length f]) w ∧ VRel (ρ ++ [q]) (.slc Hs.length 0 n) u := fun u hu => by
    subst hu
    refine ⟨0, fun _ => [], ⟨0, 0, ks.length, 0⟩, by omega, fun i hi => by omega, hrel.addRo hro ⟨rfl, Nat.zero_le _, fun hc => absurd rfl hc⟩, ?_⟩
    simp only [VRel]
    exact ⟨_, none, new_last ρ Hs hrel.len _, rfl, by simp, by simp⟩
  rcases hv with rfl | ⟨a, len, cap, rfl⟩
  · exact nil _ rfl
  · obtain ⟨fuel, h⟩ := h
    rcases DataW.trod_slice hu h with ⟨h1, _⟩ | ⟨a', len', cap', elems, rest, m, rfl, hc, _, _, hlc, hmax, hel, hes, hrs, _⟩
    · simp [Value.cells] at h1
    · simp only [Value.cells, List.cons.injEq, Value.slice.injEq, Option.some.injEq, and_true] at hc
      obtain ⟨rfl, rfl, rfl⟩ := hc
      obtain ⟨hrl, hrs⟩ := hrs rfl
      have all : ∀ i, i < cap → ∃ cs y, w.cells? 0 (a.add (i * ks.length)) ks.length = some cs ∧ DataW.trod enc P w 0 (fun _ => true) held m e cs = some y := fun i hi => by
        have : ∃ y, (w.cells? 0 (a.add (i * P.cellsOf e)) (P.cellsOf e)).bind (DataW.trod enc P w 0 (fun _ => true) held m e) = some y := by
          rcases Nat.lt_or_ge i len with hl | hl
          · rw [hes i hl, List.getElem?_eq_getElem (by omega)]; exact ⟨_, rfl⟩
          · have := hrs (i - len) (by omega)
            rw [show len + (i - len) = i by omega] at this
            rw [this, List.getElem?_eq_getElem (by omega)]; exact ⟨_, rfl⟩
        obtain ⟨y, hy⟩ := this
        rw [hsz] at hy
        obtain ⟨cs, h1, h2⟩ := Option.bind_eq_some_iff.1 hy
        exact ⟨cs, y, h1, h2⟩
      have row : ∀ i, ∃ l : List AV, i < cap → ∃ cs : List Value, cs.length = ks.length ∧ (∀ j, j < ks.length → w.cell? ((a.add (i * ks.length)).add j) = cs[j]?) ∧ Typed ks l ∧ VRels ρ l cs ∧ ∀ u ∈ cs, u.oneCell' = true := fun i => by
        by_cases hi : i < cap
        · obtain ⟨cs, y, h1, h2⟩ := all i hi
          obtain ⟨l, g1, g2, g3⟩ := kindsT_ok (ρ := ρ) D e ks m cs y hk h2
          obtain ⟨c1, c2⟩ := cells?_spec h1
          exact ⟨l, fun _ => ⟨cs, c1, c2, g1, g2, g3⟩⟩
        · exact ⟨[], fun h => absurd h hi⟩
      let f : Nat → List AV := fun i => (row i).choose
      have hf : ∀ i, i < cap → ∃ cs : List Value, cs.length = ks.length ∧ (∀ j, j < ks.length → w.cell? ((a.add (i * ks.length)).add j) = cs[j]?) ∧ Typed ks (f i) ∧ VRels ρ (f i) cs ∧ ∀ u ∈ cs, u.oneCell' = true := fun i => (row i).choose_spec
      have hle : len ≤ 9223372036854775807 := by
        have := hmax
        simp only [maxLen] at this
        omega
      let q : Place := ⟨a.block, a.off, ks.length, cap⟩
      by_cases hc0 : cap = 0
      · subst hc0
        have : len = 0 := by omega
        subst this
        refine ⟨0, fun _ => [], ⟨a.block, a.off, ks.length, 0⟩, by omega, fun i hi => by omega, hrel.addRo hro ⟨rfl, Nat.zero_le _, fun hc => absurd rfl hc⟩, ?_⟩
        simp only [VRel]
        exact ⟨_, some a, new_last ρ Hs hrel.len _, rfl, by simp, by simp⟩
      · -- where it lies
        obtain ⟨cs0, z1, z2, z3, z4, z5⟩ := hf 0 (by omega)
        have hcell0 := z2 0 h0
        rw [List.getElem?_eq_getElem (by omega)] at hcell0
        have e0 : (a.add (0 * ks.length)).add 0 = a := by simp [Addr.add]
        rw [e0] at hcell0
        obtain ⟨c, ty, fz, hheap, hspot⟩ : ∃ c ty fz, w.heap[a.block]? = some (.cells c ty fz) ∧ a.spot = none := by
          unfold World.cell? at hcell0
          split at hcell0
          · rename_i c ty fz hh
            split at hcell0
            · cases hcell0
            · rename_i hs
              refine ⟨c, ty, fz, hh, ?_⟩
              cases hsp : a.spot with
              | none => rfl
              | some s => rw [hsp] at hs; simp at hs
          · cases hcell0
        obtain ⟨blk, off, spot⟩ := a
        simp only at hspot
        subst hspot
        have hcell : ∀ i, i < cap → ∀ j, j < ks.length → ∀ cs : List Value, w.cell? (((⟨blk, off, none⟩ : Addr).add (i * ks.length)).add j) = cs[j]? → c[off + i * ks.length + j]? = cs[j]? := fun i hi j hj cs h => by
          rw [add_none, add_none, cell_of_row w _ _ c ty fz hheap] at h
          exact h
        have hB : BRel (ρ ++ [q]) w q (.rows false len ks.length f) := by
          refine ⟨rfl, hlc, fun _ => ⟨c, ty, fz, hheap, by simp, ?_, fun k u hk' hu' => ?_, fun i hi j x hj => ?_⟩⟩
          · obtain ⟨cs, g1, g2, _, _, _⟩ := hf (cap - 1) (by omega)
            have := hcell (cap - 1) (by omega) (ks.length - 1) (by omega) cs (g2 _ (by omega))
            rw [List.getElem?_eq_getElem (show ks.length - 1 < cs.length by omega)] at this
            have hlt := (Array.getElem?_eq_some_iff.1 this).1
            have e1 : (cap - 1) * ks.length + ks.length = cap * ks.length := by rw [← Nat.succ_mul]; congr 1; omega
            simp only [q]
            omega
          · simp only [q] at hk' hu'
            have hi : k / ks.length < cap := Nat.div_lt_of_lt_mul (by rw [Nat.mul_comm]; exact hk')
            have hj : k % ks.length < ks.length := Nat.mod_lt _ h0
            obtain ⟨cs, g1, g2, _, _, g5⟩ := hf (k / ks.length) hi
            have := hcell _ hi _ hj cs (g2 _ hj)
            have e1 : off + k / ks.length * ks.length + k % ks.length = off + k := by
              have := Nat.div_add_mod k ks.length
              rw [Nat.mul_comm] at this; omega
            rw [e1, hu'] at this
            exact g5 u (List.mem_of_getElem? this.symm)
          · obtain ⟨cs, g1, g2, g3, g4, g5⟩ := hf i (by omega)
            have hjl : j < ks.length := by rw [← typed_len g3]; exact (List.getElem?_eq_some_iff.1 hj).1
            obtain ⟨u, hu1, hu2⟩ := g4.get hj
            refine ⟨hjl, u, ?_, hu2.ext (Ext.append ρ q)⟩
            simp only [q]
            rw [hcell i (by omega) j hjl cs (g2 j hjl)]
            exact hu1
        refine ⟨len, f, q, hle, fun i hi => ?_, hrel.addRo hro hB, ?_⟩
        · obtain ⟨cs, _, _, g3, _, _⟩ := hf i (by omega)
          exact g3
        · simp only [VRel]
          exact ⟨q, _, new_last ρ Hs hrel.len q, rfl, by simp [q]; exact hlc, fun _ => by simp [q]⟩

/-- a struct of one cell and a slice that came in -/
theorem arg_pair {D : Nat} {r : Reach} {base' : Nat} {t t0 t1 e : TypeId} {fs : Array Field} {k0 : LK} {ks : List LK} {v : Value} {dd : DataW H} {pp : List MemPlace} {Hs : List Blk} (hval : Value.okWide P w r base' t v) (h : DataW.Trod enc P w 0 (fun _ => true) held t v dd pp) (hu : P.underlying t = some (.struct fs))
    (hf : fs.toList.map (fun f => (f.type, f.offset)) = [(t0, 0), (t1, 1)]) (hts : P.cellTypes P.depth t = some [t0, t1]) (hn : P.cellsOf t = 2) (hk0 : lkOf P t0 = some k0) (hu1 : P.underlying t1 = some (.slice e)) (hn1 : P.cellsOf t1 = 1)
    (hk : kindsT P D e = some ks) (hsz : P.cellsOf e = ks.length) (h0 : 0 < ks.length) (hrel : HRel ρ Hs w) (hro : ∀ (b : Nat) (x : Blk), Hs[b]? = some x → x.wr = false) :
    ∃ (x : AV) (n : Nat) (f : Nat → List AV) (q : Place), k0.has x ∧ n ≤ 9223372036854775807 ∧ (∀ i, i < n → Typed ks (f i)) ∧ HRel (ρ ++ [q]) (Hs ++ [.rows false n ks.length f]) w ∧ VRel (ρ ++ [q]) (.agg [x, .slc Hs.length 0 n]) v := by
  have hv : ∃ cs : Array Value, v = .agg cs ∧ cs.size = P.cellsOf t ∧ Row.okWide P w r base' t cs := by
    unfold Value.okWide at hval
    rw [hu] at hval
    exact hval
  obtain ⟨cs, rfl, hcs, ts, hts', _, hrow⟩ := hv
  rw [hts] at hts'
  cases hts'
  rw [hn] at hcs
  obtain ⟨v0, v1, hl⟩ : ∃ v0 v1, cs.toList = [v0, v1] := by
    have : cs.toList.length = 2 := by simpa using hcs
    rcases hc : cs.toList with _ | ⟨a, _ | ⟨b, _ | ⟨c, l⟩⟩⟩ <;> rw [hc] at this <;> simp at this
    exact ⟨a, b, rfl⟩
  have g0 : cs[0]? = some v0 := by rw [← Array.getElem?_toList, hl]; rfl
  have g1 : cs[1]? = some v1 := by rw [← Array.getElem?_toList, hl]; rfl
  obtain ⟨u0, hu0, c0⟩ := hrow 0 v0 g0
  obtain ⟨u1, hu1', c1⟩ := hrow 1 v1 g1
  simp at hu0 hu1'
  subst hu0 hu1'
  obtain ⟨fuel, h⟩ := h
  have hcl : (Value.agg cs).cells.toList = [v0, v1] := by simpa [Value.cells] using hl
  rw [hcl] at h
  obtain ⟨xs, m, rfl, _, _, hxs, hfd⟩ := DataW.trod_struct hu h
  obtain ⟨fa, fb, hfe⟩ : ∃ fa fb, fs.toList = [fa, fb] := by
    have : fs.toList.length = 2 := by have := congrArg List.length hf; simpa using this
    rcases hc : fs.toList with _ | ⟨a, _ | ⟨b, _ | ⟨c, l⟩⟩⟩ <;> rw [hc] at this <;> simp at this
    exact ⟨a, b, rfl⟩
  rw [hfe] at hf
  simp at hf
  obtain ⟨⟨ha1, ha2⟩, hb1, hb2⟩ := hf
  have hsz2 : fs.size = 2 := by have := congrArg List.length hfe; simpa using this
  have e1 := hfd 1 fb (by rw [← Array.getElem?_toList, hfe]; rfl)
  rw [List.getElem?_eq_getElem (show 1 < xs.length by omega)] at e1
  rw [hb1, hb2, hn1] at e1
  simp only [List.drop_succ_cons, List.drop_zero, List.take_succ_cons, List.take_zero] at e1
  have hval1 : Value.okWide P w r base' t1 v1 := by
    unfold Value.okWide
    rw [hu1]
    exact c1
  have hone : v1.cells.toList = [v1] := by
    unfold Cell.okWide Cell.ok at c1
    simp only [hu1] at c1
    cases v1 <;> first | rfl | exact c1.elim
  obtain ⟨n, f, q, h1, h2, h3, h4⟩ := arg_slice (D := D) hval1 ⟨m, by rw [hone]; exact e1⟩ hu1 hk hsz h0 hrel hro
  obtain ⟨x, hx, hr⟩ := cell_typed (ρ := ρ ++ [q]) c0 hk0
  refine ⟨x, n, f, q, hx, h1, h2, h3, ?_⟩
  simp only [VRel]
  refine ⟨cs, rfl, ?_⟩
  rw [hl]
  simp only [VRels]
  exact ⟨v0, _, rfl, hr, v1, _, rfl, h4, rfl⟩

/-- is a type a struct of two such -/
def pairB (P : Program) (t t0 t1 : TypeId) : Bool := match P.underlying t with
  | some (.struct fs) => (match fs.toList with
    | [a, b] => Nat.beq a.type t0 && Nat.beq a.offset 0 && Nat.beq b.type t1 && Nat.beq b.offset 1
    | _ => false)
  | _ => false
theorem arg_pairB {D : Nat} {r : Reach} {base' : Nat} {t t0 t1 e : TypeId} {k0 : LK} {ks : List LK} {v : Value} {dd : DataW H} {pp : List MemPlace} {Hs : List Blk} (hval : Value.okWide P w r base' t v) (h : DataW.Trod enc P w 0 (fun _ => true) held t v dd pp) (hp : pairB P t t0 t1 = true)
    (hts : P.cellTypes P.depth t = some [t0, t1]) (hn : P.cellsOf t = 2) (hk0 : lkOf P t0 = some k0) (hu1 : P.underlying t1 = some (.slice e)) (hn1 : P.cellsOf t1 = 1)
    (hk : kindsT P D e = some ks) (hsz : P.cellsOf e = ks.length) (h0 : 0 < ks.length) (hrel : HRel ρ Hs w) (hro : ∀ (b : Nat) (x : Blk), Hs[b]? = some x → x.wr = false) :
    ∃ (x : AV) (n : Nat) (f : Nat → List AV) (q : Place), k0.has x ∧ n ≤ 9223372036854775807 ∧ (∀ i, i < n → Typed ks (f i)) ∧ HRel (ρ ++ [q]) (Hs ++ [.rows false n ks.length f]) w ∧ VRel (ρ ++ [q]) (.agg [x, .slc Hs.length 0 n]) v := by
  unfold pairB at hp
  split at hp
  · rename_i fs hu
    split at hp
    · rename_i a b hfe
      simp only [Bool.and_eq_true] at hp
      obtain ⟨⟨⟨h1, h2⟩, h3⟩, h4⟩ := hp
      have h1 := Nat.eq_of_beq_eq_true h1
      have h2 := Nat.eq_of_beq_eq_true h2
      have h3 := Nat.eq_of_beq_eq_true h3
      have h4 := Nat.eq_of_beq_eq_true h4
      exact arg_pair hval h hu (by rw [hfe]; simp [h1, h2, h3, h4]) hts hn hk0 hu1 hn1 hk hsz h0 hrel hro
    · cases hp
  · cases hp
end

-- rows by their columns
def getI : AV → Int
  | .int _ n => n
  | _ => 0
def getF : AV → Option Nat
  | .flt _ o => o
  | _ => none
def getB : AV → Bool
  | .bool b => b
  | _ => false
def getS : AV → List UInt8
  | .str s => s
  | _ => []
def canonC : LK → AV → AV
  | .int k, x => .int k (getI x)
  | .flt k, x => .flt k (getF x)
  | .bool, x => .bool (getB x)
  | .str, x => .str (getS x)
def canonR : List LK → Nat → List AV → List AV
  | [], _, _ => []
  | k :: ks, j, l => canonC k (gt l j) :: canonR ks (j + 1) l
theorem canonR_eq : ∀ (ks : List LK) (pre l : List AV), Typed ks l → canonR ks pre.length (pre ++ l) = l
  | [], pre, l, h => by simp [Typed] at h; subst h; rfl
  | k :: ks, pre, l, h => by
    obtain ⟨x, t, rfl, hx, ht⟩ := h
    have hg : gt (pre ++ x :: t) pre.length = x := by rw [gt_get]; simp
    have e : canonC k x = x := by
      cases k with
      | int k => obtain ⟨n, rfl, _⟩ := hx; rfl
      | flt k => obtain ⟨o, rfl, _⟩ := hx; rfl
      | bool => obtain ⟨b, rfl⟩ := hx; rfl
      | str => obtain ⟨s, rfl, _⟩ := hx; rfl
    simp only [canonR, hg, e]
    have := canonR_eq ks (pre ++ [x]) t ht
    rw [List.append_assoc] at this
    simp only [List.length_append, List.length_cons, List.length_nil, List.singleton_append] at this
    rw [this]
theorem canonR_typed {ks : List LK} {l : List AV} (h : Typed ks l) : canonR ks 0 l = l := canonR_eq ks [] l h
theorem HRel.canon {ρ : List Place} {Hs : List Blk} {W : World} {n sz : Nat} {f : Nat → List AV} {ks : List LK} {q : Place} (h : HRel (ρ ++ [q]) (Hs ++ [.rows false n sz f]) W) (hro : ∀ (b : Nat) (x : Blk), (Hs ++ [.rows false n sz f])[b]? = some x → x.wr = false) (hf : ∀ i, i < n → Typed ks (f i)) :
    HRel (ρ ++ [q]) (Hs ++ [.rows false n sz (fun i => canonR ks 0 (f i))]) W := by
  have hlen : ρ.length = Hs.length := by have := h.len; simpa using this
  have old : ∀ b y, (Hs ++ [.rows false n sz (fun i => canonR ks 0 (f i))])[b]? = some y → (b < Hs.length ∧ (Hs ++ [.rows false n sz f])[b]? = some y) ∨ (b = Hs.length ∧ y = .rows false n sz (fun i => canonR ks 0 (f i))) := fun b y hy => by
    rcases Nat.lt_trichotomy b Hs.length with hb | hb | hb
    · left
      rw [List.getElem?_append_left hb] at hy ⊢
      exact ⟨hb, hy⟩
    · right
      subst hb
      simp at hy
      exact ⟨rfl, hy.symm⟩
    · rw [List.getElem?_eq_none (by simp; omega)] at hy; cases hy
  refine ⟨by simp [hlen], fun b y p hy hp => ?_, fun b c y z p r hne hy hz hp hr hw => ?_⟩
  · rcases old b y hy with ⟨_, hy⟩ | ⟨rfl, rfl⟩
    · exact h.blk b y p hy hp
    · have hb := h.blk Hs.length (.rows false n sz f) p (by simp) hp
      exact (BLe.rows fun i hi => canonR_typed (hf i hi)).1 _ _ _ hb
  · rcases old b y hy with ⟨_, hy⟩ | ⟨rfl, rfl⟩
    · rw [hro b y hy] at hw; cases hw
    · cases hw
theorem ro_nil : ∀ (b : Nat) (x : Blk), ([] : List Blk)[b]? = some x → x.wr = false := fun b x h => by simp at h
theorem ro_app {Hs : List Blk} {n sz : Nat} {f : Nat → List AV} (h : ∀ (b : Nat) (x : Blk), Hs[b]? = some x → x.wr = false) : ∀ (b : Nat) (x : Blk), (Hs ++ [.rows false n sz f])[b]? = some x → x.wr = false := fun b x hx => by
  rcases Nat.lt_trichotomy b Hs.length with hb | hb | hb
  · rw [List.getElem?_append_left hb] at hx; exact h b x hx
  · subst hb; simp at hx; subst hx; rfl
  · rw [List.getElem?_eq_none (by simp; omega)] at hx; cases hx
end Go.Sx
