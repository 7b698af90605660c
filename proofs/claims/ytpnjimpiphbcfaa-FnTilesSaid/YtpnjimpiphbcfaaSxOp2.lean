/- More operations that leave memory as it is: conversions, slices, aggregates, places; and all of them together. -/
import Derived.Test.YtpnjimpiphbcfaaSxOp
import Derived.Laws.Tables
set_option linter.unusedSimpArgs false
set_option linter.unusedVariables false
namespace Go.Sx
open Go.RowKit

theorem un_ok {P : Program} {F : Nat → Prop} {W0 W : World} {ρ : List Place} {H : List Blk} {op : UnOp} {x v : AV} {u : Value}
    (h : unA op x = some v) (hx : VRel ρ x u) (hC : Cls F W0 ρ H W) : OkNext P (Cls F W0 ρ H) (VRel ρ v) ((toNext (Op.unary op u)).run P W) := by
  unfold unA at h
  split at h <;> (try cases h)
  · rw [VRel_bool hx]; exact ok_of_run (W' := W) rfl hC (by simp [VRel])
  · rw [VRel_int hx]; exact ok_of_run (W' := W) rfl hC (by simp [VRel])
  · simp only [VRel] at hx
    obtain ⟨m, rfl, hm, hl⟩ := hx
    exact ok_of_gv (neg_gv hm hl) hC

section
variable {P : Program} {s d : TypeId} {ud : TypeDesc} (hs : P.underlying s = some ud) (W : World)
include hs
theorem convert_ii {k k' : IntKind} {n : Int} (hd : P.underlying d = some (.int k)) : (convert s d (.int k' n)).run P W = (Conv.intToInt k n).run P W := by
  unfold convert
  rw [Sem.run_bind, run_und hs, Result.andThen_ok, Sem.run_bind, run_und hd, Result.andThen_ok]
theorem convert_if {k : FloatKind} {k' : IntKind} {n : Int} (hd : P.underlying d = some (.float k)) : (convert s d (.int k' n)).run P W = (Conv.intToFloat k n).run P W := by
  unfold convert
  rw [Sem.run_bind, run_und hs, Result.andThen_ok, Sem.run_bind, run_und hd, Result.andThen_ok]
theorem convert_fi {k : IntKind} {k' : FloatKind} {n : Nat} (hd : P.underlying d = some (.int k)) : (convert s d (.float k' n)).run P W = (Conv.floatToInt k' n k).run P W := by
  unfold convert
  rw [Sem.run_bind, run_und hs, Result.andThen_ok, Sem.run_bind, run_und hd, Result.andThen_ok]
theorem convert_ff {k k' : FloatKind} {n : Nat} (hd : P.underlying d = some (.float k)) : (convert s d (.float k' n)).run P W = (Conv.floatToFloat k' n k).run P W := by
  unfold convert
  rw [Sem.run_bind, run_und hs, Result.andThen_ok, Sem.run_bind, run_und hd, Result.andThen_ok]
end

theorem toNext_congr {P : Program} {s t : Sem Value} {W : World} (h : s.run P W = t.run P W) : (toNext s).run P W = (toNext t).run P W := by
  simp only [toNext, Sem.run_bind, h]

theorem conv_ok {P : Program} {F : Nat → Prop} {W0 W : World} {ρ : List Place} {H : List Blk} {s d : TypeId} {x v : AV} {u : Value}
    (h : convA P s d x = some (v, true)) (hx : VRel ρ x u) (hC : Cls F W0 ρ H W) : OkNext P (Cls F W0 ρ H) (VRel ρ v) ((toNext (convert s d u)).run P W) := by
  unfold convA at h
  split at h
  · rename_i ud k k' n hs hd
    simp only [Option.some.injEq, Prod.mk.injEq, and_true] at h; subst h
    rw [VRel_int hx, toNext_congr (convert_ii hs W hd)]
    exact ok_of_run (W' := W) (u := .int k (k.wrap n)) rfl hC (by simp [VRel])
  · rename_i ud k k' n hs hd
    simp only [Option.some.injEq, Prod.mk.injEq, and_true] at h; subst h
    rw [VRel_int hx, toNext_congr (convert_if hs W hd)]
    exact ok_of_gv (P := P) (fofI_gv (ρ := ρ) k n) hC
  · rename_i ud k fk o hs hd
    simp only [Option.some.injEq, Prod.mk.injEq] at h
    obtain ⟨rfl, hob⟩ := h
    simp only [VRel] at hx
    obtain ⟨m, rfl, hm, _⟩ := hx
    rw [toNext_congr (convert_fi hs W hd)]
    exact ok_of_gv (P := P) (ftoI_gv (ρ := ρ) (d := k) hm hob) hC
  · rename_i ud k fk o hs hd
    simp only [VRel] at hx
    obtain ⟨m, rfl, hm, hl⟩ := hx
    rw [toNext_congr (convert_ff hs W hd)]
    split at h
    · simp only [Option.some.injEq, Prod.mk.injEq, and_true] at h; subst h
      exact ok_of_gv (P := P) (wide_gv (ρ := ρ) hm) hC
    · simp only [Option.some.injEq, Prod.mk.injEq] at h
      obtain ⟨rfl, hob⟩ := h
      exact ok_of_gv (P := P) (nar_gv (ρ := ρ) hm hob) hC
    · rename_i k1 k2 hn1 hn2
      simp only [Option.some.injEq, Prod.mk.injEq, and_true] at h; subst h
      have he : k = fk := by cases k <;> cases fk <;> first | rfl | exact (hn1 rfl rfl).elim | exact (hn2 rfl rfl).elim
      subst he
      exact ok_of_gv (P := P) (same_gv (ρ := ρ) hm hl) hC
  · rename_i a hs hd
    simp only [Option.some.injEq, Prod.mk.injEq, and_true] at h; subst h
    refine ok_of_run (W' := W) (u := u) ?_ hC hx
    simp only [VRel] at hx
    subst hx
    unfold convert
    rw [Sem.run_bind, run_und hs, Result.andThen_ok, Sem.run_bind, run_und hd, Result.andThen_ok]
    rfl
  · cases h

/-- an optional bound and its value -/
def ORel (ρ : List Place) : Option AV → Option Value → Prop
  | none, v => v = none
  | some x, v => ∃ u, v = some u ∧ VRel ρ x u


theorem sbound_run {P : Program} {W : World} {k : IntKind} {l : Int} {y : Nat} {c : BoundsCode} (h0 : 0 ≤ l) (h1 : l ≤ y) : (Instr.sliceBound (.int k l) y c).run P W = .ok l.toNat W := by
  simp [Instr.sliceBound, asIntOf, h0, h1]

theorem bounds_run {P : Program} {W : World} {ρ : List Place} {isS : Bool} {len cap : Nat} {lo hi : Option AV} {lv hv : Option Value} {l h : Int}
    (hl : bndA 0 lo = some l) (hh : bndA len hi = some h) (rl : ORel ρ lo lv) (rh : ORel ρ hi hv) (h0 : 0 ≤ l) (h1 : l ≤ h) (h2 : h ≤ (cap : Int)) (h3 : len ≤ cap) :
    (Instr.sliceBounds isS len cap lv hv none).run P W = .ok (l.toNat, h.toNat, cap) W := by
  unfold Instr.sliceBounds
  simp only [Sem.run_bind, Sem.run_pure, Result.andThen_ok]
  cases hi with
  | none =>
    simp only [ORel] at rh; subst rh
    simp only [bndA, Option.some.injEq] at hh; subst hh
    simp only [Sem.run_pure, Result.andThen_ok]
    cases lo with
    | none =>
      simp only [ORel] at rl; subst rl
      simp only [bndA, Option.some.injEq] at hl; subst hl
      simp
    | some x =>
      simp only [ORel] at rl
      obtain ⟨u, rfl, hu⟩ := rl
      cases x <;> simp only [bndA, Option.some.injEq, reduceCtorEq] at hl
      subst hl
      rw [VRel_int hu]
      simp only [Option.isSome_none, Bool.false_eq_true, if_false, Sem.run_bind, Sem.run_pure, Result.andThen_ok]
      rw [sbound_run (by omega) (by omega)]
      simp
  | some y =>
    simp only [ORel] at rh
    obtain ⟨w, rfl, hw⟩ := rh
    cases y <;> simp only [bndA, Option.some.injEq, reduceCtorEq] at hh
    subst hh
    rw [VRel_int hw]
    simp only [Sem.run_bind]
    rw [sbound_run (by omega) (by omega)]
    simp only [Result.andThen_ok]
    cases lo with
    | none =>
      simp only [ORel] at rl; subst rl
      simp only [bndA, Option.some.injEq] at hl; subst hl
      simp
    | some x =>
      simp only [ORel] at rl
      obtain ⟨u, rfl, hu⟩ := rl
      cases x <;> simp only [bndA, Option.some.injEq, reduceCtorEq] at hl
      subst hl
      rw [VRel_int hu]
      simp only [Option.isSome_none, Bool.false_eq_true, if_false, Sem.run_bind, Sem.run_pure, Result.andThen_ok]
      rw [sbound_run (by omega) (by omega)]
      simp

theorem extract_list (s : List UInt8) (l h : Nat) : (⟨s.toArray⟩ : ByteArray).extract l h = ⟨((s.take h).drop l).toArray⟩ := by
  apply ByteArray.ext
  rw [ByteArray.data_extract]
  apply Array.ext'
  simp [Array.toList_extract, List.extract, List.drop_take]

theorem slice_ok {P : Program} {F : Nat → Prop} {W0 W : World} {ρ : List Place} {H : List Blk} {t : TypeId} {x v : AV} {u : Value} {lo hi : Option AV} {lv hv mv : Option Value} {mx : Bool}
    (h : sliceA P H t x lo hi mx = some (v, true)) (hx : VRel ρ x u) (rl : ORel ρ lo lv) (rh : ORel ρ hi hv) (rm : mx = false → mv = none) (hC : Cls F W0 ρ H W) :
    OkNext P (Cls F W0 ρ H) (VRel ρ v) ((toNext (Instr.sliceAt t u lv hv mv)).run P W) := by
  unfold sliceA at h
  split at h
  · cases h
  · rename_i n e b r o hu
    have := rm rfl; subst this
    split at h
    · rename_i sz l hh hsz hl hhi
      simp only [Option.some.injEq, Prod.mk.injEq, Bool.and_eq_true, decide_eq_true_eq] at h
      obtain ⟨rfl, ⟨h0, h1⟩, h2⟩ := h
      simp only [VRel] at hx
      obtain ⟨p, hp, rfl⟩ := hx
      refine ok_of_run (W' := W) (u := .slice (some (if n = l.toNat then ⟨p.blk, p.off + r * p.sz + o, none⟩ else ⟨p.blk, p.off + r * p.sz + o + l.toNat * sz, none⟩)) (hh.toNat - l.toNat) (n - l.toNat)) ?_ hC ?_
      · simp only [Instr.sliceAt, Sem.run_bind, run_und hu, Result.andThen_ok, Instr.sureAddr, Sem.run_pure, bounds_run (P := P) (W := W) (isS := false) (cap := n) hl hhi rl rh h0 h1 h2 (Nat.le_refl _), run_sz hsz, add_none]
      · simp only [VRel]
        refine ⟨p, if n = l.toNat then p.off + r * p.sz + o else p.off + r * p.sz + o + l.toNat * sz, n - l.toNat, hp, ?_, ?_, fun hne => ?_⟩
        · split <;> rfl
        · omega
        · rw [if_neg (by omega)]; omega
    · cases h
  · rename_i a hu
    have := rm rfl; subst this
    split at h
    · rename_i l hh hl hhi
      simp only [Option.some.injEq, Prod.mk.injEq, Bool.and_eq_true, decide_eq_true_eq] at h
      obtain ⟨rfl, ⟨h0, h1⟩, h2⟩ := h
      simp only [VRel] at hx
      subst hx
      have hs : (⟨a.toArray⟩ : ByteArray).size = a.length := rfl
      refine ok_of_run (W' := W) (u := .string ⟨((a.take hh.toNat).drop l.toNat).toArray⟩) ?_ hC (by simp [VRel])
      have hb := bounds_run (P := P) (W := W) (isS := false) (cap := a.length) hl hhi rl rh h0 h1 h2 (Nat.le_refl _)
      simp only [Instr.sliceAt, Instr.slice, Sem.run_bind, run_und hu, Result.andThen_ok, hs, hb, Sem.run_pure, extract_list, Option.isSome_none, Bool.false_eq_true, if_false]
    · cases h
  · rename_i e b r n hu
    have := rm rfl; subst this
    split at h
    · rename_i sz sz' l hh hsz hbs hl hhi
      obtain ⟨he, h'⟩ := cond_some h
      have he := Nat.eq_of_beq_eq_true he; subst he
      simp only [Option.some.injEq, Prod.mk.injEq, Bool.and_eq_true, decide_eq_true_eq] at h'
      obtain ⟨rfl, ⟨h0, h1⟩, h2⟩ := h'
      simp only [VRel] at hx
      obtain ⟨p, x, hp, rfl, hcap, hx⟩ := hx
      have hps := bsz_place hC.rel hbs hp
      have h2 : hh ≤ ((p.cap - r : Nat) : Int) := by
        simp only [Bool.or_eq_true, decide_eq_true_eq] at h2
        rcases h2 with h2 | h2
        · omega
        · split at h2
          · rename_i w m sz0 f hbk
            rw [blkOf_get] at hbk
            have := (hC.rel.blk b _ p hbk hp).2.1
            simp only [decide_eq_true_eq] at h2
            omega
          · cases h2
      refine ok_of_run (W' := W) (u := .slice (if p.cap - r = l.toNat then x else x.map (·.add (l.toNat * sz))) (hh.toNat - l.toNat) (p.cap - r - l.toNat)) ?_ hC ?_
      · have hb := bounds_run (P := P) (W := W) (isS := true) (len := n) (cap := p.cap - r) hl hhi rl rh h0 h1 h2 (by omega)
        simp only [Instr.sliceAt, Instr.slice, Sem.run_bind, run_und hu, Result.andThen_ok, hb, run_sz hsz, Sem.run_pure]
      · simp only [VRel]
        refine ⟨p, if p.cap - r = l.toNat then x else x.map (·.add (l.toNat * sz)), hp, ?_, by omega, fun hne => ?_⟩
        · rw [show p.cap - (l.toNat + r) = p.cap - r - l.toNat by omega]
        · rw [if_neg (by omega), hx (by omega), Option.map_some, add_none, hps, Nat.add_mul, Nat.add_assoc, Nat.add_comm (r * sz)]
    · cases h
  · cases h

-- aggregates
theorem foldl_set (off : Nat) : ∀ (cs : List Value) (k : Nat) (arr : Array Value),
    ((cs.zipIdx k).foldl (fun (a : Array Value) (x : Value × Nat) => a.setIfInBounds (off + x.2) x.1) arr).size = arr.size ∧
    ∀ m, ((cs.zipIdx k).foldl (fun (a : Array Value) (x : Value × Nat) => a.setIfInBounds (off + x.2) x.1) arr)[m]? = if off + k ≤ m ∧ m < off + k + cs.length ∧ m < arr.size then cs[m - off - k]? else arr[m]?
  | [], k, arr => by
    refine ⟨by simp, fun m => ?_⟩
    rw [if_neg (by simp; omega)]; simp
  | c :: cs, k, arr => by
    obtain ⟨h1, h2⟩ := foldl_set off cs (k + 1) (arr.setIfInBounds (off + k) c)
    simp only [List.zipIdx_cons, List.foldl_cons]
    refine ⟨by rw [h1]; simp, fun m => ?_⟩
    rw [h2 m]
    simp only [Array.size_setIfInBounds, List.length_cons]
    by_cases hm : m = off + k
    · subst hm
      rw [if_neg (by omega)]
      by_cases hs : off + k < arr.size
      · rw [if_pos (by omega), Array.getElem?_setIfInBounds_self_of_lt hs]
        simp [show off + k - off - k = 0 by omega]
      · rw [if_neg (by omega), Array.getElem?_setIfInBounds, if_pos rfl, if_neg hs]
        simp [hs]
    · by_cases hc : off + (k + 1) ≤ m ∧ m < off + (k + 1) + cs.length ∧ m < arr.size
      · rw [if_pos hc, if_pos (by omega), show m - off - k = (m - off - (k + 1)) + 1 by omega]
        simp
      · rw [if_neg hc, if_neg (by omega), Array.getElem?_setIfInBounds_ne (by omega)]

def PRels (ρ : List Place) : List (Nat × AV) → List (Nat × Value) → Prop
  | [], vs => vs = []
  | (i, x) :: t, vs => ∃ v w, vs = (i, v) :: w ∧ VRel ρ x v ∧ PRels ρ t w

theorem fill_run {P : Program} {ρ : List Place} {place : Nat → Option (Nat × Nat)} : ∀ {parts : List (Nat × AV)} {vparts : List (Nat × Value)} {l r : List AV} {arr : Array Value},
    fillA P place l parts = some r → PRels ρ parts vparts → VRels ρ l arr.toList → ∃ arr', Instr.fill place arr vparts = some arr' ∧ VRels ρ r arr'.toList
  | [], vparts, l, r, arr, h, hp, hl => by
    simp only [PRels] at hp; subst hp
    have h' : l = r := by cases l <;> simpa [fillA] using h
    subst h'
    exact ⟨arr, rfl, hl⟩
  | (i, x) :: t, vparts, l, r, arr, h, hp, hl => by
    simp only [PRels] at hp
    obtain ⟨v, w, rfl, hv, hw⟩ := hp
    have h' : (match place i, x.cells with
      | some (o, n), some cs => bif Nat.beq cs.length n then (match overAt l o cs with | some l' => fillA P place l' t | none => none) else none
      | _, _ => none) = some r := by cases l <;> exact h
    split at h'
    · rename_i o n cs hpl hc
      obtain ⟨hn, h'⟩ := cond_some h'
      have hn := Nat.eq_of_beq_eq_true hn
      split at h'
      · rename_i l' ho
        have hcs := cells_rel hv hc
        have hlen := hcs.length
        obtain ⟨e1, e2, e3⟩ := overAt_spec ho
        have harr := hl.length
        simp only [Array.length_toList] at hlen harr
        obtain ⟨f1, f2⟩ := foldl_set o v.cells.toList 0 arr
        have e0 : (v.cells.zipIdx.foldl (fun cs (c, j) => cs.setIfInBounds (o + j) c) arr) = ((v.cells.toList.zipIdx 0).foldl (fun (a : Array Value) (x : Value × Nat) => a.setIfInBounds (o + x.2) x.1) arr) := by
          rw [← Array.foldl_toList, Array.toList_zipIdx]
        obtain ⟨arr', hf, hr⟩ := fill_run (parts := t) (arr := (v.cells.toList.zipIdx 0).foldl (fun (a : Array Value) (x : Value × Nat) => a.setIfInBounds (o + x.2) x.1) arr) h' hw (VRels.of_get (by simp [f1, e1, harr]) fun j y hj => by
          rw [e3] at hj
          simp only [Array.getElem?_toList, f2]
          split at hj
          · rename_i hc2
            rw [if_pos (by rw [Array.length_toList]; omega)]
            obtain ⟨z, hz, hzr⟩ := hcs.get hj
            exact ⟨z, by simpa using hz, hzr⟩
          · rename_i hc2
            rw [if_neg (by rw [Array.length_toList]; omega)]
            obtain ⟨z, hz, hzr⟩ := hl.get hj
            exact ⟨z, by simpa using hz, hzr⟩)
        refine ⟨arr', ?_, hr⟩
        unfold Instr.fill
        simp only [hpl]
        rw [if_neg (by simp; omega), e0]
        exact hf
      · cases h'
    · cases h'

theorem evP_rel {ρ : List Place} {st : St} {a : Act} (h : SRel ρ st.slots a.tmps) : ∀ l : List (Nat × Operand), PRels ρ (evP st l) (l.map fun (i, x) => (i, a.eval x))
  | [] => by simp [evP, PRels]
  | (i, x) :: t => by simp only [evP, List.map_cons, PRels]; exact ⟨_, _, rfl, ev_rel h x, evP_rel h t⟩

theorem plcL_spec {P : Program} : ∀ {fs : List Field} {pl : List (Nat × Nat)}, plcL P fs = some pl → fs.mapM (fun f => (P.info? f.type).map fun i => (f.offset, i.size)) = some pl
  | [], pl, h => by simp [plcL] at h; subst h; simp
  | f :: t, pl, h => by
    unfold plcL at h
    split at h
    · rename_i n r hn hr
      simp only [Option.some.injEq] at h; subst h
      unfold szT at hn
      cases hi : P.info? f.type with
      | none => rw [hi] at hn; cases hn
      | some i =>
        rw [hi] at hn; simp only [Option.some.injEq] at hn; subst hn
        simp [List.mapM_cons, hi, plcL_spec hr]
    · cases h
theorem at2_spec : ∀ (l : List (Nat × Nat)) (i : Nat), at2 l i = l[i]?
  | [], i => by simp [at2]
  | x :: t, 0 => by simp [at2]
  | x :: t, i + 1 => by simp [at2, at2_spec t i]

theorem absCell_not_agg (v : Value) (z : List AV) : absCell v ≠ .agg z := by
  intro h
  unfold absCell at h
  split at h <;> first
    | (cases h; done)
    | (rename_i k b; cases hb : Nat.blt b (2 ^ k.format.width)
       · rw [hb] at h; simp at h
       · rw [hb] at h; simp at h)

theorem zeroT_agg {P : Program} {t : TypeId} {z : List AV} (h : zeroT P t = some (.agg z)) : ∃ i cs, P.info? t = some i ∧ i.zero = some (.agg cs) ∧ z = cs.toList.map absCell := by
  unfold zeroT at h
  split at h
  · rename_i i hi
    split at h
    · rename_i v hv
      simp only [Option.some.injEq] at h
      unfold absV at h
      split at h
      · rename_i cs
        simp only [AV.agg.injEq] at h; exact ⟨i, cs, hi, hv, h.symm⟩
      · exact (absCell_not_agg _ _ h).elim
    · cases h
  · cases h

theorem build_run {P : Program} {ρ : List Place} {W : World} {t : TypeId} {parts : List (Nat × AV)} {vparts : Array (Nat × Value)} {v : AV} (h : buildA P t parts = some v) (hp : PRels ρ parts vparts.toList) :
    ∃ u, (Instr.build t vparts).run P W = .ok u W ∧ VRel ρ v u := by
  unfold buildA at h
  split at h
  · rename_i z fs hz hu
    split at h
    · rename_i pl hpl
      split at h
      · rename_i l hl
        simp only [Option.some.injEq] at h; subst h
        obtain ⟨i, cs, hi, hcs, rfl⟩ := zeroT_agg hz
        obtain ⟨arr, hf, hr⟩ := fill_run (ρ := ρ) (arr := cs) hl hp (absCells_rel ρ _)
        refine ⟨.agg arr, run_build W t vparts arr ?_, by simp only [VRel]; exact ⟨arr, rfl, hr⟩⟩
        have he : (fun x => pl.toArray[x]?) = at2 pl := by funext x; rw [at2_spec]; simp
        simp only [Program.built, hi, hu, hcs, plcL_spec hpl, Value.cells, he]
        exact hf
      · cases h
    · cases h
  · rename_i z n e hz hu
    split at h
    · rename_i m hm
      split at h
      · rename_i l hl
        simp only [Option.some.injEq] at h; subst h
        obtain ⟨i, cs, hi, hcs, rfl⟩ := zeroT_agg hz
        obtain ⟨arr, hf, hr⟩ := fill_run (ρ := ρ) (arr := cs) hl hp (absCells_rel ρ _)
        refine ⟨.agg arr, run_build W t vparts arr ?_, by simp only [VRel]; exact ⟨arr, rfl, hr⟩⟩
        unfold szT at hm
        cases hie : P.info? e with
        | none => rw [hie] at hm; cases hm
        | some ie =>
          rw [hie] at hm; simp only [Option.some.injEq] at hm; subst hm
          simp only [Program.built, hi, hu, hcs, hie, Value.cells]
          exact hf
      · cases h
    · cases h
  · cases h

end Go.Sx
