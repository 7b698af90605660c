/- The operations that leave memory as it is: what the executor says of one holds of the model's run. -/
import Derived.Test.YtpnjimpiphbcfaaSxFloat
import Derived.Laws.StructEq
set_option linter.unusedSimpArgs false
set_option linter.unusedVariables false
namespace Go.Sx
open Go.RowKit

/-- what one operation may come to, within a class of worlds -/
def OkNext (P : Program) (C : World → Prop) (V : Value → Prop) : Result Next → Prop
  | .ok (.value u) w' => C w' ∧ V u
  | .ok .skip w' => C w' ∧ V undef
  | .ok (.enter f args) w' => Calls P f args w' (fun e w'' => ∃ v, e = .returned v ∧ V v ∧ C w'')
  | _ => False

/-- a table of calls that holds -/
def CallerOk (P : Program) (call : Caller) : Prop :=
  ∀ f args H v, call f args H = some (v, true) → ∀ F W0 ρ W vals, Cls F W0 ρ H W → VRels ρ args vals →
    OkNext P (Cls F W0 ρ H) (VRel ρ v) ((callFunc f vals.toArray).run P W)

def toNext (s : Sem Value) : Sem Next := do Pure.pure (.value (← s))

theorem ok_of_run {P : Program} {C : World → Prop} {V : Value → Prop} {s : Sem Value} {W W' : World} {u : Value} (h : s.run P W = .ok u W') (hC : C W') (hV : V u) : OkNext P C V ((toNext s).run P W) := by
  simp only [toNext, Sem.run_bind, h, Result.andThen_ok, Sem.run_pure]
  exact ⟨hC, hV⟩

theorem ok_of_gv {P : Program} {F : Nat → Prop} {W0 : World} {ρ : List Place} {H : List Blk} {V : Value → Prop} {s : Sem Value} {W : World} (h : Gv P V s) (hC : Cls F W0 ρ H W) : OkNext P (Cls F W0 ρ H) V ((toNext s).run P W) :=
  let ⟨_, n, hr, hV⟩ := h W
  ok_of_run hr (hC.drawn n) hV

-- the program's tables
section
variable {P : Program}
theorem run_und {t : TypeId} {d : TypeDesc} (h : P.underlying t = some d) (W : World) : (underlying t).run P W = .ok d W := run_underlying h W
theorem run_sz {t : TypeId} {n : Nat} (h : szT P t = some n) (W : World) : (sizeOf t).run P W = .ok n W := by
  unfold szT at h
  unfold sizeOf typeInfo
  cases hi : P.info? t with
  | none => rw [hi] at h; cases h
  | some i => rw [hi] at h; cases h; simp [hi]
theorem run_ag {t : TypeId} {b : Bool} (h : isAggT P t = some b) (W : World) : (isAgg t).run P W = .ok b W := by
  unfold isAggT at h
  cases hu : P.underlying t with
  | none => rw [hu] at h; cases h
  | some d =>
    rw [hu] at h
    unfold isAgg
    simp only [Sem.run_bind, run_underlying hu, Result.andThen_ok]
    cases d <;> simp at h <;> subst h <;> rfl
theorem run_zero {t : TypeId} {z : AV} (h : zeroT P t = some z) (ρ : List Place) (W : World) : ∃ v, (zeroValue t).run P W = .ok v W ∧ VRel ρ z v := by
  unfold zeroT at h
  unfold zeroValue typeInfo
  cases hi : P.info? t with
  | none => rw [hi] at h; cases h
  | some i =>
    rw [hi] at h
    cases hz : i.zero with
    | none => simp [hz] at h
    | some v =>
      simp only [hz, Option.some.injEq] at h
      subst h
      exact ⟨v, by simp [hi, hz], absV_rel ρ v⟩
end

-- memory
theorem rowOf_spec : ∀ {H : List Blk} {b r : Nat} {l : List AV}, rowOf H b r = some (l, true) →
    ∃ x, H[b]? = some x ∧ ((∃ w, x = .one w l ∧ r = 0) ∨ ∃ w n sz f, x = .rows w n sz f ∧ l = f r ∧ r < n)
  | [], b, r, l, h => by simp [rowOf] at h
  | .one w l' :: t, 0, 0, l, h => by
    simp [rowOf] at h; subst h
    exact ⟨_, by simp, .inl ⟨w, rfl, rfl⟩⟩
  | .one w l' :: t, 0, r + 1, l, h => by simp [rowOf] at h
  | .rows w n sz f :: t, 0, r, l, h => by
    simp [rowOf] at h
    exact ⟨_, by simp, .inr ⟨w, n, sz, f, rfl, h.1.symm, h.2⟩⟩
  | .dead :: t, 0, r, l, h => by simp [rowOf] at h
  | .one _ _ :: t, b + 1, r, l, h => by
    obtain ⟨x, hx, r⟩ := rowOf_spec (H := t) (b := b) (by simpa [rowOf] using h)
    exact ⟨x, by simpa using hx, r⟩
  | .rows _ _ _ _ :: t, b + 1, r, l, h => by
    obtain ⟨x, hx, r⟩ := rowOf_spec (H := t) (b := b) (by simpa [rowOf] using h)
    exact ⟨x, by simpa using hx, r⟩
  | .dead :: t, b + 1, r, l, h => by
    obtain ⟨x, hx, r⟩ := rowOf_spec (H := t) (b := b) (by simpa [rowOf] using h)
    exact ⟨x, by simpa using hx, r⟩

theorem row_cells {ρ : List Place} {H : List Blk} {W : World} (h : HRel ρ H W) {b r : Nat} {l : List AV} {p : Place} (hr : rowOf H b r = some (l, true)) (hp : ρ[b]? = some p) :
    ∀ (j : Nat) (x : AV), l[j]? = some x → ∃ v, W.cell? ⟨p.blk, p.off + r * p.sz + j, none⟩ = some v ∧ VRel ρ x v := by
  obtain ⟨x, hx, h'⟩ := rowOf_spec hr
  have hb := h.blk b x p hx hp
  rcases h' with ⟨w, rfl, rfl⟩ | ⟨w, n, sz, f, rfl, rfl, hlt⟩
  · obtain ⟨cs, ty, fz, hc, _, _, _, hg⟩ := hb
    intro j y hj
    obtain ⟨v, hv, hr⟩ := hg j y hj
    exact ⟨v, by rw [cell_of_row W _ _ cs ty fz hc]; simpa using hv, hr⟩
  · obtain ⟨hsz, hle, hb⟩ := hb
    obtain ⟨cs, ty, fz, hc, _, _, _, hg⟩ := hb (by omega)
    intro j y hj
    obtain ⟨_, v, hv, hr⟩ := hg r hlt j y hj
    exact ⟨v, by rw [cell_of_row W _ _ cs ty fz hc, hsz]; exact hv, hr⟩

/-- cells one by one, as a list -/
theorem cells_list {ρ : List Place} {W : World} {a : Addr} : ∀ (l : List AV) (i : Nat), (∀ (j : Nat) (x : AV), l[j]? = some x → ∃ v, W.cell? (a.add (i + j)) = some v ∧ VRel ρ x v) →
    ∃ vs, VRels ρ l vs ∧ ∀ (j : Nat) (v : Value), vs[j]? = some v → W.cell? (a.add (i + j)) = some v
  | [], i, _ => ⟨[], by simp [VRels], by simp⟩
  | x :: t, i, h => by
    obtain ⟨v, hv, hr⟩ := h 0 x (by simp)
    obtain ⟨vs, h1, h2⟩ := cells_list t (i + 1) fun j y hj => by
      have := h (j + 1) y (by simpa using hj)
      rwa [show i + (j + 1) = i + 1 + j by omega] at this
    refine ⟨v :: vs, by simp only [VRels]; exact ⟨v, vs, rfl, hr, h1⟩, fun j u hj => ?_⟩
    cases j with
    | zero => simp at hj; subst hj; exact hv
    | succ j => rw [show i + (j + 1) = i + 1 + j by omega]; exact h2 j u (by simpa using hj)

theorem add_none (b o n : Nat) : (⟨b, o, none⟩ : Addr).add n = ⟨b, o + n, none⟩ := by unfold Addr.add; split <;> simp_all

theorem run_cells {P : Program} {ρ : List Place} {W : World} {b o : Nat} {l : List AV} (h : ∀ (j : Nat) (x : AV), l[j]? = some x → ∃ v, W.cell? ⟨b, o + j, none⟩ = some v ∧ VRel ρ x v) :
    ∃ vs, (loadCells ⟨b, o, none⟩ l.length).run P W = .ok vs W ∧ VRels ρ l vs.toList := by
  obtain ⟨vs, h1, h2⟩ := cells_list (ρ := ρ) (W := W) (a := ⟨b, o, none⟩) l 0 fun j x hj => by
    obtain ⟨v, hv, hr⟩ := h j x hj
    exact ⟨v, by rw [add_none]; simpa using hv, hr⟩
  refine ⟨vs.toArray, ?_, by simpa using h1⟩
  rw [← h1.length]
  exact run_loadCells_list W _ vs fun j v hj => by simpa using h2 j v hj

theorem load_run {P : Program} {ρ : List Place} {H : List Blk} {W : World} (h : HRel ρ H W) {t : TypeId} {a v : AV} {u : Value} (hl : loadA P H t a = some (v, true)) (ha : VRel ρ a u) :
    ∃ y, (Instr.loadAt t u).run P W = .ok y W ∧ VRel ρ v y := by
  unfold loadA at hl
  split at hl
  · rename_i b r o
    simp only [VRel] at ha
    obtain ⟨p, hp, rfl⟩ := ha
    split at hl
    · rename_i l ob hrow hag
      split at hl
      · rename_i n hn
        split at hl
        · rename_i cs hcut
          simp only [Option.some.injEq, Prod.mk.injEq] at hl
          obtain ⟨rfl, rfl⟩ := hl
          obtain ⟨hlen, hget⟩ := cutAt_spec hcut
          obtain ⟨vs, hrun, hrel⟩ := run_cells (P := P) (ρ := ρ) (W := W) (b := p.blk) (o := p.off + r * p.sz + o) (l := cs) fun j x hj => by
            obtain ⟨v, hv, hr⟩ := row_cells h hrow hp (o + j) x (hget j x hj)
            exact ⟨v, by rw [Nat.add_assoc (p.off + r * p.sz)]; exact hv, hr⟩
          refine ⟨.agg vs, ?_, by simp only [VRel]; exact ⟨vs, rfl, hrel⟩⟩
          rw [hlen] at hrun
          simp [Instr.loadAt, Instr.sureAddr, loadVar, run_ag hag, run_sz hn, hrun]
        · cases hl
      · cases hl
    · rename_i l ob hrow hag
      split at hl
      · rename_i y hy
        simp only [Option.some.injEq, Prod.mk.injEq] at hl
        obtain ⟨rfl, rfl⟩ := hl
        rw [at1_spec] at hy
        obtain ⟨v, hv, hr⟩ := row_cells h hrow hp o y hy
        exact ⟨v, by simp [Instr.loadAt, Instr.sureAddr, loadVar, run_ag hag, hv], hr⟩
      · cases hl
    · cases hl
  · cases hl

theorem bsz_spec {ρ : List Place} {W : World} : ∀ {H : List Blk} {b n : Nat} (_ : bsz H b = some n), ∃ x, H[b]? = some x ∧ x.live = true ∧ ∀ p, BRel ρ W p x → p.sz = n
  | [], b, n, h => by simp [bsz] at h
  | .one w l :: t, 0, n, h => by
    simp [bsz] at h
    exact ⟨.one w l, by simp, rfl, fun p hb => by obtain ⟨_, _, _, _, _, hs, _⟩ := hb; rw [hs, h]⟩
  | .rows w m sz f :: t, 0, n, h => by
    simp [bsz] at h
    exact ⟨.rows w m sz f, by simp, rfl, fun p hb => by rw [hb.1, h]⟩
  | .dead :: t, 0, n, h => by simp [bsz] at h
  | .one _ _ :: t, b + 1, n, h => by
    obtain ⟨x, hx, r⟩ := bsz_spec (H := t) (b := b) (by simpa [bsz] using h)
    exact ⟨x, by simpa using hx, r⟩
  | .rows _ _ _ _ :: t, b + 1, n, h => by
    obtain ⟨x, hx, r⟩ := bsz_spec (H := t) (b := b) (by simpa [bsz] using h)
    exact ⟨x, by simpa using hx, r⟩
  | .dead :: t, b + 1, n, h => by
    obtain ⟨x, hx, r⟩ := bsz_spec (H := t) (b := b) (by simpa [bsz] using h)
    exact ⟨x, by simpa using hx, r⟩
theorem bsz_place {ρ : List Place} {H : List Blk} {W : World} (h : HRel ρ H W) {b n : Nat} {p : Place} (hb : bsz H b = some n) (hp : ρ[b]? = some p) : p.sz = n := by
  obtain ⟨x, hx, _, hs⟩ := bsz_spec (ρ := ρ) (W := W) hb
  exact hs p (h.blk b x p hx hp)

-- a part of an aggregate
theorem part_run {P : Program} {ρ : List Place} {W : World} {t : TypeId} {l : List AV} {o : Nat} {v : AV} {cs : Array Value} (h : VRels ρ l cs.toList) (hp : partA P t l o = some v) :
    ∃ u, (part t cs o).run P W = .ok u W ∧ VRel ρ v u := by
  unfold partA at hp
  split at hp
  · rename_i hag
    split at hp
    · rename_i n hn
      split at hp
      · rename_i r hcut
        simp only [Option.some.injEq] at hp
        subst hp
        obtain ⟨hlen, hget⟩ := cutAt_spec hcut
        refine ⟨.agg (cs.extract o (o + n)), by simp [part, run_ag hag, run_sz hn], ?_⟩
        simp only [VRel]
        refine ⟨_, rfl, VRels.of_get ?_ fun j x hj => ?_⟩
        · have hlast : r.length = 0 ∨ o + n ≤ cs.size := by
            cases hr : r.length with
            | zero => exact .inl rfl
            | succ m =>
              right
              obtain ⟨v, hv, _⟩ := h.get (hget m (r[m]'(by omega)) (by simp [List.getElem?_eq_getElem (show m < r.length by omega)]))
              have := (List.getElem?_eq_some_iff.1 hv).1
              simp at this
              omega
          simp
          omega
        · obtain ⟨v, hv, hr⟩ := h.get (hget j x hj)
          refine ⟨v, ?_, hr⟩
          have hlt := (List.getElem?_eq_some_iff.1 hj).1
          simp only [Array.getElem?_toList] at hv ⊢
          rw [Array.getElem?_extract]
          have : o + j < cs.size := (Array.getElem?_eq_some_iff.1 hv).1
          rw [if_pos (by omega)]
          exact hv
      · cases hp
    · cases hp
  · rename_i hag
    rw [at1_spec] at hp
    obtain ⟨u, hu, hr⟩ := h.get hp
    simp only [Array.getElem?_toList] at hu
    exact ⟨u, by simp [part, run_ag hag, hu], hr⟩
  · cases hp

-- operations on numbers
theorem ikEq_eq {a b : IntKind} (h : ikEq a b = true) : a = b := by cases a <;> cases b <;> first | rfl | (simp [ikEq] at h)
theorem fkEq_eq {a b : FloatKind} (h : fkEq a b = true) : a = b := by cases a <;> cases b <;> first | rfl | (simp [fkEq] at h)
theorem cond_some {α : Type} {c : Bool} {x : Option α} {r : α} (h : (bif c then x else none) = some r) : c = true ∧ x = some r := by cases c <;> simp at h; exact ⟨rfl, h⟩

theorem binI_run {P : Program} {W : World} {ρ : List Place} {op : BinOp} {k : IntKind} {t : TypeId} {a b : Int} {v : AV} (h : binI op k a b = some (v, true)) (h1 : op ≠ .shl) (h2 : op ≠ .shr) :
    ∃ u, (binOp op t (.int k a) (.int k b)).run P W = .ok u W ∧ VRel ρ v u := by
  cases op <;> simp only [binI, Option.some.injEq, Prod.mk.injEq, reduceCtorEq] at h
  all_goals (try contradiction)
  all_goals obtain ⟨rfl, hob⟩ := h
  case quo => exact ⟨_, by simp only [binOp, ne_eq, not_true_eq_false, if_false, Op.intDiv]; rw [if_neg (by simpa using hob)]; rfl, by simp [VRel]⟩
  case rem => exact ⟨_, by simp only [binOp, ne_eq, not_true_eq_false, if_false, Op.intDiv]; rw [if_neg (by simpa using hob)]; rfl, by simp [VRel]⟩
  all_goals exact ⟨_, by simp only [binOp, ne_eq, not_true_eq_false, if_false, Op.intArith, Op.intBits, Op.intCmp]; rfl, by simp [VRel, bitsOp_eq, bitsReal]⟩

theorem binS_run {P : Program} {W : World} {ρ : List Place} {op : BinOp} {t : TypeId} {a b : List UInt8} {v : AV} (h : binS op a b = some (v, true)) :
    ∃ u, (binOp op t (.string ⟨a.toArray⟩) (.string ⟨b.toArray⟩)).run P W = .ok u W ∧ VRel ρ v u := by
  have tl : ∀ l : List UInt8, (⟨l.toArray⟩ : ByteArray).toList = l := fun l => by rw [ByteArray.toList_eq]
  cases op <;> simp only [binS, Option.some.injEq, Prod.mk.injEq, reduceCtorEq] at h
  all_goals obtain ⟨rfl, hob⟩ := h
  case add =>
    refine ⟨.string ⟨(a ++ b).toArray⟩, ?_, by simp [VRel]⟩
    have hs : ∀ l : List UInt8, (⟨l.toArray⟩ : ByteArray).size = l.length := fun l => rfl
    simp only [binOp, Op.stringOp, hs]
    rw [if_neg]
    · show Result.ok _ W = _
      congr 2
    · have := Nat.le_of_ble_eq_true hob
      have hm : IntKind.i64.max = 9223372036854775807 := by decide
      rw [hm]
      omega
  all_goals exact ⟨_, by simp only [binOp, Op.stringOp, tl]; rfl, by simp [VRel]⟩

theorem VRel_int {ρ : List Place} {k : IntKind} {n : Int} {v : Value} (h : VRel ρ (.int k n) v) : v = .int k n := h
theorem VRel_bool {ρ : List Place} {b : Bool} {v : Value} (h : VRel ρ (.bool b) v) : v = .bool b := h

/-- a value is none of the pointers that a guard looks for -/
theorem eqGuard_run {P : Program} {W : World} {op : BinOp} {t : TypeId} {x y : Operand} {a b : Value} (h1 : ∀ c, a ≠ .agg c) (h2 : a ≠ .nilIface) : (eqGuard op t x y a b).run P W = .ok () W := by
  have h3 : ∀ c : Prop, ∀ [Decidable c], (if c then (Pure.pure () : Sem Unit) else Pure.pure ()).run P W = .ok () W := fun c _ => by split <;> rfl
  cases a <;> first | (exact absurd rfl (h1 _)) | (exact absurd rfl h2) | (unfold eqGuard; exact h3 _)

theorem eqEs_run {P : Program} {W : World} (d : Nat) (e : TypeId) (xs ys : Array Value) (m : Nat) (g : Nat → Option Bool)
    (hg : ∀ i r, g i = some r → ∃ a b, (part e xs (i * m)).run P W = .ok a W ∧ (part e ys (i * m)).run P W = .ok b W ∧ (Op.equalIn d e a b).run P W = .ok r W) :
    ∀ (n i : Nat) (r : Bool), eqEs g n i = some r →
      (forIn (m := Sem) (List.range' i n) ((none, ()) : Option Bool × PUnit) (fun i _ => do
        if !(← Op.equalIn d e (← part e xs (i * m)) (← part e ys (i * m))) then Pure.pure (ForInStep.done (some false, ())) else Pure.pure (ForInStep.yield (none, ())))).run P W
      = .ok ((if r then none else some false), ()) W
  | 0, i, r, h => by simp [eqEs] at h; subst h; simp
  | n + 1, i, r, h => by
    unfold eqEs at h
    split at h
    · rename_i a b ha hb
      simp only [Option.some.injEq] at h
      obtain ⟨u, v, h1, h2, h3⟩ := hg i a ha
      rw [List.range'_succ, List.forIn_cons]
      simp only [Sem.run_bind, h1, h2, h3, Result.andThen_ok, Sem.run_ite]
      cases a
      · simp at h; subst h; simp
      · simp at h; subst h
        simpa using eqEs_run d e xs ys m g hg n (i + 1) b hb
    · cases h

theorem fcmp_eq_run {k : FloatKind} {x y : Nat} {a b : Option Nat} (hx : nrm k x = a) (hy : nrm k y = b) : Op.floatEq k x y = fcmp .eql k a b := by
  rw [fcmp_eq]
  have e := order_nrm hx hy
  simp only [Op.floatEq, ← e]
  cases a <;> cases b <;> rfl

theorem bytes_beq (a b : List UInt8) : ((⟨a.toArray⟩ : ByteArray) == ⟨b.toArray⟩) = (a == b) := by
  rw [beq_toListBytes, ByteArray.toList_eq, ByteArray.toList_eq]

theorem eqFs_run {P : Program} {W : World} (d : Nat) (xs ys : Array Value) (g : Field → Option Bool)
    (hg : ∀ f r, g f = some r → ∃ a b, (part f.type xs f.offset).run P W = .ok a W ∧ (part f.type ys f.offset).run P W = .ok b W ∧ (Op.equalIn d f.type a b).run P W = .ok r W) :
    ∀ (fs : List Field) (r : Bool), eqFs g fs = some r → (Op.eqFields d xs ys fs).run P W = .ok r W
  | [], r, h => by simp [eqFs] at h; subst h; simp [Op.eqFields]
  | f :: t, r, h => by
    unfold eqFs at h
    cases hn : f.name == "_" with
    | true => rw [hn] at h; simp at h
    | false =>
      rw [hn] at h
      simp only [cond_false] at h
      split at h
      · rename_i a b ha hb
        simp only [Option.some.injEq] at h
        obtain ⟨u, v, h1, h2, h3⟩ := hg f a ha
        unfold Op.eqFields
        rw [if_pos (by simpa using hn)]
        simp only [Sem.run_bind, h1, h2, h3, Result.andThen_ok, Sem.run_ite]
        cases a
        · simp at h; subst h; simp
        · simp at h; subst h
          simpa using eqFs_run d xs ys g hg t b hb
      · cases h

theorem eqT_run {P : Program} {ρ : List Place} : ∀ (d D : Nat) (t : TypeId) (x y : AV) (r : Bool) (u v : Value) (W : World), eqT P d t x y = some r → d ≤ D → VRel ρ x u → VRel ρ y v →
    (Op.equalIn D t u v).run P W = .ok r W
  | 0, _, _, _, _, _, _, _, _, h, _, _, _ => by simp [eqT] at h
  | d + 1, 0, _, _, _, _, _, _, _, _, hD, _, _ => by omega
  | d + 1, D + 1, t, x, y, r, u, v, W, h, hD, hx, hy => by
    unfold eqT at h
    replace hx := delit_rel hx
    replace hy := delit_rel hy
    generalize delit x = x at h hx
    generalize delit y = y at h hy
    split at h
    · rename_i hu
      simp only [Option.some.injEq] at h; subst h
      rw [VRel_bool hx, VRel_bool hy]
      simp [Op.equalIn, run_underlying hu]
    · rename_i k0 k a k' b hu
      obtain ⟨hk, h⟩ := cond_some h
      simp only [Option.some.injEq] at h; subst h
      have := ikEq_eq hk; subst this
      rw [VRel_int hx, VRel_int hy]
      simp [Op.equalIn, run_underlying hu]
    · rename_i a b hu
      simp only [Option.some.injEq] at h; subst h
      simp only [VRel] at hx hy
      subst hx; subst hy
      simp [Op.equalIn, run_underlying hu, bytes_beq]
    · rename_i k0 k a k' b hu
      obtain ⟨hk, h⟩ := cond_some h
      simp only [Option.some.injEq] at h; subst h
      have := fkEq_eq hk; subst this
      simp only [VRel] at hx hy
      obtain ⟨m, rfl, hm, _⟩ := hx
      obtain ⟨n, rfl, hn, _⟩ := hy
      simp [Op.equalIn, run_underlying hu, fcmp_eq_run hm hn]
    · rename_i fs xs ys hu
      cases hs : P.stoodInHeld t with
      | true => rw [hs] at h; simp at h
      | false =>
        rw [hs] at h
        simp only [cond_false] at h
        simp only [VRel] at hx hy
        obtain ⟨cx, rfl, hx⟩ := hx
        obtain ⟨cy, rfl, hy⟩ := hy
        have hf : P.fieldsOf t = fs := by simp [Program.fieldsOf, hu]
        rw [run_equalIn_struct W D t cx cy (by rw [hf]; exact hu) hs, hf]
        refine eqFs_run D cx cy _ (fun f r hr => ?_) _ _ h
        split at hr
        · rename_i p q hp hq
          obtain ⟨a, ha, hra⟩ := part_run (P := P) (W := W) hx hp
          obtain ⟨b, hb, hrb⟩ := part_run (P := P) (W := W) hy hq
          exact ⟨a, b, ha, hb, eqT_run d D _ _ _ _ _ _ W hr (by omega) hra hrb⟩
        · cases hr
    · rename_i n e xs ys hu
      split at h
      · rename_i m hm
        simp only [VRel] at hx hy
        obtain ⟨cx, rfl, hx⟩ := hx
        obtain ⟨cy, rfl, hy⟩ := hy
        simp only [Op.equalIn, Sem.run_bind, run_underlying hu, Result.andThen_ok, run_sz hm]
        simp only [Std.Legacy.Range.forIn_eq_forIn_range', Std.Legacy.Range.size, Nat.sub_zero, Nat.add_sub_cancel, Nat.div_one]
        have := eqEs_run (P := P) (W := W) D e cx cy m _ (fun i r hr => by
          split at hr
          · rename_i p q hp hq
            obtain ⟨a, ha, hra⟩ := part_run (P := P) (W := W) hx hp
            obtain ⟨b, hb, hrb⟩ := part_run (P := P) (W := W) hy hq
            exact ⟨a, b, ha, hb, eqT_run d D _ _ _ _ _ _ W hr (by omega) hra hrb⟩
          · cases hr) n 0 r h
        rw [this]
        cases r <;> rfl
      · cases h
    · cases h

theorem eqGuard_agg {P : Program} {W : World} {op : BinOp} {t : TypeId} {x y : Operand} {a b : Array Value} (h : P.eqGuardType P.depth t = false) : (eqGuard op t x y (.agg a) (.agg b)).run P W = .ok () W := by
  have h3 : ∀ c : Prop, ∀ [Decidable c], ∀ s : Sem Unit, s.run P W = .ok () W → (if c then (Pure.pure () : Sem Unit) else s).run P W = .ok () W := fun c _ s hs => by split <;> first | rfl | exact hs
  unfold eqGuard
  refine h3 _ _ ?_
  simp [h]

theorem eqIn_nil {P : Program} (W : World) (d : Nat) (t e : TypeId) (a : Option Addr) (n c n' c' : Nat) (h : P.underlying t = some (.slice e)) :
    (Op.equalIn (d + 1) t (.slice a n c) (.slice none n' c')).run P W = .ok a.isNone W := by
  cases a <;> simp [Op.equalIn, run_underlying h]
/-- an operator on values of one shape -/
theorem bin_ok {P : Program} {F : Nat → Prop} {W0 W : World} {ρ : List Place} {H : List Blk} {op : BinOp} {t : TypeId} {ox oy : Operand} {x y v : AV} {u w : Value}
    (h : binA P op t x y = some (v, true)) (hx : VRel ρ x u) (hy : VRel ρ y w) (hC : Cls F W0 ρ H W) :
    OkNext P (Cls F W0 ρ H) (VRel ρ v) ((toNext (do eqGuard op t ox oy u w; binOp op t u w)).run P W) := by
  have plain : ∀ s : Sem Value, (∀ c, u ≠ .agg c) → u ≠ .nilIface → binOp op t u w = s → OkNext P (Cls F W0 ρ H) (VRel ρ v) ((toNext s).run P W) →
      OkNext P (Cls F W0 ρ H) (VRel ρ v) ((toNext (do eqGuard op t ox oy u w; binOp op t u w)).run P W) := by
    intro s h1 h2 he hs
    rw [he]
    simpa only [toNext, Sem.run_bind, eqGuard_run h1 h2, Result.andThen_ok] using hs
  unfold binA at h
  split at h
  · -- shl
    rename_i k a k' b
    simp only [Option.some.injEq, Prod.mk.injEq, decide_eq_true_eq] at h
    obtain ⟨rfl, hb⟩ := h
    rw [VRel_int hx, VRel_int hy]
    refine ok_of_run (W' := W) (u := .int k (k.wrap (a * 2 ^ min b.toNat k.bits))) ?_ hC (by simp [VRel])
    simp only [Sem.run_bind, eqGuard_run (a := .int k a) (fun c => by simp) (by simp), Result.andThen_ok, binOp, Op.shift]
    rw [if_neg (by omega)]; rfl
  · rename_i k a k' b
    simp only [Option.some.injEq, Prod.mk.injEq, decide_eq_true_eq] at h
    obtain ⟨rfl, hb⟩ := h
    rw [VRel_int hx, VRel_int hy]
    refine ok_of_run (W' := W) (u := .int k (a.fdiv (2 ^ min b.toNat k.bits))) ?_ hC (by simp [VRel])
    simp only [Sem.run_bind, eqGuard_run (a := .int k a) (fun c => by simp) (by simp), Result.andThen_ok, binOp, Op.shift]
    rw [if_neg (by omega)]; rfl
  · rename_i op' k a k' b hs1 hs2
    obtain ⟨hk, h'⟩ := cond_some h
    have := ikEq_eq hk; subst this
    rw [VRel_int hx, VRel_int hy]
    obtain ⟨u, hr, hv⟩ := binI_run (P := P) (W := W) (ρ := ρ) (t := t) h' hs1 hs2
    refine ok_of_run (W' := W) (u := u) ?_ hC hv
    simp only [Sem.run_bind, eqGuard_run (a := .int k a) (fun c => by simp) (by simp), Result.andThen_ok, hr]
  · rename_i k a k' b
    obtain ⟨hk, h'⟩ := cond_some h
    have := fkEq_eq hk; subst this
    simp only [VRel] at hx hy
    obtain ⟨m, rfl, hm, _⟩ := hx
    obtain ⟨n, rfl, hn, _⟩ := hy
    have gv : Gv P (VRel ρ v) (binOp op t (.float k m) (.float k n)) := by
      cases op <;> simp only [binF, Option.some.injEq, Prod.mk.injEq, reduceCtorEq, and_true] at h' <;> subst h' <;>
        simp only [binOp, ne_eq, not_true_eq_false, if_false] <;> first
        | exact arith_gv _ (by simp) hm hn
        | exact cmp_gv _ (by simp) hm hn
    have := ok_of_gv gv hC
    simpa only [toNext, Sem.run_bind, eqGuard_run (a := .float k m) (fun c => by simp) (by simp), Result.andThen_ok] using this
  · rename_i a b
    simp only [VRel] at hx hy
    subst hx; subst hy
    obtain ⟨u, hr, hv⟩ := binS_run (P := P) (W := W) (ρ := ρ) (t := t) h
    refine ok_of_run (W' := W) (u := u) ?_ hC hv
    simp only [Sem.run_bind, eqGuard_run (a := .string ⟨a.toArray⟩) (fun c => by simp) (by simp), Result.andThen_ok, hr]
  · rename_i a b
    split at h
    · rename_i r he
      simp only [Option.some.injEq, Prod.mk.injEq, and_true] at h; subst h
      have hq := eqT_run (P := P) (ρ := ρ) 8 Op.maxDepth t _ _ r u w W he (by decide) hx hy
      rw [VRel_bool hx, VRel_bool hy] at *
      refine ok_of_run (W' := W) (u := .bool r) ?_ hC (by simp [VRel])
      simp only [Sem.run_bind, eqGuard_run (a := .bool a) (fun c => by simp) (by simp), Result.andThen_ok, binOp, Op.equal, hq, Sem.run_pure]
    · cases h
  · rename_i a b
    split at h
    · rename_i r he
      simp only [Option.some.injEq, Prod.mk.injEq, and_true] at h; subst h
      have hq := eqT_run (P := P) (ρ := ρ) 8 Op.maxDepth t _ _ r u w W he (by decide) hx hy
      rw [VRel_bool hx, VRel_bool hy] at *
      refine ok_of_run (W' := W) (u := .bool (!r)) ?_ hC (by simp [VRel])
      simp only [Sem.run_bind, eqGuard_run (a := .bool a) (fun c => by simp) (by simp), Result.andThen_ok, binOp, Op.equal, hq, Sem.run_pure]
    · cases h
  · rename_i q b r n
    split at h
    · rename_i e he
      simp only [Option.some.injEq, Prod.mk.injEq, and_true] at h; subst h
      simp only [VRel] at hx hy
      obtain ⟨p, a, _, rfl, _, _, hq⟩ := hx
      subst hy
      refine ok_of_run (W' := W) (u := .bool q) ?_ hC (by simp [VRel])
      simp only [Sem.run_bind, eqGuard_run (a := .slice a n (p.cap - r)) (fun c => by simp) (by simp), Result.andThen_ok, binOp, Op.equal, Op.maxDepth, eqIn_nil W 9999 t e a _ _ _ _ he, Sem.run_pure, hq]
    · cases h
  · rename_i q b r n
    split at h
    · rename_i e he
      simp only [Option.some.injEq, Prod.mk.injEq, and_true] at h; subst h
      simp only [VRel] at hx hy
      obtain ⟨p, a, _, rfl, _, _, hq⟩ := hx
      subst hy
      refine ok_of_run (W' := W) (u := .bool (!q)) ?_ hC (by simp [VRel])
      simp only [Sem.run_bind, eqGuard_run (a := .slice a n (p.cap - r)) (fun c => by simp) (by simp), Result.andThen_ok, binOp, Op.equal, Op.maxDepth, eqIn_nil W 9999 t e a _ _ _ _ he, Sem.run_pure, hq]
    · cases h
  · rename_i a b
    cases hg : P.eqGuardType P.depth t with
    | true => rw [hg] at h; simp at h
    | false =>
      rw [hg] at h
      simp only [cond_false] at h
      split at h
      · rename_i r he
        simp only [Option.some.injEq, Prod.mk.injEq, and_true] at h; subst h
        have hq := eqT_run (P := P) (ρ := ρ) 8 Op.maxDepth t _ _ r u w W he (by decide) hx hy
        simp only [VRel] at hx hy
        obtain ⟨cx, rfl, hx⟩ := hx
        obtain ⟨cy, rfl, hy⟩ := hy
        refine ok_of_run (W' := W) (u := .bool r) ?_ hC (by simp [VRel])
        simp only [Sem.run_bind, eqGuard_agg hg, Result.andThen_ok, binOp, Op.equal, hq, Sem.run_pure]
      · cases h
  · rename_i a b
    cases hg : P.eqGuardType P.depth t with
    | true => rw [hg] at h; simp at h
    | false =>
      rw [hg] at h
      simp only [cond_false] at h
      split at h
      · rename_i r he
        simp only [Option.some.injEq, Prod.mk.injEq, and_true] at h; subst h
        have hq := eqT_run (P := P) (ρ := ρ) 8 Op.maxDepth t _ _ r u w W he (by decide) hx hy
        simp only [VRel] at hx hy
        obtain ⟨cx, rfl, hx⟩ := hx
        obtain ⟨cy, rfl, hy⟩ := hy
        refine ok_of_run (W' := W) (u := .bool (!r)) ?_ hC (by simp [VRel])
        simp only [Sem.run_bind, eqGuard_agg hg, Result.andThen_ok, binOp, Op.equal, hq, Sem.run_pure]
      · cases h
  · cases h

end Go.Sx
