/- One operation that leaves memory as it is, whichever it be. -/
import Derived.Test.YtpnjimpiphbcfaaSxOp2
set_option linter.unusedSimpArgs false
set_option linter.unusedVariables false
namespace Go.Sx
open Go.RowKit

theorem orel_map {ρ : List Place} {st : St} {a : Act} (h : SRel ρ st.slots a.tmps) (x : Option Operand) : ORel ρ (x.map st.ev) (x.map a.eval) := by
  cases x with
  | none => rfl
  | some x => exact ⟨_, rfl, ev_rel h x⟩

theorem minI_run {P : Program} {W : World} {ρ : List Place} : ∀ (l : List AV) (vs : List Value) (k : IntKind) (m : Int) (v : AV), minI l k m = some v → VRels ρ l vs →
    ∃ u, (vs.foldlM Builtin.min2 (.int k m)).run P W = .ok u W ∧ VRel ρ v u
  | [], vs, k, m, v, h, hl => by
    simp only [minI, Option.some.injEq] at h; subst h
    simp only [VRels] at hl; subst hl
    exact ⟨.int k m, by simp, by simp [VRel]⟩
  | x :: t, vs, k, m, v, h, hl => by
    simp only [VRels] at hl
    obtain ⟨w, ws, rfl, hw, ht⟩ := hl
    cases x <;> simp only [minI, reduceCtorEq] at h
    obtain ⟨hk, h'⟩ := cond_some h
    have := ikEq_eq hk; subst this
    rw [VRel_int hw]
    obtain ⟨u, hu, hv⟩ := minI_run t ws _ _ v h' ht
    exact ⟨u, by simpa [List.foldlM, Builtin.min2] using hu, hv⟩

theorem maxI_run {P : Program} {W : World} {ρ : List Place} : ∀ (l : List AV) (vs : List Value) (k : IntKind) (m : Int) (v : AV), maxI l k m = some v → VRels ρ l vs →
    ∃ u, (vs.foldlM Builtin.max2 (.int k m)).run P W = .ok u W ∧ VRel ρ v u
  | [], vs, k, m, v, h, hl => by
    simp only [maxI, Option.some.injEq] at h; subst h
    simp only [VRels] at hl; subst hl
    exact ⟨.int k m, by simp, by simp [VRel]⟩
  | x :: t, vs, k, m, v, h, hl => by
    simp only [VRels] at hl
    obtain ⟨w, ws, rfl, hw, ht⟩ := hl
    cases x <;> simp only [maxI, reduceCtorEq] at h
    obtain ⟨hk, h'⟩ := cond_some h
    have := ikEq_eq hk; subst this
    rw [VRel_int hw]
    obtain ⟨u, hu, hv⟩ := maxI_run t ws _ _ v h' ht
    exact ⟨u, by simpa [List.foldlM, Builtin.max2] using hu, hv⟩

theorem min2_gv {P : Program} {ρ : List Place} {k : FloatKind} {x y : Nat} {a b : Option Nat} (hx : nrm k x = a) (hlx : x < 2 ^ k.format.width) (hy : nrm k y = b) (hly : y < 2 ^ k.format.width) :
    Gv P (VRel ρ (.flt k (fmin2 k a b))) (Builtin.min2 (.float k x) (.float k y)) := by
  rw [fmin2_eq]
  simp only [Builtin.min2]
  have e := order_nrm hx hy
  have keep : ∀ z c, nrm k z = some c → z < 2 ^ k.format.width → Gv P (VRel ρ (.flt k (some c))) (Pure.pure (.float k z) : Sem Value) := fun z c hz hl => .pure (by simp only [VRel]; exact ⟨z, rfl, hz, hl⟩)
  cases a with
  | none => rw [← e]; exact gv_nan (nanQ_minmax k false x y)
  | some a =>
    cases b with
    | none => rw [← e]; exact gv_nan (nanQ_minmax k false x y)
    | some b =>
      have ha := (nrm_some hx).1; subst ha
      have hb := (nrm_some hy).1; subst hb
      simp only [fmin2Real]
      cases ho : k.format.order a b with
      | none => exact gv_nan (nanQ_minmax k false a b)
      | some o =>
        cases o
        · exact keep a a hx hlx
        · dsimp only
          split
          · exact keep a a hx hlx
          · exact keep b b hy hly
        · exact keep b b hy hly
theorem max2_gv {P : Program} {ρ : List Place} {k : FloatKind} {x y : Nat} {a b : Option Nat} (hx : nrm k x = a) (hlx : x < 2 ^ k.format.width) (hy : nrm k y = b) (hly : y < 2 ^ k.format.width) :
    Gv P (VRel ρ (.flt k (fmax2 k a b))) (Builtin.max2 (.float k x) (.float k y)) := by
  rw [fmax2_eq]
  simp only [Builtin.max2]
  have e := order_nrm hx hy
  have keep : ∀ z c, nrm k z = some c → z < 2 ^ k.format.width → Gv P (VRel ρ (.flt k (some c))) (Pure.pure (.float k z) : Sem Value) := fun z c hz hl => .pure (by simp only [VRel]; exact ⟨z, rfl, hz, hl⟩)
  cases a with
  | none => rw [← e]; exact gv_nan (nanQ_minmax k true x y)
  | some a =>
    cases b with
    | none => rw [← e]; exact gv_nan (nanQ_minmax k true x y)
    | some b =>
      have ha := (nrm_some hx).1; subst ha
      have hb := (nrm_some hy).1; subst hb
      simp only [fmax2Real]
      cases ho : k.format.order a b with
      | none => exact gv_nan (nanQ_minmax k true a b)
      | some o =>
        cases o
        · exact keep b b hy hly
        · dsimp only
          split
          · exact keep b b hy hly
          · exact keep a a hx hlx
        · exact keep a a hx hlx

theorem Gv.bind {P : Program} {V V' : Value → Prop} {s : Sem Value} {g : Value → Sem Value} (h : Gv P V s) (k : ∀ u, V u → Gv P V' (g u)) : Gv P V' (s >>= g) := fun W => by
  obtain ⟨u, n, hr, hv⟩ := h W
  obtain ⟨w, m, hr', hv'⟩ := k u hv { W with drawn := n }
  exact ⟨w, m, by simp only [Sem.run_bind, hr, Result.andThen_ok, hr'], hv'⟩

theorem minF_gv {P : Program} {ρ : List Place} : ∀ (l : List AV) (vs : List Value) (k : FloatKind) (m : Option Nat) (v : AV) (u : Value), minF l k m = some v → VRels ρ l vs → VRel ρ (.flt k m) u →
    Gv P (VRel ρ v) (vs.foldlM Builtin.min2 u)
  | [], vs, k, m, v, u, h, hl, hu => by
    simp only [minF, Option.some.injEq] at h; subst h
    simp only [VRels] at hl; subst hl
    exact .pure hu
  | x :: t, vs, k, m, v, u, h, hl, hu => by
    simp only [VRels] at hl
    obtain ⟨w, ws, rfl, hw, ht⟩ := hl
    cases x <;> simp only [minF, reduceCtorEq] at h
    obtain ⟨hk, h'⟩ := cond_some h
    have := fkEq_eq hk; subst this
    simp only [VRel] at hw hu
    obtain ⟨y, rfl, hy, hly⟩ := hw
    obtain ⟨z, rfl, hz, hlz⟩ := hu
    exact (min2_gv hz hlz hy hly).bind fun u hu => minF_gv t ws _ _ v u h' ht hu
theorem maxF_gv {P : Program} {ρ : List Place} : ∀ (l : List AV) (vs : List Value) (k : FloatKind) (m : Option Nat) (v : AV) (u : Value), maxF l k m = some v → VRels ρ l vs → VRel ρ (.flt k m) u →
    Gv P (VRel ρ v) (vs.foldlM Builtin.max2 u)
  | [], vs, k, m, v, u, h, hl, hu => by
    simp only [maxF, Option.some.injEq] at h; subst h
    simp only [VRels] at hl; subst hl
    exact .pure hu
  | x :: t, vs, k, m, v, u, h, hl, hu => by
    simp only [VRels] at hl
    obtain ⟨w, ws, rfl, hw, ht⟩ := hl
    cases x <;> simp only [maxF, reduceCtorEq] at h
    obtain ⟨hk, h'⟩ := cond_some h
    have := fkEq_eq hk; subst this
    simp only [VRel] at hw hu
    obtain ⟨y, rfl, hy, hly⟩ := hw
    obtain ⟨z, rfl, hz, hlz⟩ := hu
    exact (max2_gv hz hlz hy hly).bind fun u hu => maxF_gv t ws _ _ v u h' ht hu

theorem builtin_ok {P : Program} {F : Nat → Prop} {W0 W : World} {ρ : List Place} {H : List Blk} {b : Builtin} {argTypes : Array TypeId} {type : TypeId} {consts : Array Bool} {args : List AV} {vals : List Value} {v : AV}
    (h : builtinA P b argTypes args = some v) (hv : VRels ρ args vals) (hC : Cls F W0 ρ H W) :
    OkNext P (Cls F W0 ρ H) (VRel ρ v) ((builtin b argTypes type consts vals.toArray).run P W) := by
  unfold builtinA at h
  split at h
  · rename_i x
    simp only [VRels] at hv
    obtain ⟨u, t, rfl, hu, rfl⟩ := hv
    split at h
    · rename_i t ht
      show OkNext P (Cls F W0 ρ H) (VRel ρ v) ((toNext (Builtin.len_ argTypes type #[u])).run P W)
      have base : ∀ n, (Builtin.len_ argTypes type #[u]).run P W = .ok (goInt n) W → v = .int .i64 n → OkNext P (Cls F W0 ρ H) (VRel ρ v) ((toNext (Builtin.len_ argTypes type #[u])).run P W) := fun n hn e => by
        subst e; exact ok_of_run hn hC (by simp [VRel, goInt])
      split at h <;> simp only [Option.some.injEq, reduceCtorEq] at h
      · rename_i s hus
        simp only [VRel] at hu; subst hu
        exact base _ (by simp [Builtin.len_, ht, run_und hus]; rfl) h.symm
      · rename_i n e y hus
        exact base _ (by simp [Builtin.len_, ht, run_und hus]) h.symm
      · rename_i e b r n hus
        simp only [VRel] at hu
        obtain ⟨p, x, _, rfl, _⟩ := hu
        exact base _ (by simp [Builtin.len_, ht, run_und hus]) h.symm
      · rename_i e b r o ez n hus
        simp only [VRel] at hu
        obtain ⟨p, x, c, _, rfl, _⟩ := hu
        exact base _ (by simp [Builtin.len_, ht, run_und hus]) h.symm
      · rename_i e hus
        simp only [VRel] at hu; subst hu
        exact base _ (by simp [Builtin.len_, ht, run_und hus]) h.symm
    · cases h
  · simp only [VRels] at hv
    obtain ⟨u, t, rfl, hu, ht⟩ := hv
    rw [VRel_int hu]
    obtain ⟨w, hw, hr⟩ := minI_run (P := P) (W := W) _ _ _ _ v h ht
    show OkNext P (Cls F W0 ρ H) (VRel ρ v) ((toNext (Builtin.min_ argTypes type _)).run P W)
    exact ok_of_run (by simpa [Builtin.min_] using hw) hC hr
  · simp only [VRels] at hv
    obtain ⟨u, t, rfl, hu, ht⟩ := hv
    rw [VRel_int hu]
    obtain ⟨w, hw, hr⟩ := maxI_run (P := P) (W := W) _ _ _ _ v h ht
    show OkNext P (Cls F W0 ρ H) (VRel ρ v) ((toNext (Builtin.max_ argTypes type _)).run P W)
    exact ok_of_run (by simpa [Builtin.max_] using hw) hC hr
  · simp only [VRels] at hv
    obtain ⟨u, t, rfl, hu, ht⟩ := hv
    show OkNext P (Cls F W0 ρ H) (VRel ρ v) ((toNext (Builtin.min_ argTypes type _)).run P W)
    exact ok_of_gv (s := Builtin.min_ argTypes type _) (by simpa [Builtin.min_] using minF_gv (P := P) _ _ _ _ v u h ht hu) hC
  · simp only [VRels] at hv
    obtain ⟨u, t, rfl, hu, ht⟩ := hv
    show OkNext P (Cls F W0 ρ H) (VRel ρ v) ((toNext (Builtin.max_ argTypes type _)).run P W)
    exact ok_of_gv (s := Builtin.max_ argTypes type _) (by simpa [Builtin.max_] using maxF_gv (P := P) _ _ _ _ v u h ht hu) hC
  · cases h

theorem evV0_ok {P : Program} {call : Caller} (hcall : CallerOk P call) {F : Nat → Prop} {W0 W : World} {ρ : List Place} {st : St} {a : Act} {o : Oper} {v : AV}
    (h : evV0 P call st o = some (v, true)) (hs : SRel ρ st.slots a.tmps) (hC : Cls F W0 ρ st.heap W) :
    OkNext P (Cls F W0 ρ st.heap) (VRel ρ v) ((execOp a.eval o).run P W) := by
  obtain ⟨dst, op, type, pos, after, guard⟩ := o
  cases op <;> simp only [evV0, reduceCtorEq] at h
  case move x =>
    simp only [Option.some.injEq, Prod.mk.injEq, and_true] at h; subst h
    exact ⟨hC, ev_rel hs x⟩
  case assign x =>
    simp only [Option.some.injEq, Prod.mk.injEq, and_true] at h; subst h
    exact ⟨hC, ev_rel hs x⟩
  case pick c x y =>
    have hc := ev_rel hs c; have hx := ev_rel hs x; have hy := ev_rel hs y
    split at h
    · rename_i t p q ec ex ey
      simp only [Option.some.injEq, Prod.mk.injEq, and_true] at h; subst h
      rw [ec] at hc; rw [ex] at hx; rw [ey] at hy
      simp only [execOp, Sem.run_bind, VRel_bool hc, VRel_bool hx, VRel_bool hy, asBool, Sem.run_pure, Result.andThen_ok]
      exact ⟨hC, by cases t <;> simp [VRel]⟩
    · cases h
  case build t parts =>
    split at h
    · rename_i w hw
      simp only [Option.some.injEq, Prod.mk.injEq, and_true] at h; subst h
      have hp : PRels ρ (evP st parts.toList) (parts.map fun (i, x) => (i, a.eval x)).toList := by simpa using evP_rel hs parts.toList
      obtain ⟨u, hr, hv⟩ := build_run (P := P) (W := W) hw hp
      exact ok_of_run (s := Instr.build t _) hr hC hv
    · cases h
  case load t x =>
    obtain ⟨u, hr, hv⟩ := load_run (P := P) hC.rel h (ev_rel hs x)
    exact ok_of_run (s := Instr.loadAt t _) hr hC hv
  case nilCheck x =>
    have hx := ev_rel hs x
    split at h
    · rename_i b r o ex
      simp only [Option.some.injEq, Prod.mk.injEq, and_true] at h; subst h
      rw [ex] at hx
      have hx' := hx
      simp only [VRel] at hx
      obtain ⟨p, hp, hx⟩ := hx
      simp only [execOp, hx]
      rw [hx] at hx'
      exact ⟨hC, hx'⟩
    · rename_i f xs ys ex
      simp only [Option.some.injEq, Prod.mk.injEq, and_true] at h; subst h
      rw [ex] at hx
      have hx' := hx
      simp only [VRel] at hx
      obtain ⟨p, q, hx, _⟩ := hx
      simp only [execOp, hx]
      rw [hx] at hx'
      exact ⟨hC, hx'⟩
    · cases h
  case binOp op t x y ty => exact bin_ok h (ev_rel hs x) (ev_rel hs y) hC
  case unOp op t x =>
    split at h
    · rename_i w hw
      simp only [Option.some.injEq, Prod.mk.injEq, and_true] at h; subst h
      exact un_ok hw (ev_rel hs x) hC
    · cases h
  case convert s d x => exact conv_ok h (ev_rel hs x) hC
  case makeFunc fn first captured =>
    simp only [Option.some.injEq, Prod.mk.injEq, and_true] at h; subst h
    refine ok_of_run (s := Instr.makeFunc fn _ _) (W' := W) rfl hC ?_
    simp only [VRel]
    exact ⟨_, _, rfl, by simpa using evL_rel hs first.toList, by simpa using evL_rel hs captured.toList⟩
  case slice t x lo hi mx =>
    exact slice_ok h (ev_rel hs x) (orel_map hs lo) (orel_map hs hi) (fun e => by cases mx <;> simp at e ⊢) hC
  case fieldAddr s x f =>
    have hx := ev_rel hs x
    split at h
    · rename_i fs hu
      split at h
      · rename_i fd hfd
        split at h
        · rename_i n hn
          split at h
          · rename_i w hw
            simp only [Option.some.injEq, Prod.mk.injEq, and_true] at h; subst h
            unfold addOff at hw
            split at hw
            · rename_i b r o ex
              simp only [Option.some.injEq] at hw; subst hw
              rw [ex] at hx
              simp only [VRel] at hx
              obtain ⟨p, hp, hx⟩ := hx
              refine ok_of_run (s := Instr.fieldAt s (a.eval x) f) (W' := W) (u := .pointer (some ⟨p.blk, p.off + r * p.sz + o + fd.offset, none⟩)) ?_ hC ?_
              · simp [Instr.fieldAt, run_und hu, hfd, hx, Instr.sureAddr, fieldPlace, run_sz hn, add_none]
              · simp only [VRel]; exact ⟨p, hp, by rw [Nat.add_assoc (p.off + r * p.sz)]⟩
            · cases hw
          · cases h
        · cases h
      · cases h
    · cases h
  case field t x f =>
    have hx := ev_rel hs x
    split at h
    · rename_i fs l hu ex
      split at h
      · rename_i fd hfd
        split at h
        · rename_i w hw
          simp only [Option.some.injEq, Prod.mk.injEq, and_true] at h; subst h
          rw [ex] at hx
          simp only [VRel] at hx
          obtain ⟨cs, hx, hl⟩ := hx
          obtain ⟨u, hr, hv⟩ := part_run (P := P) (W := W) hl hw
          exact ok_of_run (s := Instr.field t (a.eval x) f) (by simp [Instr.field, run_und hu, hfd, hx, asAgg, hr]) hC hv
        · cases h
      · cases h
    · cases h
  case indexAddr t x ix =>
    have hx := ev_rel hs x; have hi := ev_rel hs ix
    split at h
    · rename_i n e b r o k i hu ex ei
      split at h
      · rename_i sz hsz
        simp only [Option.some.injEq, Prod.mk.injEq, inB, Bool.and_eq_true, decide_eq_true_eq] at h
        obtain ⟨rfl, h0, h1⟩ := h
        rw [ex] at hx; rw [ei] at hi
        simp only [VRel] at hx
        obtain ⟨p, hp, hx⟩ := hx
        refine ok_of_run (s := Instr.indexAt t (a.eval x) (a.eval ix)) (W' := W) (u := .pointer (some ⟨p.blk, p.off + r * p.sz + o + i.toNat * sz, none⟩)) ?_ hC ?_
        · simp [Instr.indexAt, VRel_int hi, hx, asIntOf, run_und hu, Instr.sureAddr, run_sz hsz, h0, h1, add_none]
        · simp only [VRel]; exact ⟨p, hp, by rw [Nat.add_assoc (p.off + r * p.sz)]⟩
      · cases h
    · rename_i e b r n k i hu ex ei
      split at h
      · rename_i sz sz' hsz hbs
        obtain ⟨he, h'⟩ := cond_some h
        have he := Nat.eq_of_beq_eq_true he; subst he
        simp only [Option.some.injEq, Prod.mk.injEq, inB, Bool.and_eq_true, decide_eq_true_eq] at h'
        obtain ⟨rfl, h0, h1⟩ := h'
        rw [ex] at hx; rw [ei] at hi
        simp only [VRel] at hx
        obtain ⟨p, y, hp, hx, hcap, hy⟩ := hx
        have hps := bsz_place hC.rel hbs hp
        have hy := hy (by omega)
        subst hy
        refine ok_of_run (s := Instr.indexAt t (a.eval x) (a.eval ix)) (W' := W) (u := .pointer (some ⟨p.blk, p.off + r * p.sz + i.toNat * sz, none⟩)) ?_ hC ?_
        · simp [Instr.indexAt, VRel_int hi, hx, asIntOf, run_und hu, run_sz hsz, h0, h1, add_none]
        · simp only [VRel]; exact ⟨p, hp, by rw [hps, Nat.add_mul, Nat.add_zero, Nat.add_assoc, Nat.add_comm (r * sz)]⟩
      · cases h
    · rename_i e b r o sz n k i hu ex ei
      split at h
      · rename_i sz' hsz
        obtain ⟨he, h'⟩ := cond_some h
        have he := Nat.eq_of_beq_eq_true he; subst he
        simp only [Option.some.injEq, Prod.mk.injEq, inB, Bool.and_eq_true, decide_eq_true_eq] at h'
        obtain ⟨rfl, h0, h1⟩ := h'
        rw [ex] at hx; rw [ei] at hi
        simp only [VRel] at hx
        obtain ⟨p, y, c, hp, hx, hcap, hy⟩ := hx
        refine ok_of_run (s := Instr.indexAt t (a.eval x) (a.eval ix)) (W' := W) (u := .pointer (some ⟨p.blk, y + i.toNat * sz, none⟩)) ?_ hC ?_
        · simp [Instr.indexAt, VRel_int hi, hx, asIntOf, run_und hu, run_sz hsz, h0, h1, add_none]
        · simp only [VRel]; exact ⟨p, hp, by rw [hy (by omega), Nat.add_assoc (p.off + r * p.sz)]⟩
      · cases h
    · cases h
  case index t x ix =>
    have hx := ev_rel hs x; have hi := ev_rel hs ix
    split at h
    · rename_i n e l k i hu ex ei
      split at h
      · rename_i sz hsz
        split at h
        · rename_i w hw
          simp only [Option.some.injEq, Prod.mk.injEq, inB, Bool.and_eq_true, decide_eq_true_eq] at h
          obtain ⟨rfl, h0, h1⟩ := h
          rw [ex] at hx; rw [ei] at hi
          simp only [VRel] at hx
          obtain ⟨cs, hx, hl⟩ := hx
          obtain ⟨u, hr, hv⟩ := part_run (P := P) (W := W) hl hw
          exact ok_of_run (s := Instr.index t (a.eval x) (a.eval ix)) (by simp [Instr.index, VRel_int hi, hx, asIntOf, run_und hu, run_sz hsz, h0, h1, hr]) hC hv
        · cases h
      · cases h
    · rename_i s k i hu ex ei
      simp only [Option.some.injEq, Prod.mk.injEq, inB, Bool.and_eq_true, decide_eq_true_eq] at h
      obtain ⟨rfl, h0, h1⟩ := h
      rw [ex] at hx; rw [ei] at hi
      simp only [VRel] at hx
      have hlt : i.toNat < s.length := by omega
      have hg : (⟨s.toArray⟩ : ByteArray)[i.toNat]? = some s[i.toNat] := by
        rw [show (⟨s.toArray⟩ : ByteArray)[i.toNat]? = s.toArray[i.toNat]? from rfl]
        simp [hlt]
      refine ok_of_run (s := Instr.index t (a.eval x) (a.eval ix)) (W' := W) (u := .int .u8 (s[i.toNat].toNat : Int)) ?_ hC ?_
      · simp [Instr.index, VRel_int hi, hx, asIntOf, run_und hu, h0, hg]
      · simp [VRel, List.getD, List.getElem?_eq_getElem hlt]
    · cases h
  case extract t i =>
    have ht := ev_rel hs t
    split at h
    · rename_i l et
      split at h
      · rename_i w hw
        simp only [Option.some.injEq, Prod.mk.injEq, and_true] at h; subst h
        rw [et] at ht
        simp only [VRel] at ht
        obtain ⟨vs, ht, hl⟩ := ht
        rw [at1_spec] at hw
        obtain ⟨u, hu, hr⟩ := hl.get hw
        refine ok_of_run (s := Instr.extract (a.eval t) i) (W' := W) (u := u) ?_ hC hr
        simp only [Array.getElem?_toList] at hu
        simp [Instr.extract, ht, hu]
      · cases h
    · cases h
  case call c =>
    obtain ⟨callee, args, argTypes⟩ := c
    cases callee <;> simp only [reduceCtorEq] at h
    case builtin b =>
      split at h
      · rename_i w hw
        simp only [Option.some.injEq, Prod.mk.injEq, and_true] at h; subst h
        have := builtin_ok (type := type) (consts := args.map fun | .const _ => true | _ => false) hw (evL_rel hs args.toList) hC
        have e : (List.map a.eval args.toList).toArray = args.map a.eval := by apply Array.ext'; simp
        rw [e] at this
        exact this
      · cases h
    case value f =>
      have hf := ev_rel hs f
      split at h
      · rename_i g first captured ef
        rw [ef] at hf
        simp only [VRel] at hf
        obtain ⟨fs, cs, hf, h1, h2⟩ := hf
        have := hcall _ _ _ _ h F W0 ρ W _ hC ((h1.append (rawL_rel hs args.toList)).append h2)
        have e : (fs.toList ++ List.map a.eval args.toList ++ cs.toList).toArray = fs ++ args.map a.eval ++ cs := by
          apply Array.ext'; simp
        rw [e] at this
        simpa [execOp, resolve, hf, Deferred.ofValue, invoke] using this
      · cases h

theorem OkNext.mono {P : Program} {C : World → Prop} {V V' : Value → Prop} (hV : ∀ u, V u → V' u) {r : Result Next} (h : OkNext P C V r) : OkNext P C V' r := by
  cases r with
  | halt h' w => exact h.elim
  | ok n w =>
    cases n with
    | value u => exact ⟨h.1, hV _ h.2⟩
    | skip => exact ⟨h.1, hV _ h.2⟩
    | enter f args => exact Calls.mono h fun e w ⟨v, he, hv, hc⟩ => ⟨v, he, hV _ hv, hc⟩
    | _ => exact h.elim

theorem evV_ok {P : Program} {call : Caller} (hcall : CallerOk P call) {F : Nat → Prop} {W0 W : World} {ρ : List Place} {st : St} {a : Act} {o : Oper} {v : AV}
    (h : evV P call st o = some (v, true)) (hs : SRel ρ st.slots a.tmps) (hC : Cls F W0 ρ st.heap W) :
    OkNext P (Cls F W0 ρ st.heap) (VRel ρ v) ((execOp a.eval o).run P W) := by
  unfold evV at h
  split at h
  · rename_i w ob hw
    simp only [Option.some.injEq, Prod.mk.injEq] at h
    obtain ⟨rfl, rfl⟩ := h
    refine (evV0_ok hcall hw hs hC).mono fun u hu => ?_
    cases litOp st o with
    | false => exact hu
    | true => exact mkLit_rel hu
  · cases h

end Go.Sx
