/- What came in, as abstract values; and the memory that is left as it was. -/
import Derived.Test.YtpnjimpiphbcfaaSxFn
import Derived.ProofKit
import Derived.OpenShut
import Derived.Carry
set_option linter.unusedSimpArgs false
set_option linter.unusedVariables false
namespace Go.Sx
open Go.RowKit Go.ChangeShapes

/-- kinds of cells without pointers -/
inductive LK where
  | int (k : IntKind)
  | flt (k : FloatKind)
  | bool
  | str

def lkOf (P : Program) (t : TypeId) : Option LK :=
  match P.underlying t with
  | some .bool => some .bool
  | some (.int k) => some (.int k)
  | some (.float k) => some (.flt k)
  | some .string => some .str
  | _ => none

/-- a number that some bits stand for -/
def FOk (k : FloatKind) (o : Option Nat) : Prop := ∃ b, b < 2 ^ k.format.width ∧ nrm k b = o

def LK.has : LK → AV → Prop
  | .int k, x => ∃ n, x = .int k n ∧ k.min ≤ n ∧ n ≤ k.max
  | .flt k, x => ∃ o, x = .flt k o ∧ FOk k o
  | .bool, x => ∃ b, x = .bool b
  | .str, x => ∃ s : List UInt8, x = .str s ∧ (s.length : Int) ≤ 9223372036854775807

def Typed : List LK → List AV → Prop
  | [], l => l = []
  | k :: ks, l => ∃ x t, l = x :: t ∧ k.has x ∧ Typed ks t

theorem cell_typed {P : Program} {w : World} {r : Reach} {base : Nat} {u : TypeId} {v : Value} {k : LK} {ρ : List Place} (h : Cell.okWide P w r base u v) (hk : lkOf P u = some k) : ∃ x, k.has x ∧ VRel ρ x v := by
  unfold lkOf at hk
  unfold Cell.okWide at h
  split at hk <;> simp only [Option.some.injEq, reduceCtorEq] at hk
  · rename_i hu
    subst hk
    rw [hu] at h
    simp only [Cell.ok, hu] at h
    cases v <;> simp only at h
    rename_i b
    exact ⟨.bool b, ⟨b, rfl⟩, by simp [VRel]⟩
  · rename_i k hu
    subst hk
    rw [hu] at h
    simp only [Cell.ok, hu] at h
    cases v <;> simp only at h
    rename_i k' n
    obtain ⟨rfl, hn⟩ := h
    simp only [IntKind.has] at hn
    exact ⟨.int k' n, ⟨n, rfl, hn.1, hn.2⟩, by simp [VRel]⟩
  · rename_i k hu
    subst hk
    rw [hu] at h
    simp only [Cell.ok, hu] at h
    cases v <;> simp only at h
    rename_i k' b
    obtain ⟨rfl, hb⟩ := h
    have hb' : b < 2 ^ k'.format.width := by cases k' <;> exact hb
    exact ⟨.flt k' (nrm k' b), ⟨_, rfl, b, hb', rfl⟩, by simp only [VRel]; exact ⟨b, rfl, rfl, hb'⟩⟩
  · rename_i hu
    subst hk
    rw [hu] at h
    simp only [Cell.ok, hu] at h
    cases v <;> simp only at h
    rename_i s
    refine ⟨.str s.data.toList, ⟨_, rfl, ?_⟩, by simp [VRel]⟩
    have : IntKind.i64.max = 9223372036854775807 := by decide
    rw [this] at h
    simpa using h

theorem typed_len : ∀ {ks : List LK} {l : List AV}, Typed ks l → l.length = ks.length
  | [], l, h => by simp [Typed] at h; simp [h]
  | k :: ks, l, h => by
    obtain ⟨x, t, rfl, _, ht⟩ := h
    simp [typed_len ht]

theorem row_typed {P : Program} {w : World} {r : Reach} {base : Nat} {ρ : List Place} : ∀ (ts : List TypeId) (ks : List LK) (vs : List Value), ts.mapM (lkOf P) = some ks → vs.length = ts.length →
    (∀ (i : Nat) (v : Value), vs[i]? = some v → ∃ u, ts[i]? = some u ∧ Cell.okWide P w r base u v) → ∃ l, Typed ks l ∧ VRels ρ l vs
  | [], ks, vs, hk, hl, _ => by
    simp at hk hl
    subst hk; subst hl
    exact ⟨[], rfl, by simp [VRels]⟩
  | t :: ts, ks, vs, hk, hl, h => by
    cases vs with
    | nil => simp at hl
    | cons v vs =>
      simp only [List.mapM_cons, Option.bind_eq_bind, Option.pure_def] at hk
      cases h1 : lkOf P t with
      | none => rw [h1] at hk; cases hk
      | some k =>
        cases h2 : ts.mapM (lkOf P) with
        | none => rw [h1, h2] at hk; cases hk
        | some ks' =>
          rw [h1, h2] at hk
          simp only [Option.bind_some, Option.some.injEq] at hk
          subst hk
          obtain ⟨u, hu, hc⟩ := h 0 v (by simp)
          simp at hu; subst hu
          obtain ⟨x, hx, hr⟩ := cell_typed (ρ := ρ) hc h1
          obtain ⟨l, hl', hrl⟩ := row_typed ts ks' vs h2 (by simpa using hl) fun i w hi => by simpa using h (i + 1) w (by simpa using hi)
          exact ⟨x :: l, ⟨x, l, rfl, hx, hl'⟩, by simp only [VRels]; exact ⟨v, vs, rfl, hr, hrl⟩⟩

/-- a struct or an array that came in -/
theorem arg_agg {P : Program} {w : World} {r : Reach} {base : Nat} {t : TypeId} {v : Value} {ts : List TypeId} {ks : List LK} {ρ : List Place} (h : Value.okWide P w r base t v) (hag : isAggT P t = some true)
    (hts : P.cellTypes P.depth t = some ts) (hks : ts.mapM (lkOf P) = some ks) (hn : P.cellsOf t = ts.length) : ∃ l, Typed ks l ∧ VRel ρ (.agg l) v := by
  have key : ∃ cs, v = .agg cs ∧ cs.size = P.cellsOf t ∧ Row.okWide P w r base t cs := by
    unfold isAggT at hag
    unfold Value.okWide at h
    split at hag <;> simp at hag
    · rename_i hu; rw [hu] at h; exact h
    · rename_i hu; rw [hu] at h; exact h
  obtain ⟨cs, rfl, hsz, ts', hts', _, hc⟩ := key
  rw [hts] at hts'
  cases hts'
  obtain ⟨l, hl, hr⟩ := row_typed (ρ := ρ) ts ks cs.toList hks (by simp [hsz, hn]) fun i v hi => by
    simp only [Array.getElem?_toList] at hi
    obtain ⟨u, hu, hcu⟩ := hc i v hi
    have : i < ts.length := by rw [← hn, ← hsz]; exact (Array.getElem?_eq_some_iff.1 hi).1
    rw [Nat.mod_eq_of_lt this] at hu
    exact ⟨u, hu, hcu⟩
  exact ⟨l, hl, by simp only [VRel]; exact ⟨cs, rfl, hr⟩⟩

/-- one number, a bool or a string that came in -/
theorem arg_cell {P : Program} {w : World} {r : Reach} {base : Nat} {t : TypeId} {v : Value} {k : LK} {ρ : List Place} (h : Value.okWide P w r base t v) (hk : lkOf P t = some k) : ∃ x, k.has x ∧ VRel ρ x v := by
  refine cell_typed (w := w) (r := r) (base := base) (ρ := ρ) ?_ hk
  unfold lkOf at hk
  unfold Value.okWide at h
  split at hk <;> simp only [Option.some.injEq, reduceCtorEq] at hk <;> rename_i hu <;> rw [hu] at h <;> exact h

/-- all arguments read as they did -/
theorem trodAll_below {H : Type} {enc : TypeId × Value → H} {P : Program} (hl : laidOutB P = true) {W W' : World} (hb : Below W.heap.size W W') : ∀ (ts : List TypeId) (vs : List Value) (ds : List (DataW H)) (ps : List MemPlace),
    (∀ t ∈ ts, P.readableRec t = true ∧ t < P.types.size) → DataW.TrodAll enc P W 0 (fun _ => true) true ts vs ds ps → (∀ x ∈ ps, x.block < W.heap.size) →
    DataW.TrodAll enc P W' 0 (fun b => decide (b < W.heap.size)) true ts vs ds ps
  | [], vs, ds, ps, _, h, _ => by
    obtain ⟨rfl, rfl, rfl⟩ := trodAll_nil h
    exact trodAll_mk0
  | t :: ts, vs, ds, ps, hr, h, hlt => by
    obtain ⟨v, vs', d, ds', p, q, rfl, rfl, rfl, h0, h1⟩ := trodAll_cons h
    exact trodAll_cons_mk (Below.trod hl (hr t List.mem_cons_self).1 (hr t List.mem_cons_self).2 h0 hb fun x hx => hlt x (List.mem_append_left _ hx))
      (trodAll_below hl hb ts vs' ds' q (fun u hu => hr u (List.mem_cons_of_mem _ hu)) h1 fun x hx => hlt x (List.mem_append_right _ hx))

end Go.Sx
