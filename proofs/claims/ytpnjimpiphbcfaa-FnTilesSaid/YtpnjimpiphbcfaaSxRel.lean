/- How abstract values and abstract blocks stand for the model's values and memory, and first laws on it. -/
import Derived.Test.YtpnjimpiphbcfaaSxEval
import Derived.Laws.Sem
import Derived.Laws.World
import Derived.Laws.Cells
import Derived.Laws.Rows
import Derived.Below
set_option linter.unusedSimpArgs false
set_option linter.unusedVariables false
namespace Go.Sx
open Go.RowKit

/-- where a block lies: the model's block, the cell of row 0, the cells of a row, how many rows there is room for -/
structure Place where
  blk : Nat
  off : Nat
  sz : Nat
  cap : Nat

mutual
def VRel (ρ : List Place) : AV → Value → Prop
  | .junk, _ => True
  | .bool b, v => v = .bool b
  | .int k n, v => v = .int k n
  | .flt k o, v => ∃ b, v = .float k b ∧ nrm k b = o ∧ b < 2 ^ k.format.width
  | .str s, v => v = .string ⟨s.toArray⟩
  | .ptr b r o, v => ∃ p, ρ[b]? = some p ∧ v = .pointer (some ⟨p.blk, p.off + r * p.sz + o, none⟩)
  | .nilp, v => v = .pointer none
  | .slc b r n, v => ∃ p x, ρ[b]? = some p ∧ v = .slice x n (p.cap - r) ∧ r + n ≤ p.cap ∧ (p.cap - r ≠ 0 → x = some ⟨p.blk, p.off + r * p.sz, none⟩)
  | .slx b r o _ n, v => ∃ p x c, ρ[b]? = some p ∧ v = .slice (some ⟨p.blk, x, none⟩) n c ∧ n ≤ c ∧ (n ≠ 0 → x = p.off + r * p.sz + o)
  | .slq q b r n, v => ∃ p x, ρ[b]? = some p ∧ v = .slice x n (p.cap - r) ∧ r + n ≤ p.cap ∧ (p.cap - r ≠ 0 → x = some ⟨p.blk, p.off + r * p.sz, none⟩) ∧ x.isNone = q
  | .nils, v => v = .slice none 0 0
  | .fn f fs cs, v => ∃ a b, v = .func f a b ∧ VRels ρ fs a.toList ∧ VRels ρ cs b.toList
  | .nilf, v => v = .nilFunc
  | .ifc t x, v => ∃ y, v = .iface t y ∧ VRel ρ x y
  | .nili, v => v = .nilIface
  | .agg l, v => ∃ a, v = .agg a ∧ VRels ρ l a.toList
  | .tup l, v => ∃ a, v = .tuple a ∧ VRels ρ l a.toList
  | .lit x, v => VRel ρ x v
def VRels (ρ : List Place) : List AV → List Value → Prop
  | [], vs => vs = []
  | x :: xs, vs => ∃ v t, vs = v :: t ∧ VRel ρ x v ∧ VRels ρ xs t
end

theorem VRels.length {ρ : List Place} : ∀ {l : List AV} {vs : List Value}, VRels ρ l vs → vs.length = l.length
  | [], _, h => by simp [VRels] at h; simp [h]
  | x :: xs, vs, h => by
    simp only [VRels] at h
    obtain ⟨v, t, rfl, _, ht⟩ := h
    simp [VRels.length ht]

theorem VRels.get {ρ : List Place} : ∀ {l : List AV} {vs : List Value} (_ : VRels ρ l vs) {j : Nat} {x : AV} (_ : l[j]? = some x), ∃ v, vs[j]? = some v ∧ VRel ρ x v
  | [], _, _, _, _, hj => by simp at hj
  | x :: xs, vs, h, 0, y, hj => by
    simp only [VRels] at h
    obtain ⟨v, t, rfl, hv, _⟩ := h
    simp at hj; subst hj
    exact ⟨v, by simp, hv⟩
  | x :: xs, vs, h, j + 1, y, hj => by
    simp only [VRels] at h
    obtain ⟨v, t, rfl, _, ht⟩ := h
    simp at hj
    simpa using VRels.get ht hj

theorem VRels.of_get {ρ : List Place} : ∀ {l : List AV} {vs : List Value}, vs.length = l.length → (∀ (j : Nat) (x : AV), l[j]? = some x → ∃ v, vs[j]? = some v ∧ VRel ρ x v) → VRels ρ l vs
  | [], vs, hl, _ => by simp at hl; simp [VRels, hl]
  | x :: xs, [], hl, _ => by simp at hl
  | x :: xs, v :: t, hl, h => by
    simp only [VRels]
    obtain ⟨v', hv', hr⟩ := h 0 x (by simp)
    simp at hv'; subst hv'
    exact ⟨v, t, rfl, hr, VRels.of_get (by simpa using hl) fun j y hj => by simpa using h (j + 1) y (by simpa using hj)⟩

theorem VRels.append {ρ : List Place} : ∀ {l l' : List AV} {vs vs' : List Value}, VRels ρ l vs → VRels ρ l' vs' → VRels ρ (l ++ l') (vs ++ vs')
  | [], _, _, _, h, h' => by simp [VRels] at h; simp [h, h']
  | x :: xs, _, _, _, h, h' => by
    simp only [VRels] at h
    obtain ⟨v, t, rfl, hv, ht⟩ := h
    simp only [List.cons_append, VRels]
    exact ⟨v, _, rfl, hv, VRels.append ht h'⟩

/-- more places do no harm -/
def Ext (ρ ρ' : List Place) : Prop := ∀ (b : Nat) (p : Place), ρ[b]? = some p → ρ'[b]? = some p
theorem Ext.refl (ρ : List Place) : Ext ρ ρ := fun _ _ h => h
theorem Ext.append (ρ : List Place) (p : Place) : Ext ρ (ρ ++ [p]) := fun b q h => by
  have := (List.getElem?_eq_some_iff.1 h).1
  rw [List.getElem?_append_left this]; exact h
theorem Ext.trans {a b c : List Place} (h : Ext a b) (k : Ext b c) : Ext a c := fun i p hp => k i p (h i p hp)

mutual
theorem VRel.ext {ρ ρ' : List Place} (he : Ext ρ ρ') : ∀ {x : AV} {v : Value}, VRel ρ x v → VRel ρ' x v
  | .junk, _, h => h
  | .bool _, _, h => h
  | .int .., _, h => h
  | .flt .., _, h => h
  | .str _, _, h => h
  | .ptr .., _, h => by simp only [VRel] at *; obtain ⟨p, hp, h⟩ := h; exact ⟨p, he _ _ hp, h⟩
  | .nilp, _, h => h
  | .slc .., _, h => by simp only [VRel] at *; obtain ⟨p, x, hp, h⟩ := h; exact ⟨p, x, he _ _ hp, h⟩
  | .slx .., _, h => by simp only [VRel] at *; obtain ⟨p, x, c, hp, h⟩ := h; exact ⟨p, x, c, he _ _ hp, h⟩
  | .slq .., _, h => by simp only [VRel] at *; obtain ⟨p, x, hp, h⟩ := h; exact ⟨p, x, he _ _ hp, h⟩
  | .nils, _, h => h
  | .fn f fs cs, _, h => by
    simp only [VRel] at *
    obtain ⟨a, b, hv, h1, h2⟩ := h
    exact ⟨a, b, hv, VRels.ext he h1, VRels.ext he h2⟩
  | .nilf, _, h => h
  | .ifc t x, _, h => by simp only [VRel] at *; obtain ⟨y, hv, h1⟩ := h; exact ⟨y, hv, VRel.ext he h1⟩
  | .nili, _, h => h
  | .agg l, _, h => by simp only [VRel] at *; obtain ⟨a, hv, h1⟩ := h; exact ⟨a, hv, VRels.ext he h1⟩
  | .tup l, _, h => by simp only [VRel] at *; obtain ⟨a, hv, h1⟩ := h; exact ⟨a, hv, VRels.ext he h1⟩
  | .lit x, _, h => by simp only [VRel] at *; exact VRel.ext he h
theorem VRels.ext {ρ ρ' : List Place} (he : Ext ρ ρ') : ∀ {l : List AV} {vs : List Value}, VRels ρ l vs → VRels ρ' l vs
  | [], _, h => h
  | x :: xs, _, h => by
    simp only [VRels] at *
    obtain ⟨v, t, hv, h1, h2⟩ := h
    exact ⟨v, t, hv, VRel.ext he h1, VRels.ext he h2⟩
end

-- values without pointers hold at any places
theorem flat_rel {ρ ρ' : List Place} {v : Value} : ∀ {x : AV}, x.flat = true → VRel ρ x v → VRel ρ' x v
  | .bool _, _, h => h
  | .int .., _, h => h
  | .flt .., _, h => h
  | .str _, _, h => h
  | .nilp, _, h => h
  | .nils, _, h => h
  | .nilf, _, h => h
  | .nili, _, h => h
  | .lit x, hf, h => by
    simp only [VRel] at *
    exact flat_rel (by simpa [AV.flat] using hf) h
  | .junk, _, _ => by simp only [VRel]
theorem allFlat_rel {ρ ρ' : List Place} : ∀ {l : List AV} {vs : List Value}, allFlat l = true → VRels ρ l vs → VRels ρ' l vs
  | [], _, _, h => h
  | x :: xs, _, hf, h => by
    simp only [allFlat, Bool.and_eq_true] at hf
    simp only [VRels] at *
    obtain ⟨v, t, hv, h1, h2⟩ := h
    exact ⟨v, t, hv, flat_rel hf.1 h1, allFlat_rel hf.2 h2⟩
theorem pure1_rel {ρ ρ' : List Place} {x : AV} {v : Value} (hf : x.pure1 = true) (h : VRel ρ x v) : VRel ρ' x v := by
  cases x with
  | agg l =>
    simp only [AV.pure1] at hf
    simp only [VRel] at *
    obtain ⟨a, hv, h1⟩ := h
    exact ⟨a, hv, allFlat_rel hf h1⟩
  | _ => exact flat_rel (by simpa [AV.pure1] using hf) h
theorem allPure1_rel {ρ ρ' : List Place} : ∀ {l : List AV} {vs : List Value}, allPure1 l = true → VRels ρ l vs → VRels ρ' l vs
  | [], _, _, h => h
  | x :: xs, _, hf, h => by
    simp only [allPure1, Bool.and_eq_true] at hf
    simp only [VRels] at *
    obtain ⟨v, t, hv, h1, h2⟩ := h
    exact ⟨v, t, hv, pure1_rel hf.1 h1, allPure1_rel hf.2 h2⟩
theorem pure_rel {ρ ρ' : List Place} {x : AV} {v : Value} (hf : x.pure = true) (h : VRel ρ x v) : VRel ρ' x v := by
  cases x with
  | tup l =>
    simp only [AV.pure] at hf
    simp only [VRel] at *
    obtain ⟨a, hv, h1⟩ := h
    exact ⟨a, hv, allPure1_rel hf h1⟩
  | _ => exact pure1_rel (by simpa [AV.pure] using hf) h

/-- one block -/
def BRel (ρ : List Place) (W : World) (p : Place) : Blk → Prop
  | .dead => True
  | .one w l => ∃ cs ty fz, W.heap[p.blk]? = some (.cells cs ty fz) ∧ (w = true → fz = (0, 0)) ∧ p.sz = l.length ∧ p.cap ≠ 0 ∧
      ∀ (j : Nat) (x : AV), l[j]? = some x → ∃ v, cs[p.off + j]? = some v ∧ VRel ρ x v
  | .rows w n sz f => p.sz = sz ∧ n ≤ p.cap ∧ (p.cap ≠ 0 → ∃ cs ty fz, W.heap[p.blk]? = some (.cells cs ty fz) ∧ (w = true → fz = (0, 0)) ∧
      p.off + p.cap * sz ≤ cs.size ∧ (∀ (k : Nat) (v : Value), k < p.cap * sz → cs[p.off + k]? = some v → v.oneCell' = true) ∧
      ∀ i, i < n → ∀ (j : Nat) (x : AV), (f i)[j]? = some x → j < sz ∧ ∃ v, cs[p.off + i * sz + j]? = some v ∧ VRel ρ x v)

def Blk.wr : Blk → Bool
  | .dead => false
  | .one w _ => w
  | .rows w _ _ _ => w
def Blk.live : Blk → Bool
  | .dead => false
  | _ => true

structure HRel (ρ : List Place) (H : List Blk) (W : World) : Prop where
  len : ρ.length = H.length
  blk : ∀ (b : Nat) (x : Blk) (p : Place), H[b]? = some x → ρ[b]? = some p → BRel ρ W p x
  apart : ∀ (b c : Nat) (x y : Blk) (p q : Place), b ≠ c → H[b]? = some x → H[c]? = some y → ρ[b]? = some p → ρ[c]? = some q → x.wr = true → y.live = true → p.cap ≠ 0 → q.cap ≠ 0 → p.blk ≠ q.blk

theorem BRel.lt {ρ : List Place} {W : World} {p : Place} {x : Blk} (h : BRel ρ W p x) (hl : x.live = true) (hc : p.cap ≠ 0) : p.blk < W.heap.size := by
  have key : ∀ (o : Obj), W.heap[p.blk]? = some o → p.blk < W.heap.size := fun o ho => by
    rcases Nat.lt_or_ge p.blk W.heap.size with h | h
    · exact h
    · rw [Array.getElem?_eq_none h] at ho; cases ho
  cases x with
  | dead => simp [Blk.live] at hl
  | one w l => obtain ⟨cs, ty, fz, hb, _⟩ := h; exact key _ hb
  | rows w n sz f => obtain ⟨_, _, h⟩ := h; obtain ⟨cs, ty, fz, hb, _⟩ := h hc; exact key _ hb

theorem BRel.same {ρ : List Place} {W W' : World} {p : Place} {x : Blk} (h : BRel ρ W p x) (hw : x.live = true → p.cap ≠ 0 → W'.heap[p.blk]? = W.heap[p.blk]?) : BRel ρ W' p x := by
  cases x with
  | dead => trivial
  | one w l => obtain ⟨cs, ty, fz, hb, h1, h2, h3, r⟩ := h; exact ⟨cs, ty, fz, by rw [hw rfl h3]; exact hb, h1, h2, h3, r⟩
  | rows w n sz f => obtain ⟨h1, h2, h⟩ := h; exact ⟨h1, h2, fun hc => by obtain ⟨cs, ty, fz, hb, r⟩ := h hc; exact ⟨cs, ty, fz, by rw [hw rfl hc]; exact hb, r⟩⟩

theorem BRel.ext {ρ ρ' : List Place} {W : World} {p : Place} {x : Blk} (he : Ext ρ ρ') (h : BRel ρ W p x) : BRel ρ' W p x := by
  cases x with
  | dead => trivial
  | one w l =>
    obtain ⟨cs, ty, fz, hb, h1, h2, h3, h4⟩ := h
    exact ⟨cs, ty, fz, hb, h1, h2, h3, fun j x hj => let ⟨v, hv, hr⟩ := h4 j x hj; ⟨v, hv, hr.ext he⟩⟩
  | rows w n sz f =>
    obtain ⟨h2, h3, h⟩ := h
    exact ⟨h2, h3, fun hc => by
      obtain ⟨cs, ty, fz, hb, h1, h4, h6, h5⟩ := h hc
      exact ⟨cs, ty, fz, hb, h1, h4, h6, fun i hi j x hj => let ⟨h0, v, hv, hr⟩ := h5 i hi j x hj; ⟨h0, v, hv, hr.ext he⟩⟩⟩

theorem BRel.ro {ρ : List Place} {W : World} {p : Place} {x : Blk} (h : BRel ρ W p x) : BRel ρ W p x.ro := by
  cases x with
  | dead => trivial
  | one w l => obtain ⟨cs, ty, fz, hb, _, r⟩ := h; exact ⟨cs, ty, fz, hb, by simp, r⟩
  | rows w n sz f => obtain ⟨h1, h2, h⟩ := h; exact ⟨h1, h2, fun hc => by obtain ⟨cs, ty, fz, hb, _, r⟩ := h hc; exact ⟨cs, ty, fz, hb, by simp, r⟩⟩

theorem blkOf_get : ∀ (H : List Blk) (b : Nat), blkOf H b = H[b]?
  | [], b => by simp [blkOf]
  | x :: t, 0 => by simp [blkOf]
  | x :: t, b + 1 => by simp [blkOf, blkOf_get t b]
theorem setB_eq : ∀ (H : List Blk) (b : Nat) (y : Blk), setB H b y = H.set b y
  | [], b, y => by simp [setB]
  | x :: t, 0, y => by simp [setB]
  | x :: t, b + 1, y => by simp [setB, setB_eq t b y]
theorem roH_get : ∀ (H : List Blk) (b : Nat), (roH H)[b]? = (H[b]?).map Blk.ro
  | [], b => by simp [roH]
  | x :: t, 0 => by simp [roH]
  | x :: t, b + 1 => by simp [roH, roH_get t b]
theorem roH_len (H : List Blk) : (roH H).length = H.length := by
  induction H with
  | nil => rfl
  | cons x t ih => simp [roH, ih]
theorem ro_wr (x : Blk) : x.ro.wr = false := by cases x <;> rfl
theorem ro_live (x : Blk) : x.ro.live = x.live := by cases x <;> rfl

theorem HRel.ro {ρ : List Place} {H : List Blk} {W : World} (h : HRel ρ H W) : HRel ρ (roH H) W where
  len := by rw [roH_len]; exact h.len
  blk b x p hx hp := by
    rw [roH_get] at hx
    cases hb : H[b]? with
    | none => rw [hb] at hx; cases hx
    | some y => rw [hb] at hx; cases hx; exact (h.blk b y p hb hp).ro
  apart b c x y p q _ hx _ _ _ hw _ := by
    rw [roH_get] at hx
    cases hb : H[b]? with
    | none => rw [hb] at hx; cases hx
    | some z => rw [hb] at hx; cases hx; rw [ro_wr] at hw; cases hw

theorem HRel.lt {ρ : List Place} {H : List Blk} {W : World} (h : HRel ρ H W) {b : Nat} {x : Blk} {p : Place} (hx : H[b]? = some x) (hp : ρ[b]? = some p) (hl : x.live = true) (hc : p.cap ≠ 0) : p.blk < W.heap.size :=
  (h.blk b x p hx hp).lt hl hc

/-- memory that is there stays: so do the blocks -/
theorem HRel.below {ρ : List Place} {H : List Blk} {W W' : World} (h : HRel ρ H W) (hb : Below W.heap.size W W') : HRel ρ H W' where
  len := h.len
  blk b x p hx hp := (h.blk b x p hx hp).same fun hl hc => hb.block _ (h.lt hx hp hl hc)
  apart := h.apart

/-- the frame: what must not turn, and what never turns -/
structure Fr (F : Nat → Prop) (W0 W : World) : Prop where
  os : W.os = W0.os
  tape : W.tape = W0.tape
  output : W.output = W0.output
  size : W0.heap.size ≤ W.heap.size
  keep : ∀ k, F k → W.heap[k]? = W0.heap[k]?

theorem Fr.below {F : Nat → Prop} {W0 W W' : World} (hF : ∀ k, F k → k < W0.heap.size) (h : Fr F W0 W) (hb : Below W.heap.size W W') : Fr F W0 W' :=
  ⟨hb.os.trans h.os, hb.tape.trans h.tape, hb.output.trans h.output, Nat.le_trans h.size hb.size, fun k hk => (hb.block k (Nat.lt_of_lt_of_le (hF k hk) h.size)).trans (h.keep k hk)⟩

/-- the class of worlds that the executor's state stands for -/
structure Cls (F : Nat → Prop) (W0 : World) (ρ : List Place) (H : List Blk) (W : World) : Prop where
  rel : HRel ρ H W
  fr : Fr F W0 W
  low : ∀ k, F k → k < W0.heap.size
  free : ∀ (b : Nat) (x : Blk) (p : Place), H[b]? = some x → ρ[b]? = some p → x.wr = true → p.cap ≠ 0 → ¬ F p.blk

theorem Cls.below {F : Nat → Prop} {W0 : World} {ρ : List Place} {H : List Blk} {W W' : World} (h : Cls F W0 ρ H W) (hb : Below W.heap.size W W') : Cls F W0 ρ H W' :=
  ⟨h.rel.below hb, h.fr.below h.low hb, h.low, h.free⟩

theorem below_drawn (W : World) (n : Nat) : Below W.heap.size W { W with drawn := n } := ⟨rfl, rfl, rfl, Nat.le_refl _, fun _ _ => rfl⟩

theorem Cls.drawn {F : Nat → Prop} {W0 : World} {ρ : List Place} {H : List Blk} {W : World} (h : Cls F W0 ρ H W) (n : Nat) : Cls F W0 ρ H { W with drawn := n } := h.below (below_drawn W n)

/-- the frame's slots -/
structure SRel (ρ : List Place) (slots : List AV) (tmps : Array Value) : Prop where
  len : tmps.size = slots.length
  get : ∀ (i : Nat) (x : AV), slots[i]? = some x → ∃ v, tmps[i]? = some v ∧ VRel ρ x v

theorem SRel.ext {ρ ρ' : List Place} {slots : List AV} {tmps : Array Value} (he : Ext ρ ρ') (h : SRel ρ slots tmps) : SRel ρ' slots tmps :=
  ⟨h.len, fun i x hi => let ⟨v, hv, hr⟩ := h.get i x hi; ⟨v, hv, hr.ext he⟩⟩

theorem gt_get (l : List AV) : ∀ i, gt l i = (l[i]?).getD .junk := by
  induction l with
  | nil => intro i; simp [gt]
  | cons x t ih => intro i; cases i <;> simp [gt, ih]

theorem SRel.gt {ρ : List Place} {slots : List AV} {tmps : Array Value} (h : SRel ρ slots tmps) (i : Nat) : VRel ρ (Sx.gt slots i) (tmps.getD i undef) := by
  rw [gt_get]
  cases hs : slots[i]? with
  | none => simp [VRel]
  | some x =>
    obtain ⟨v, hv, hr⟩ := h.get i x hs
    simp [Array.getD_eq_getD_getElem?, hv, hr]

theorem pt_len (l : List AV) (v : AV) : ∀ i, (pt l i v).length = l.length := by
  induction l with
  | nil => intro i; simp [pt]
  | cons x t ih => intro i; cases i <;> simp [pt, ih]
theorem pt_get (l : List AV) (v : AV) : ∀ i j, (pt l i v)[j]? = if i = j ∧ i < l.length then some v else l[j]? := by
  induction l with
  | nil => intro i j; simp [pt]
  | cons x t ih =>
    intro i j
    cases i with
    | zero => cases j <;> simp [pt]
    | succ i => cases j with
      | zero => simp [pt]
      | succ j => simp [pt, ih]

theorem SRel.pt {ρ : List Place} {slots : List AV} {tmps : Array Value} (h : SRel ρ slots tmps) (i : Nat) {x : AV} {v : Value} (hv : VRel ρ x v) : SRel ρ (Sx.pt slots i x) (tmps.setIfInBounds i v) := by
  refine ⟨by simp [pt_len, h.len], fun j y hj => ?_⟩
  rw [pt_get] at hj
  split at hj
  · rename_i hc
    obtain ⟨rfl, hlt⟩ := hc
    cases hj
    exact ⟨v, by rw [Array.getElem?_setIfInBounds_self_of_lt (by rw [h.len]; exact hlt)], hv⟩
  · rename_i hc
    obtain ⟨u, hu, hr⟩ := h.get j y hj
    refine ⟨u, ?_, hr⟩
    by_cases hij : i = j
    · subst hij
      have : i < slots.length := (List.getElem?_eq_some_iff.1 hj).1
      exact absurd ⟨rfl, this⟩ hc
    · rw [Array.getElem?_setIfInBounds_ne hij]; exact hu

theorem SRel.putDst {ρ : List Place} {slots : List AV} {a : Act} {H : List Blk} (h : SRel ρ slots a.tmps) (d : Option Tmp) {x : AV} {v : Value} (hv : VRel ρ x v) :
    SRel ρ (Sx.putDst ⟨slots, H⟩ d x).slots (a.put d v).tmps := by
  cases d with
  | none => exact h
  | some t => exact h.pt t hv

theorem putDst_heap (st : St) (d : Option Tmp) (x : AV) : (putDst st d x).heap = st.heap := by cases d <;> rfl
theorem put_defers (a : Act) (d : Option Tmp) (v : Value) : (a.put d v).defers = a.defers := by cases d <;> rfl

-- constants
theorem absCell_rel (ρ : List Place) (v : Value) : VRel ρ (absCell v) v := by
  cases v with
  | float k b =>
    simp only [absCell]
    cases hb : Nat.blt b (2 ^ k.format.width) with
    | true => simp only [cond_true, VRel]; exact ⟨b, rfl, rfl, by simpa [Nat.blt_eq] using hb⟩
    | false => simp [VRel]
  | string s => simp [absCell, VRel]
  | pointer a => cases a <;> simp [absCell, VRel]
  | slice a n c =>
    unfold absCell
    split <;> simp_all [VRel]
  | _ => simp [absCell, VRel]

theorem absCells_rel (ρ : List Place) : ∀ l : List Value, VRels ρ (l.map absCell) l
  | [] => by simp [VRels]
  | v :: t => by simp only [List.map_cons, VRels]; exact ⟨v, t, rfl, absCell_rel ρ v, absCells_rel ρ t⟩

theorem absV_rel (ρ : List Place) (v : Value) : VRel ρ (absV v) v := by
  cases v with
  | agg cs => simp only [absV, VRel]; exact ⟨cs, rfl, absCells_rel ρ _⟩
  | _ => simp only [absV]; exact absCell_rel ρ _

theorem delit_rel {ρ : List Place} {x : AV} {v : Value} (h : VRel ρ x v) : VRel ρ (delit x) v := by
  cases x <;> first | exact h | (simp only [VRel, delit] at *; exact h)
theorem delit_iff {ρ : List Place} {x : AV} {v : Value} : VRel ρ (delit x) v ↔ VRel ρ x v := by
  cases x <;> simp only [delit] <;> simp only [VRel]
theorem mkLit_rel {ρ : List Place} {x : AV} {v : Value} (h : VRel ρ x v) : VRel ρ (mkLit x) v := by
  cases x <;> first | exact h | (simp only [VRel, mkLit] at *; exact h)

theorem raw_rel {ρ : List Place} {st : St} {a : Act} (h : SRel ρ st.slots a.tmps) (x : Operand) : VRel ρ (st.raw x) (a.eval x) := by
  cases x with
  | tmp t => exact h.gt t
  | const v => exact mkLit_rel (absV_rel ρ v)
  | global g => simp [St.raw, VRel]
  | func f => simp [St.raw, Act.eval, VRel, VRels]
theorem rawL_rel {ρ : List Place} {st : St} {a : Act} (h : SRel ρ st.slots a.tmps) : ∀ l : List Operand, VRels ρ (rawL st l) (l.map a.eval)
  | [] => by simp [rawL, VRels]
  | x :: t => by simp only [rawL, List.map_cons, VRels]; exact ⟨_, _, rfl, raw_rel h x, rawL_rel h t⟩

theorem ev_rel {ρ : List Place} {st : St} {a : Act} (h : SRel ρ st.slots a.tmps) (x : Operand) : VRel ρ (st.ev x) (a.eval x) := by
  cases x with
  | tmp t => exact delit_rel (h.gt t)
  | const v => exact absV_rel ρ v
  | global g => simp [St.ev, VRel]
  | func f => simp [St.ev, Act.eval, VRel, VRels]

theorem evL_rel {ρ : List Place} {st : St} {a : Act} (h : SRel ρ st.slots a.tmps) : ∀ l : List Operand, VRels ρ (evL st l) (l.map a.eval)
  | [] => by simp [evL, VRels]
  | x :: t => by simp only [evL, List.map_cons, VRels]; exact ⟨_, _, rfl, ev_rel h x, evL_rel h t⟩

-- the cells of a value
theorem cells_rel {ρ : List Place} {x : AV} {v : Value} {l : List AV} (h : VRel ρ x v) (hc : x.cells = some l) : VRels ρ l v.cells.toList := by
  cases x <;> simp only [AV.cells, Option.some.injEq, reduceCtorEq] at hc
  case agg xs =>
    cases hs : allScal xs <;> rw [hs] at hc <;> simp at hc
    subst hc
    simp only [VRel] at h
    obtain ⟨a, rfl, h⟩ := h
    simpa [Value.cells] using h
  all_goals subst hc
  case bool => simp only [VRel] at h; subst h; simp [Value.cells, VRels, VRel]
  case int => simp only [VRel] at h; subst h; simp [Value.cells, VRels, VRel]
  case flt => simp only [VRel] at h; obtain ⟨b, rfl, h⟩ := h; simp only [Value.cells, VRels]; exact ⟨_, [], rfl, by simp only [VRel]; exact ⟨b, rfl, h⟩, rfl⟩
  case str => simp only [VRel] at h; subst h; simp [Value.cells, VRels, VRel]
  case ptr => simp only [VRel] at h; obtain ⟨p, hp, rfl⟩ := h; simp only [Value.cells, VRels]; exact ⟨_, [], rfl, by simp only [VRel]; exact ⟨p, hp, rfl⟩, rfl⟩
  case nilp => simp only [VRel] at h; subst h; simp [Value.cells, VRels, VRel]
  case slc => simp only [VRel] at h; obtain ⟨p, x, hp, rfl, h⟩ := h; simp only [Value.cells, VRels]; exact ⟨_, [], rfl, by simp only [VRel]; exact ⟨p, x, hp, rfl, h⟩, rfl⟩
  case slx => simp only [VRel] at h; obtain ⟨p, x, c, hp, rfl, h⟩ := h; simp only [Value.cells, VRels]; exact ⟨_, [], rfl, by simp only [VRel]; exact ⟨p, x, c, hp, rfl, h⟩, rfl⟩
  case nils => simp only [VRel] at h; subst h; simp [Value.cells, VRels, VRel]
  case fn => simp only [VRel] at h; obtain ⟨p, q, rfl, h⟩ := h; simp only [Value.cells, VRels]; exact ⟨_, [], rfl, by simp only [VRel]; exact ⟨p, q, rfl, h⟩, rfl⟩
  case nilf => simp only [VRel] at h; subst h; simp [Value.cells, VRels, VRel]
  case ifc => simp only [VRel] at h; obtain ⟨p, rfl, h⟩ := h; simp only [Value.cells, VRels]; exact ⟨_, [], rfl, by simp only [VRel]; exact ⟨p, rfl, h⟩, rfl⟩
  case nili => simp only [VRel] at h; subst h; simp [Value.cells, VRels, VRel]

theorem allScal_get : ∀ {l : List AV}, allScal l = true → ∀ (j : Nat) (x : AV), l[j]? = some x → x.scal = true
  | [], _, j, x, h => by simp at h
  | y :: t, hs, 0, x, h => by simp only [allScal, Bool.and_eq_true] at hs; simp at h; exact h ▸ hs.1
  | y :: t, hs, j + 1, x, h => by simp only [allScal, Bool.and_eq_true] at hs; exact allScal_get hs.2 j x (by simpa using h)
theorem cells_scal {x : AV} {l : List AV} (hc : x.cells = some l) : allScal l = true := by
  cases x <;> simp only [AV.cells, Option.some.injEq, reduceCtorEq] at hc
  case agg xs =>
    cases hs : allScal xs <;> rw [hs] at hc <;> simp at hc
    subst hc; exact hs
  all_goals subst hc; simp [allScal, AV.scal]

/-- a value that is one cell -/
def okCell : Value → Prop
  | .agg _ | .tuple _ => False
  | _ => True
theorem scal_ok {ρ : List Place} {v : Value} : ∀ {x : AV} (_ : VRel ρ x v) (_ : x.scal = true), okCell v
  | .lit x, h, hs => by
    simp only [VRel] at h
    simp only [AV.scal] at hs
    exact scal_ok h hs
  | .junk, h, hs => by simp [AV.scal] at hs
  | .agg _, h, hs => by simp [AV.scal] at hs
  | .tup _, h, hs => by simp [AV.scal] at hs
  | .flt .., h, _ => by simp only [VRel] at h; obtain ⟨b, rfl, _⟩ := h; trivial
  | .ptr .., h, _ => by simp only [VRel] at h; obtain ⟨p, _, rfl⟩ := h; trivial
  | .slc .., h, _ => by simp only [VRel] at h; obtain ⟨p, x, _, rfl, _⟩ := h; trivial
  | .slx .., h, _ => by simp only [VRel] at h; obtain ⟨p, x, c, _, rfl, _⟩ := h; trivial
  | .slq .., h, hs => by simp [AV.scal] at hs
  | .fn .., h, _ => by simp only [VRel] at h; obtain ⟨a, b, rfl, _⟩ := h; trivial
  | .ifc .., h, _ => by simp only [VRel] at h; obtain ⟨a, rfl, _⟩ := h; trivial
  | .bool _, h, _ => by simp only [VRel] at h; subst h; trivial
  | .int .., h, _ => by simp only [VRel] at h; subst h; trivial
  | .str _, h, _ => by simp only [VRel] at h; subst h; trivial
  | .nilp, h, _ => by simp only [VRel] at h; subst h; trivial
  | .nils, h, _ => by simp only [VRel] at h; subst h; trivial
  | .nilf, h, _ => by simp only [VRel] at h; subst h; trivial
  | .nili, h, _ => by simp only [VRel] at h; subst h; trivial

-- lists
theorem cut_spec : ∀ {l : List AV} {n : Nat} {r : List AV}, cut l n = some r → r.length = n ∧ ∀ (j : Nat) (x : AV), r[j]? = some x → l[j]? = some x
  | _, 0, r, h => by simp [cut] at h; subst h; simp
  | [], n + 1, r, h => by simp [cut] at h
  | y :: t, n + 1, r, h => by
    simp only [cut, Option.map_eq_some_iff] at h
    obtain ⟨r', hr', rfl⟩ := h
    obtain ⟨h1, h2⟩ := cut_spec hr'
    refine ⟨by simp [h1], fun j x hj => ?_⟩
    cases j with
    | zero => simpa using hj
    | succ j => simpa using h2 j x (by simpa using hj)
theorem cutAt_spec : ∀ {l : List AV} {o n : Nat} {r : List AV}, cutAt l o n = some r → r.length = n ∧ ∀ (j : Nat) (x : AV), r[j]? = some x → l[o + j]? = some x
  | l, 0, n, r, h => by
    have h' : cut l n = some r := by cases l <;> simpa [cutAt] using h
    simpa using cut_spec h'
  | [], o + 1, n, r, h => by simp [cutAt] at h
  | y :: t, o + 1, n, r, h => by
    obtain ⟨h1, h2⟩ := cutAt_spec (l := t) (o := o) (by simpa [cutAt] using h)
    refine ⟨h1, fun j x hj => ?_⟩
    rw [show o + 1 + j = (o + j) + 1 from by omega]
    simpa using h2 j x hj
theorem at1_spec : ∀ (l : List AV) (i : Nat), at1 l i = l[i]?
  | [], i => by simp [at1]
  | x :: t, 0 => by simp [at1]
  | x :: t, i + 1 => by simp [at1, at1_spec t i]
theorem over_spec : ∀ {l cs r : List AV}, over l cs = some r → r.length = l.length ∧ cs.length ≤ l.length ∧ ∀ (j : Nat), r[j]? = if j < cs.length then cs[j]? else l[j]?
  | l, [], r, h => by
    have h' : l = r := by cases l <;> simpa [over] using h
    subst h'; simp
  | [], c :: cs, r, h => by simp [over] at h
  | y :: t, c :: cs, r, h => by
    simp only [over, Option.map_eq_some_iff] at h
    obtain ⟨r', hr', rfl⟩ := h
    obtain ⟨h1, h2, h3⟩ := over_spec hr'
    refine ⟨by simp [h1], by simpa using h2, fun j => ?_⟩
    cases j with
    | zero => simp
    | succ j => simp [h3]
theorem overAt_spec : ∀ {l : List AV} {o : Nat} {cs r : List AV}, overAt l o cs = some r → r.length = l.length ∧ (o + cs.length ≤ l.length) ∧ ∀ (j : Nat), r[j]? = if o ≤ j ∧ j < o + cs.length then cs[j - o]? else l[j]?
  | l, 0, cs, r, h => by
    have h' : over l cs = some r := by cases l <;> simpa [overAt] using h
    simpa using over_spec h'
  | [], o + 1, cs, r, h => by simp [overAt] at h
  | y :: t, o + 1, cs, r, h => by
    simp only [overAt, Option.map_eq_some_iff] at h
    obtain ⟨r', hr', rfl⟩ := h
    obtain ⟨h1, h2, h3⟩ := overAt_spec hr'
    refine ⟨by simp [h1], by simp; omega, fun j => ?_⟩
    cases j with
    | zero => simp
    | succ j =>
      simp only [List.getElem?_cons_succ, h3]
      by_cases hc : o ≤ j ∧ j < o + cs.length
      · rw [if_pos hc, if_pos (by omega), show j + 1 - (o + 1) = j - o from by omega]
      · rw [if_neg hc, if_neg (by omega)]

end Go.Sx
