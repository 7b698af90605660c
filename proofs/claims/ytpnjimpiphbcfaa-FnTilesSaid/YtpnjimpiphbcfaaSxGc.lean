/- Blocks numbered anew; a call within a larger memory; blocks told by less. -/
import Derived.Test.YtpnjimpiphbcfaaSxFn
set_option linter.unusedSimpArgs false
set_option linter.unusedVariables false
namespace Go.Sx
open Go.RowKit

/-- numbers that mean the same places -/
def Ren (g : Nat → Option Nat) (ρ ρ' : List Place) : Prop := ∀ (b k : Nat) (p : Place), g b = some k → ρ[b]? = some p → ρ'[k]? = some p

theorem renS_rel {g : Nat → Option Nat} {ρ ρ' : List Place} (h : Ren g ρ ρ') {x : AV} {v : Value} (hx : VRel ρ x v) : VRel ρ' (renS g x) v := by
  cases x with
  | slc b r n =>
    simp only [renS]
    cases hg : g b with
    | none => simp [VRel]
    | some k => simp only [VRel] at *; obtain ⟨p, a, hp, r⟩ := hx; exact ⟨p, a, h b k p hg hp, r⟩
  | slx b r o e n =>
    simp only [renS]
    cases hg : g b with
    | none => simp [VRel]
    | some k => simp only [VRel] at *; obtain ⟨p, a, c, hp, r⟩ := hx; exact ⟨p, a, c, h b k p hg hp, r⟩
  | ptr b r o =>
    simp only [renS]
    cases hg : g b with
    | none => simp [VRel]
    | some k => simp only [VRel] at *; obtain ⟨p, hp, r⟩ := hx; exact ⟨p, h b k p hg hp, r⟩
  | bool | int | flt | str | nilp | nils | nilf | nili => exact flat_rel rfl hx
  | _ => simp [renS, VRel]

theorem renSL_rel {g : Nat → Option Nat} {ρ ρ' : List Place} (h : Ren g ρ ρ') : ∀ {l : List AV} {vs : List Value}, VRels ρ l vs → VRels ρ' (renSL g l) vs
  | [], _, hv => hv
  | x :: t, _, hv => by
    simp only [VRels, renSL] at *
    obtain ⟨v, u, rfl, h1, h2⟩ := hv
    exact ⟨v, u, rfl, renS_rel h h1, renSL_rel h h2⟩

theorem renTL_rel {g : Nat → Option Nat} {ρ ρ' : List Place} (h : Ren g ρ ρ') : ∀ {l : List AV} {vs : List Value}, VRels ρ l vs → VRels ρ' (renV.renTL g l) vs
  | [], _, hv => hv
  | x :: t, _, hv => by
    simp only [VRels] at hv
    obtain ⟨v, u, rfl, h1, h2⟩ := hv
    have ih := renTL_rel h h2
    cases x with
    | agg l =>
      simp only [renV.renTL, VRels, VRel] at *
      obtain ⟨a, rfl, h1⟩ := h1
      exact ⟨_, u, rfl, ⟨a, rfl, renSL_rel h h1⟩, ih⟩
    | lit x =>
      simp only [renV.renTL, VRels, VRel] at *
      exact ⟨_, u, rfl, renS_rel h h1, ih⟩
    | _ =>
      simp only [renV.renTL, VRels]
      exact ⟨v, u, rfl, renS_rel h h1, ih⟩

theorem renV_rel {g : Nat → Option Nat} {ρ ρ' : List Place} (h : Ren g ρ ρ') {x : AV} {v : Value} (hx : VRel ρ x v) : VRel ρ' (renV g x) v := by
  cases x with
  | agg l => simp only [renV, VRel] at *; obtain ⟨a, rfl, h1⟩ := hx; exact ⟨a, rfl, renSL_rel h h1⟩
  | tup l => simp only [renV, VRel] at *; obtain ⟨a, rfl, h1⟩ := hx; exact ⟨a, rfl, renTL_rel h h1⟩
  | fn f a b => simp only [renV, VRel] at *; obtain ⟨p, q, rfl, h1, h2⟩ := hx; exact ⟨p, q, rfl, renSL_rel h h1, renSL_rel h h2⟩
  | lit x => simp only [renV, VRel] at *; exact renS_rel h hx
  | ifc t x => simp only [renV, VRel] at *; obtain ⟨y, rfl, h1⟩ := hx; exact ⟨y, rfl, renS_rel h h1⟩
  | _ => exact renS_rel h hx

theorem renVL_rel {g : Nat → Option Nat} {ρ ρ' : List Place} (h : Ren g ρ ρ') : ∀ {l : List AV} {vs : List Value}, VRels ρ l vs → VRels ρ' (renVL g l) vs
  | [], _, hv => hv
  | x :: t, _, hv => by
    simp only [VRels, renVL] at *
    obtain ⟨v, u, rfl, h1, h2⟩ := hv
    exact ⟨v, u, rfl, renV_rel h h1, renVL_rel h h2⟩

theorem renVL_get (g : Nat → Option Nat) : ∀ (l : List AV) (j : Nat), (renVL g l)[j]? = (l[j]?).map (renV g)
  | [], j => by simp [renVL]
  | x :: t, 0 => by simp [renVL]
  | x :: t, j + 1 => by simp [renVL, renVL_get g t j]
theorem renVL_len (g : Nat → Option Nat) (l : List AV) : (renVL g l).length = l.length := by
  induction l with
  | nil => rfl
  | cons x t ih => simp [renVL, ih]

theorem renB_rel {g : Nat → Option Nat} {ρ ρ' : List Place} (h : Ren g ρ ρ') {W : World} {p : Place} {x : Blk} (hx : BRel ρ W p x) : BRel ρ' W p (renB g x) := by
  cases x with
  | dead => trivial
  | one w l =>
    obtain ⟨cs, ty, fz, h1, h2, h3, h4, h5⟩ := hx
    refine ⟨cs, ty, fz, h1, h2, by rw [renVL_len]; exact h3, h4, fun j y hj => ?_⟩
    rw [renVL_get, Option.map_eq_some_iff] at hj
    obtain ⟨z, hz, rfl⟩ := hj
    obtain ⟨v, hv, hr⟩ := h5 j z hz
    exact ⟨v, hv, renV_rel h hr⟩
  | rows w n sz f =>
    obtain ⟨h1, h2, h3⟩ := hx
    refine ⟨h1, h2, fun hc => ?_⟩
    obtain ⟨cs, ty, fz, g1, g2, g3, g4, g5⟩ := h3 hc
    refine ⟨cs, ty, fz, g1, g2, g3, g4, fun i hi j y hj => ?_⟩
    rw [renVL_get, Option.map_eq_some_iff] at hj
    obtain ⟨z, hz, rfl⟩ := hj
    obtain ⟨k1, v, hv, hr⟩ := g5 i hi j z hz
    exact ⟨k1, v, hv, renV_rel h hr⟩
theorem renB_wr (g : Nat → Option Nat) (x : Blk) : (renB g x).wr = x.wr := by cases x <;> rfl
theorem renB_live (g : Nat → Option Nat) (x : Blk) : (renB g x).live = x.live := by cases x <;> rfl
theorem renB_fresh (g : Nat → Option Nat) (x : Blk) : (renB g x).fresh = x.fresh := by cases x <;> rfl

theorem gcH_get (g : Nat → Option Nat) (H : List Blk) : ∀ (m : List Nat) (k : Nat), (gcH g H m)[k]? = (m[k]?).map fun b => match H[b]? with | some x => renB g x | none => .dead
  | [], k => by simp [gcH]
  | b :: t, 0 => by
    simp only [gcH, blkOf_get, List.getElem?_cons_zero, Option.map_some]
    cases H[b]? <;> rfl
  | b :: t, k + 1 => by simp [gcH, gcH_get g H t k]
theorem gcH_len (g : Nat → Option Nat) (H : List Blk) (m : List Nat) : (gcH g H m).length = m.length := by
  induction m with
  | nil => rfl
  | cons x t ih => simp [gcH, ih]

def selP (ρ : List Place) (m : List Nat) : List Place := m.map fun b => ρ.getD b ⟨0, 0, 0, 0⟩
theorem selP_get (ρ : List Place) (m : List Nat) (k : Nat) : (selP ρ m)[k]? = (m[k]?).map fun b => ρ.getD b ⟨0, 0, 0, 0⟩ := by simp [selP]

theorem idxOf_spec : ∀ {m : List Nat} {b k0 k : Nat}, idxOf m b k0 = some k → ∃ j, k = k0 + j ∧ m[j]? = some b
  | [], b, k0, k, h => by simp [idxOf] at h
  | x :: t, b, k0, k, h => by
    simp only [idxOf] at h
    cases hb : Nat.beq x b with
    | true =>
      rw [hb] at h
      simp only [cond_true, Option.some.injEq] at h
      subst h
      have := Nat.eq_of_beq_eq_true hb; subst this
      exact ⟨0, rfl, by simp⟩
    | false =>
      rw [hb] at h
      obtain ⟨j, rfl, hj⟩ := idxOf_spec h
      exact ⟨j + 1, by omega, by simpa using hj⟩
theorem sel_ren (ρ : List Place) (m : List Nat) : Ren (idxP m) ρ (selP ρ m) := fun b k p hg hp => by
  obtain ⟨j, rfl, hj⟩ := idxOf_spec hg
  rw [selP_get, Nat.zero_add, hj]
  simp [List.getD, hp]

theorem Cls.gc {F : Nat → Prop} {W0 W : World} {ρ : List Place} {H : List Blk} (h : Cls F W0 ρ H W) (m : List Nat) (hnd : ∀ (k l b : Nat) (x : Blk), m[k]? = some b → m[l]? = some b → H[b]? = some x → x.wr = true → k = l) :
    Cls F W0 (selP ρ m) (gcH (idxP m) H m) W := by
  have get : ∀ (k : Nat) (y : Blk) (q : Place), (gcH (idxP m) H m)[k]? = some y → (selP ρ m)[k]? = some q → y = .dead ∨ ∃ b x, m[k]? = some b ∧ H[b]? = some x ∧ y = renB (idxP m) x ∧ ρ[b]? = some q := fun k y q hy hq => by
    rw [gcH_get, Option.map_eq_some_iff] at hy
    rw [selP_get, Option.map_eq_some_iff] at hq
    obtain ⟨b, hb, hy⟩ := hy
    obtain ⟨b', hb', hq⟩ := hq
    rw [hb] at hb'; cases hb'
    cases hx : H[b]? with
    | none => rw [hx] at hy; exact .inl hy.symm
    | some x =>
      rw [hx] at hy
      have hlt : b < ρ.length := by rw [h.rel.len]; exact (List.getElem?_eq_some_iff.1 hx).1
      have : ρ[b]? = some q := by
        rw [List.getElem?_eq_getElem hlt]
        simp [List.getD, List.getElem?_eq_getElem hlt] at hq
        rw [hq]
      exact .inr ⟨b, x, hb, hx, hy.symm, this⟩
  refine ⟨⟨by simp [selP, gcH_len], fun k y q hy hq => ?_, fun k l y z q r hne hy hz hq hr hw hl hcq hcr => ?_⟩, h.fr, h.low, fun k y q hy hq hw hcq => ?_⟩
  · rcases get k y q hy hq with rfl | ⟨b, x, hb, hx, rfl, hp⟩
    · trivial
    · exact renB_rel (sel_ren ρ m) (h.rel.blk b x q hx hp)
  · rcases get k y q hy hq with rfl | ⟨b, x, hb, hx, rfl, hp⟩
    · cases hw
    · rcases get l z r hz hr with rfl | ⟨c, u, hc, hu, rfl, hs⟩
      · cases hl
      · rw [renB_wr] at hw
        rw [renB_live] at hl
        refine h.rel.apart b c x u q r ?_ hx hu hp hs hw hl hcq hcr
        rintro rfl
        exact hne (hnd k l b x hb hc hx hw)
  · rcases get k y q hy hq with rfl | ⟨b, x, hb, hx, rfl, hp⟩
    · cases hw
    · rw [renB_wr] at hw
      exact h.free b x q hx hp hw hcq

-- a loop's back way: blocks numbered anew
def preN : List Nat → Nat → Nat → Bool
  | _, _, 0 => true
  | [], _, _ + 1 => false
  | x :: t, k, n + 1 => Nat.beq x k && preN t (k + 1) n
def nodN : List Nat → Bool
  | [] => true
  | x :: t => !memN t x && nodN t
theorem preN_spec : ∀ {m : List Nat} {k n : Nat}, preN m k n = true → ∀ b, b < n → m[b]? = some (k + b)
  | _, _, 0, _, b, hb => by omega
  | [], _, n + 1, h, b, hb => by simp [preN] at h
  | x :: t, k, n + 1, h, b, hb => by
    simp only [preN, Bool.and_eq_true] at h
    have := Nat.eq_of_beq_eq_true h.1; subst this
    cases b with
    | zero => simp
    | succ b =>
      have := preN_spec h.2 b (by omega)
      simp only [List.getElem?_cons_succ, this]
      congr 1; omega
theorem nodN_spec : ∀ {m : List Nat}, nodN m = true → m.Nodup
  | [], _ => List.nodup_nil
  | x :: t, h => by
    simp only [nodN, Bool.and_eq_true, Bool.not_eq_true'] at h
    refine List.nodup_cons.2 ⟨fun hm => ?_, nodN_spec h.2⟩
    rw [memN_iff.2 hm] at h
    cases h.1
def pmB (B : Nat) (m : List Nat) : Bool := preN m 0 B && nodN m

def delitL : List AV → List AV
  | [] => []
  | x :: t => delit x :: delitL t
/-- a value or a tuple of values, none of them told as known -/
def delitD : AV → AV
  | .tup l => .tup (delitL l)
  | x => delit x
theorem delitL_iff {ρ : List Place} : ∀ {l : List AV} {vs : List Value}, VRels ρ (delitL l) vs ↔ VRels ρ l vs
  | [], vs => Iff.rfl
  | x :: t, vs => by
    simp only [delitL, VRels]
    constructor
    · rintro ⟨v, u, rfl, h1, h2⟩
      exact ⟨v, u, rfl, delit_iff.1 h1, delitL_iff.1 h2⟩
    · rintro ⟨v, u, rfl, h1, h2⟩
      exact ⟨v, u, rfl, delit_rel h1, delitL_iff.2 h2⟩
theorem delitD_iff {ρ : List Place} {x : AV} {v : Value} : VRel ρ (delitD x) v ↔ VRel ρ x v := by
  cases x <;> simp only [delitD] <;> try exact delit_iff
  simp only [VRel, delitL_iff]

section
variable {P : Program}

theorem Rl.gc {B : Nat} {F : Nat → Prop} {W0 : World} {ρ : List Place} {st : St} {a : Act} {W : World} (h : Rl B F W0 ρ st a W) {m : List Nat} (hm : pmB B m = true) : ExtB B ρ (selP ρ m) ∧ Rl B F W0 (selP ρ m) (gcSt m st) a W := by
  simp only [pmB, Bool.and_eq_true] at hm
  have hpre := preN_spec hm.1
  have hnd := nodN_spec hm.2
  refine ⟨fun b p hb hp => ?_, ⟨⟨by simp [gcSt, renVL_len, h.s.len], fun i x hi => ?_⟩, h.d, h.c.gc m fun k l b x hk hl _ _ => ?_, ?_⟩⟩
  · rw [selP_get, hpre b hb]
    simp [List.getD, hp]
  · simp only [gcSt] at hi
    rw [renVL_get, Option.map_eq_some_iff] at hi
    obtain ⟨y, hy, rfl⟩ := hi
    obtain ⟨v, hv, hr⟩ := h.s.get i y hy
    exact ⟨v, hv, renV_rel (sel_ren ρ m) hr⟩
  · have h1 := (List.getElem?_eq_some_iff.1 hk).1
    exact (List.getElem?_inj h1 hnd).1 (by rw [hk, hl])
  · simp only [gcSt, gcH_len]
    rcases Nat.eq_zero_or_pos B with h0 | h0
    · omega
    · have := (List.getElem?_eq_some_iff.1 (hpre (B - 1) (by omega))).1
      omega

-- blocks told by less
def BLe (x y : Blk) : Prop := (∀ ρ W p, BRel ρ W p x → BRel ρ W p y) ∧ (y.wr = true → x.wr = true) ∧ (y.live = true → x.live = true)
theorem BLe.dead (x : Blk) : BLe x .dead := ⟨fun _ _ _ _ => trivial, fun h => (by cases h), fun h => (by cases h)⟩
theorem BLe.refl (x : Blk) : BLe x x := ⟨fun _ _ _ h => h, id, id⟩
theorem BLe.rows {w : Bool} {n sz : Nat} {f f' : Nat → List AV} (h : ∀ i, i < n → f' i = f i) : BLe (.rows w n sz f) (.rows w n sz f') := by
  refine ⟨fun ρ W p hb => ?_, id, id⟩
  obtain ⟨h1, h2, h3⟩ := hb
  refine ⟨h1, h2, fun hc => ?_⟩
  obtain ⟨cs, ty, fz, g1, g2, g3, g4, g5⟩ := h3 hc
  exact ⟨cs, ty, fz, g1, g2, g3, g4, fun i hi j x hj => g5 i hi j x (by rw [← h i hi]; exact hj)⟩
theorem BLe.fewer {w : Bool} {n n' sz : Nat} {f : Nat → List AV} (h : n' ≤ n) : BLe (.rows w n sz f) (.rows w n' sz f) := by
  refine ⟨fun ρ W p hb => ?_, id, id⟩
  obtain ⟨h1, h2, h3⟩ := hb
  refine ⟨h1, Nat.le_trans h h2, fun hc => ?_⟩
  obtain ⟨cs, ty, fz, g1, g2, g3, g4, g5⟩ := h3 hc
  exact ⟨cs, ty, fz, g1, g2, g3, g4, fun i hi j x hj => g5 i (by omega) j x hj⟩
def HLe : List Blk → List Blk → Prop
  | [], [] => True
  | x :: s, y :: t => BLe x y ∧ HLe s t
  | _, _ => False
theorem HLe.refl : ∀ (H : List Blk), HLe H H
  | [] => trivial
  | x :: t => ⟨BLe.refl x, HLe.refl t⟩
theorem HLe.len : ∀ {H H' : List Blk}, HLe H H' → H.length = H'.length
  | [], [], _ => rfl
  | x :: s, y :: t, h => by simp [HLe.len h.2]
  | [], _ :: _, h => h.elim
  | _ :: _, [], h => h.elim
theorem HLe.get : ∀ {H H' : List Blk}, HLe H H' → ∀ (b : Nat) (y : Blk), H'[b]? = some y → ∃ x, H[b]? = some x ∧ BLe x y
  | [], [], _, b, y, hy => by simp at hy
  | x :: s, z :: t, h, 0, y, hy => by simp at hy; subst hy; exact ⟨x, by simp, h.1⟩
  | x :: s, z :: t, h, b + 1, y, hy => by
    obtain ⟨w, hw, hl⟩ := HLe.get h.2 b y (by simpa using hy)
    exact ⟨w, by simpa using hw, hl⟩
  | [], _ :: _, h, _, _, _ => h.elim
  | _ :: _, [], h, _, _, _ => h.elim
theorem Cls.weak {F : Nat → Prop} {W0 W : World} {ρ : List Place} {H H' : List Blk} (h : Cls F W0 ρ H W) (hl : HLe H H') : Cls F W0 ρ H' W := by
  refine ⟨⟨by rw [h.rel.len, hl.len], fun b y p hy hp => ?_, fun b c y z p q hne hy hz hp hq hw hlv => ?_⟩, h.fr, h.low, fun b y p hy hp hw => ?_⟩
  · obtain ⟨x, hx, hb⟩ := hl.get b y hy
    exact hb.1 _ _ _ (h.rel.blk b x p hx hp)
  · obtain ⟨x, hx, hb⟩ := hl.get b y hy
    obtain ⟨u, hu, hc⟩ := hl.get c z hz
    exact h.rel.apart b c x u p q hne hx hu hp hq (hb.2.1 hw) (hc.2.2 hlv)
  · obtain ⟨x, hx, hb⟩ := hl.get b y hy
    exact h.free b x p hx hp (hb.2.1 hw)

/-- what a call comes to, told by less -/
def LLe (x y : AV × Option (List Blk)) : Prop := delitD x.1 = delitD y.1 ∧ match x.2, y.2 with
  | none, none => True
  | some a, some b => HLe a b
  | _, _ => False
theorem LLe.refl (x : AV × Option (List Blk)) : LLe x x := ⟨rfl, by cases x.2 with | none => trivial | some a => exact HLe.refl a⟩

theorem lenB_eq : ∀ (H : List Blk), lenB H = H.length
  | [] => rfl
  | x :: t => by simp [lenB, lenB_eq t]
theorem lenN_eq : ∀ (H : List Nat), lenN H = H.length
  | [] => rfl
  | x :: t => by simp [lenN, lenN_eq t]
theorem nthN_eq : ∀ (m : List Nat) (j : Nat), nthN m j = m[j]?
  | [], j => by simp [nthN]
  | x :: t, 0 => by simp [nthN]
  | x :: t, j + 1 => by simp [nthN, nthN_eq t j]
theorem dropN_eq : ∀ (m : List Nat) (H : List Blk), dropN m H = H.drop m.length
  | [], H => by simp [dropN]
  | x :: t, [] => by simp [dropN]
  | x :: t, y :: H => by simp [dropN, dropN_eq t H]
theorem renBL_get (g : Nat → Option Nat) : ∀ (H : List Blk) (j : Nat), (renBL g H)[j]? = (H[j]?).map (renB g)
  | [], j => by simp [renBL]
  | x :: t, 0 => by simp [renBL]
  | x :: t, j + 1 => by simp [renBL, renBL_get g t j]
theorem renBL_len (g : Nat → Option Nat) (H : List Blk) : (renBL g H).length = H.length := by
  induction H with
  | nil => rfl
  | cons x t ih => simp [renBL, ih]
theorem ltN_spec : ∀ {m : List Nat} {n : Nat}, ltN m n = true → ∀ b ∈ m, b < n
  | [], n, _, b, hb => by cases hb
  | x :: t, n, h, b, hb => by
    simp only [ltN, Bool.and_eq_true, Nat.blt_eq] at h
    rcases List.mem_cons.1 hb with rfl | hb
    · exact h.1
    · exact ltN_spec h.2 b hb
theorem mapTr_get {X Y : Type} (g : X → Y) : ∀ (t : Tr X), (mapTr g t).get = g t.get
  | .leaf x => rfl
  | .node b l r => by cases b <;> simp [mapTr, Tr.get, mapTr_get g l, mapTr_get g r]
theorem freshTr_get (m : List Nat) : ∀ (t : Tr (AV × Option (List Blk))), freshTr m t = true → ∀ H', t.get.2 = some H' → allFresh (dropN m H') = true
  | .leaf (v, none), _, H', h => by cases h
  | .leaf (v, some H1), hf, H', h => by
    simp only [Tr.get, Option.some.injEq] at h
    subst h
    exact hf
  | .node b l r, hf, H', h => by
    simp only [freshTr, Bool.and_eq_true] at hf
    cases b with
    | true => exact freshTr_get m l hf.1 H' h
    | false => exact freshTr_get m r hf.2 H' h

/-- old memory, and what a call within a part of it has made -/
theorem Cls.growR {F : Nat → Prop} {W0 W W' : World} {ρ ρ1 : List Place} {H H1 : List Blk} {m : List Nat} (h : Cls F W0 ρ H W) (h' : Cls (· < W.heap.size) W ρ1 H1 W') (he : Ext (selP ρ m) ρ1) (hlt : ∀ b ∈ m, b < H.length)
    (hf : allFresh (H1.drop m.length) = true) :
    Ren (fwd m H.length) ρ1 (ρ ++ ρ1.drop m.length) ∧ Cls F W0 (ρ ++ ρ1.drop m.length) (H ++ renBL (fwd m H.length) (H1.drop m.length)) W' := by
  have hE : Ext ρ (ρ ++ ρ1.drop m.length) := fun b p hp => by rw [List.getElem?_append_left (List.getElem?_eq_some_iff.1 hp).1]; exact hp
  have hbel := h'.toBelow
  have hl1 : ρ1.length = H1.length := h'.rel.len
  have hlm : m.length ≤ ρ1.length := by have := he.len; simpa [selP] using this
  have hlr := h.rel.len
  have hren : Ren (fwd m H.length) ρ1 (ρ ++ ρ1.drop m.length) := fun j k p hg hp => by
    unfold fwd at hg
    rw [nthN_eq] at hg
    cases hm : m[j]? with
    | some b =>
      rw [hm] at hg
      simp only [Option.some.injEq] at hg
      subst hg
      have hb := hlt b (List.mem_of_getElem? hm)
      have h1 : (selP ρ m)[j]? = some ρ[b] := by rw [selP_get, hm]; simp [List.getD, List.getElem?_eq_getElem (show b < ρ.length by omega)]
      have h2 := he j _ h1
      rw [hp] at h2
      cases h2
      rw [List.getElem?_append_left (by omega), List.getElem?_eq_getElem]
    | none =>
      rw [hm] at hg
      simp only [Option.some.injEq, lenN_eq] at hg
      have hj : m.length ≤ j := List.getElem?_eq_none_iff.1 hm
      subst hg
      rw [List.getElem?_append_right (by omega), List.getElem?_drop, show m.length + (H.length + (j - m.length) - ρ.length) = j by omega]
      exact hp
  refine ⟨hren, ?_⟩
  have old : ∀ (b : Nat) (x : Blk) (p : Place), (H ++ renBL (fwd m H.length) (H1.drop m.length))[b]? = some x → (ρ ++ ρ1.drop m.length)[b]? = some p →
      (b < H.length ∧ H[b]? = some x ∧ ρ[b]? = some p) ∨ (∃ j y, H.length ≤ b ∧ j = m.length + (b - H.length) ∧ H1[j]? = some y ∧ x = renB (fwd m H.length) y ∧ ρ1[j]? = some p ∧ (x.live = true → y.wr = true)) := by
    intro b x p hx hp
    rcases Nat.lt_or_ge b H.length with hb | hb
    · left
      rw [List.getElem?_append_left hb] at hx
      rw [List.getElem?_append_left (by omega)] at hp
      exact ⟨hb, hx, hp⟩
    · right
      rw [List.getElem?_append_right hb, renBL_get, Option.map_eq_some_iff] at hx
      rw [List.getElem?_append_right (by omega), List.getElem?_drop, hlr] at hp
      obtain ⟨y, hy, rfl⟩ := hx
      refine ⟨_, y, hb, rfl, by rw [List.getElem?_drop] at hy; exact hy, rfl, hp, fun hlv => ?_⟩
      rw [renB_live] at hlv
      exact fresh_wr (allFresh_get hf _ _ hy) hlv
  refine ⟨⟨by simp [renBL_len, hlr, hl1], fun b x p hx hp => ?_, fun b c x y p q hne hx hy hp hq hw hlv hcp hcq => ?_⟩, h.fr.below h.low hbel, h.low, fun b x p hx hp hw hcp hF => ?_⟩
  · rcases old b x p hx hp with ⟨_, h1, h2⟩ | ⟨j, y, _, _, h1, rfl, h2, _⟩
    · exact ((h.rel.below hbel).blk b x p h1 h2).ext hE
    · exact renB_rel hren (h'.rel.blk j y p h1 h2)
  · rcases old b x p hx hp with ⟨_, h1, h2⟩ | ⟨j, u, hj, ej, h1, rfl, h2, _⟩
    · rcases old c y q hy hq with ⟨_, h3, h4⟩ | ⟨i, v, hi, ei, h3, rfl, h4, h3'⟩
      · exact h.rel.apart b c x y p q hne h1 h3 h2 h4 hw hlv hcp hcq
      · have := h.rel.lt h1 h2 (wr_live hw) hcp
        have := h'.free i v q h3 h4 (h3' hlv) hcq
        omega
    · rw [renB_wr] at hw
      rcases old c y q hy hq with ⟨_, h3, h4⟩ | ⟨i, v, hi, ei, h3, rfl, h4, h3'⟩
      · have := h.rel.lt h3 h4 hlv hcq
        have := h'.free j u p h1 h2 hw hcp
        omega
      · rw [renB_live] at hlv
        exact h'.rel.apart j i u v p q (by omega) h1 h3 h2 h4 hw hlv hcp hcq
  · rcases old b x p hx hp with ⟨_, h1, h2⟩ | ⟨j, u, _, _, h1, rfl, h2, _⟩
    · exact h.free b x p h1 h2 hw hcp hF
    · rw [renB_wr] at hw
      have := h'.free j u p h1 h2 hw hcp
      have := h.low _ hF
      have := h.fr.size
      omega

/-- a summary at a small memory is one at any larger memory -/
theorem sum_selG (hN : NoApart P) (hm : P.follows .mixedOrders = true) {f : FuncId} {run : List AV → List Blk → Option Lf}
    (h : ∀ args H t, run args H = some (t, true) → (∃ (ρ : List Place) (vals : List Value), VRels ρ args vals) → ∃ (K : CallerT) (L : LoopOr) (N d : Nat) (T' : Tr (AV × Option (List Blk))) (args' : List AV), CallerTOk P K ∧
      (∀ fn c, P.funcs[f]? = some fn → fn.body = some c → ∀ body st l, LoopIn body c → L body st = some (l, true) → LoopOk P H.length body st l) ∧ (∀ (ρ : List Place) (vals : List Value), VRels ρ args vals → VRels ρ args' vals) ∧ evF P K L N d f args' H = some (T', true) ∧ LLe T'.get t.get) : SumOk P f (selRun run) := by
  intro args H t hr F W0 ρ W vals hC hv
  unfold selRun at hr
  obtain ⟨hlt, hr⟩ := cond_some hr
  have hlt := ltN_spec hlt
  rw [lenB_eq] at hlt
  split at hr
  · rename_i t0 o h0
    obtain ⟨hfr, hr⟩ := cond_some hr
    simp only [Option.some.injEq, Prod.mk.injEq] at hr
    obtain ⟨rfl, rfl⟩ := hr
    obtain ⟨K, L, N, d, T', args', hK, hL, hargs, he, hle, hle2⟩ := h _ _ t0 h0 ⟨_, _, renVL_rel (sel_ren ρ (refC args H)) hv⟩
    have hb : ∃ fn, P.funcs[f]? = some fn ∧ fn.body.isSome = true := by
      unfold evF at he
      split at he
      · rename_i fn hf
        exact ⟨fn, hf, evFn_body he⟩
      · cases he
    obtain ⟨fn, hf, hb⟩ := hb
    rw [enter_run hN hf hb, mapTr_get]
    generalize hmm : refC args H = m at *
    have hC1 := hC.roOf.gc m fun k l b x _ _ hx hw => by
      rw [roH_get] at hx
      cases hz : H[b]? with
      | none => rw [hz] at hx; cases hx
      | some z => rw [hz] at hx; cases hx; rw [ro_wr] at hw; cases hw
    refine (evF_ok hN hm hK hL he hC1 (hargs _ _ (renVL_rel (sel_ren ρ m) hv))).mono fun e W' ⟨u, heu, ρ1, hext, hc1, hu, _⟩ => ⟨u, heu, ?_⟩
    have hu0 : VRel ρ1 t0.get.1 u := delitD_iff.1 (by rw [← hle]; exact delitD_iff.2 hu)
    generalize hT : T'.get = T at *
    generalize ht : t0.get = t1 at *
    obtain ⟨v', H1'⟩ := T
    obtain ⟨v, H1⟩ := t1
    cases H1 with
    | none =>
      cases H1' with
      | some _ => exact hle2.elim
      | none =>
        simp only [Sx.hp] at hc1
        have hlen : ρ1.length = m.length := by rw [hc1.rel.len, gcH_len]
        refine ⟨ρ, Ext.refl ρ, hC.below hc1.toBelow, ?_, Keep.refl H⟩
        simp only [fwdL]
        refine renV_rel (fun j k p hg hp => ?_) hu0
        have hj : j < m.length := by rw [← hlen]; exact (List.getElem?_eq_some_iff.1 hp).1
        unfold fwd at hg
        rw [nthN_eq, List.getElem?_eq_getElem hj] at hg
        simp only [Option.some.injEq] at hg
        subst hg
        have hb := hlt m[j] (List.getElem_mem hj)
        have hlr := hC.rel.len
        have h1 : (selP ρ m)[j]? = some ρ[m[j]] := by rw [selP_get, List.getElem?_eq_getElem hj]; simp [List.getD, List.getElem?_eq_getElem (show m[j] < ρ.length by omega)]
        have h2 := hext j _ h1
        rw [hp] at h2
        cases h2
        rw [List.getElem?_eq_getElem]
    | some H1 =>
      cases H1' with
      | none => exact hle2.elim
      | some H1' =>
        simp only [Sx.hp] at hc1
        have hc2 := hc1.weak hle2
        have hfr' := freshTr_get m t0 hfr H1 (by rw [ht])
        rw [dropN_eq] at hfr'
        obtain ⟨hren, hcl⟩ := hC.growR hc2 hext hlt hfr'
        refine ⟨ρ ++ ρ1.drop m.length, fun b p hp => by rw [List.getElem?_append_left (List.getElem?_eq_some_iff.1 hp).1]; exact hp, ?_, ?_, ?_⟩
        · simp only [Sx.hp, fwdL, appH_eq, dropN_eq, lenB_eq]; exact hcl
        · simp only [fwdL, lenB_eq]; exact renV_rel hren hu0
        · simp only [Sx.hp, fwdL, appH_eq]; simp [Keep]
  · cases hr
theorem sum_sel (hN : NoApart P) (hm : P.follows .mixedOrders = true) {f : FuncId} {run : List AV → List Blk → Option Lf}
    (h : ∀ args H t, run args H = some (t, true) → ∃ (K : CallerT) (L : LoopOr) (N d : Nat) (T' : Tr (AV × Option (List Blk))), CallerTOk P K ∧
      (∀ fn c, P.funcs[f]? = some fn → fn.body = some c → ∀ body st l, LoopIn body c → L body st = some (l, true) → LoopOk P H.length body st l) ∧ evF P K L N d f args H = some (T', true) ∧ LLe T'.get t.get) : SumOk P f (selRun run) :=
  sum_selG hN hm fun args H t hr _ => by
    obtain ⟨K, L, N, d, T', h1, h2, h3, h4⟩ := h args H t hr
    exact ⟨K, L, N, d, T', args, h1, h2, fun _ _ h => h, h3, h4⟩
end

end Go.Sx
