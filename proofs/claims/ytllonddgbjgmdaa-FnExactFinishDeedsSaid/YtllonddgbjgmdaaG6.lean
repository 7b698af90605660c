/- Texts of one claim, put together. -/
import Derived.Test.YtllonddgbjgmdaaG4
import Derived.Test.YtllonddgbjgmdaaG5
import Derived.Test.YtllonddgbjgmdaaSxSelM
import Derived.Test.YtllonddgbjgmdaaG3
set_option linter.unusedVariables false
set_option maxRecDepth 100000
namespace Go.Proofs.Ytllonddgbjgmdaa.P1
open Go.Sx Go.Sx.R0 Go.RowKit Go.Proofs.Ytllonddgbjgmdaa.W1 Go.Proofs.Ytllonddgbjgmdaa.W5
theorem evS {R room jar : Nat} (h1 : 1 ≤ R) (h2 : R ≤ 4) (h3 : room < R) (h4 : jar < 8) (E : En) (F : Fl) (back : Bool) (x : Int) : evM Try.prog extK (rwL (rwS R room jar E.M) noL) 20 8 121 [.ptr 0 0 0, .agg [.bool back, .int .i64 x]] (memS E R (can 9 E.M) F) = some (rawS E R room jar F back x, obS E R room jar F back x) := by
  have hR : R = 1 ∨ R = 2 ∨ R = 3 ∨ R = 4 := by omega
  have hj : jar = 0 ∨ jar = 1 ∨ jar = 2 ∨ jar = 3 ∨ jar = 4 ∨ jar = 5 ∨ jar = 6 ∨ jar = 7 := by omega
  rcases hR with rfl | rfl | rfl | rfl
  · have hr : room = 0 := by omega
    subst hr
    rcases hj with rfl | rfl | rfl | rfl | rfl | rfl | rfl | rfl
    · exact evS_1_0_0 E F back x
    · exact evS_1_0_1 E F back x
    · exact evS_1_0_2 E F back x
    · exact evS_1_0_3 E F back x
    · exact evS_1_0_4 E F back x
    · exact evS_1_0_5 E F back x
    · exact evS_1_0_6 E F back x
    · exact evS_1_0_7 E F back x
  · have hr : room = 0 ∨ room = 1 := by omega
    rcases hr with rfl | rfl
    · rcases hj with rfl | rfl | rfl | rfl | rfl | rfl | rfl | rfl
      · exact evS_2_0_0 E F back x
      · exact evS_2_0_1 E F back x
      · exact evS_2_0_2 E F back x
      · exact evS_2_0_3 E F back x
      · exact evS_2_0_4 E F back x
      · exact evS_2_0_5 E F back x
      · exact evS_2_0_6 E F back x
      · exact evS_2_0_7 E F back x
    · rcases hj with rfl | rfl | rfl | rfl | rfl | rfl | rfl | rfl
      · exact evS_2_1_0 E F back x
      · exact evS_2_1_1 E F back x
      · exact evS_2_1_2 E F back x
      · exact evS_2_1_3 E F back x
      · exact evS_2_1_4 E F back x
      · exact evS_2_1_5 E F back x
      · exact evS_2_1_6 E F back x
      · exact evS_2_1_7 E F back x
  · have hr : room = 0 ∨ room = 1 ∨ room = 2 := by omega
    rcases hr with rfl | rfl | rfl
    · rcases hj with rfl | rfl | rfl | rfl | rfl | rfl | rfl | rfl
      · exact evS_3_0_0 E F back x
      · exact evS_3_0_1 E F back x
      · exact evS_3_0_2 E F back x
      · exact evS_3_0_3 E F back x
      · exact evS_3_0_4 E F back x
      · exact evS_3_0_5 E F back x
      · exact evS_3_0_6 E F back x
      · exact evS_3_0_7 E F back x
    · rcases hj with rfl | rfl | rfl | rfl | rfl | rfl | rfl | rfl
      · exact evS_3_1_0 E F back x
      · exact evS_3_1_1 E F back x
      · exact evS_3_1_2 E F back x
      · exact evS_3_1_3 E F back x
      · exact evS_3_1_4 E F back x
      · exact evS_3_1_5 E F back x
      · exact evS_3_1_6 E F back x
      · exact evS_3_1_7 E F back x
    · rcases hj with rfl | rfl | rfl | rfl | rfl | rfl | rfl | rfl
      · exact evS_3_2_0 E F back x
      · exact evS_3_2_1 E F back x
      · exact evS_3_2_2 E F back x
      · exact evS_3_2_3 E F back x
      · exact evS_3_2_4 E F back x
      · exact evS_3_2_5 E F back x
      · exact evS_3_2_6 E F back x
      · exact evS_3_2_7 E F back x
  · have hr : room = 0 ∨ room = 1 ∨ room = 2 ∨ room = 3 := by omega
    rcases hr with rfl | rfl | rfl | rfl
    · rcases hj with rfl | rfl | rfl | rfl | rfl | rfl | rfl | rfl
      · exact evS_4_0_0 E F back x
      · exact evS_4_0_1 E F back x
      · exact evS_4_0_2 E F back x
      · exact evS_4_0_3 E F back x
      · exact evS_4_0_4 E F back x
      · exact evS_4_0_5 E F back x
      · exact evS_4_0_6 E F back x
      · exact evS_4_0_7 E F back x
    · rcases hj with rfl | rfl | rfl | rfl | rfl | rfl | rfl | rfl
      · exact evS_4_1_0 E F back x
      · exact evS_4_1_1 E F back x
      · exact evS_4_1_2 E F back x
      · exact evS_4_1_3 E F back x
      · exact evS_4_1_4 E F back x
      · exact evS_4_1_5 E F back x
      · exact evS_4_1_6 E F back x
      · exact evS_4_1_7 E F back x
    · rcases hj with rfl | rfl | rfl | rfl | rfl | rfl | rfl | rfl
      · exact evS_4_2_0 E F back x
      · exact evS_4_2_1 E F back x
      · exact evS_4_2_2 E F back x
      · exact evS_4_2_3 E F back x
      · exact evS_4_2_4 E F back x
      · exact evS_4_2_5 E F back x
      · exact evS_4_2_6 E F back x
      · exact evS_4_2_7 E F back x
    · rcases hj with rfl | rfl | rfl | rfl | rfl | rfl | rfl | rfl
      · exact evS_4_3_0 E F back x
      · exact evS_4_3_1 E F back x
      · exact evS_4_3_2 E F back x
      · exact evS_4_3_3 E F back x
      · exact evS_4_3_4 E F back x
      · exact evS_4_3_5 E F back x
      · exact evS_4_3_6 E F back x
      · exact evS_4_3_7 E F back x
theorem evI {R room jar : Nat} (h1 : 1 ≤ R) (h2 : R ≤ 4) (h3 : room < R) (h4 : jar < 8) (E : En) (F : Fl) (back : Bool) (x : Int) : evM Try.prog extK (rwL (rwI R room jar E.M) noL) 20 8 110 [.ptr 0 0 0, .agg [.bool back, .int .i64 x]] (memI E R (can 8 E.M) F) = some (rawI E R room jar F back x, obI E R room jar F back x) := by
  have hR : R = 1 ∨ R = 2 ∨ R = 3 ∨ R = 4 := by omega
  have hj : jar = 0 ∨ jar = 1 ∨ jar = 2 ∨ jar = 3 ∨ jar = 4 ∨ jar = 5 ∨ jar = 6 ∨ jar = 7 := by omega
  rcases hR with rfl | rfl | rfl | rfl
  · have hr : room = 0 := by omega
    subst hr
    rcases hj with rfl | rfl | rfl | rfl | rfl | rfl | rfl | rfl
    · exact evI_1_0_0 E F back x
    · exact evI_1_0_1 E F back x
    · exact evI_1_0_2 E F back x
    · exact evI_1_0_3 E F back x
    · exact evI_1_0_4 E F back x
    · exact evI_1_0_5 E F back x
    · exact evI_1_0_6 E F back x
    · exact evI_1_0_7 E F back x
  · have hr : room = 0 ∨ room = 1 := by omega
    rcases hr with rfl | rfl
    · rcases hj with rfl | rfl | rfl | rfl | rfl | rfl | rfl | rfl
      · exact evI_2_0_0 E F back x
      · exact evI_2_0_1 E F back x
      · exact evI_2_0_2 E F back x
      · exact evI_2_0_3 E F back x
      · exact evI_2_0_4 E F back x
      · exact evI_2_0_5 E F back x
      · exact evI_2_0_6 E F back x
      · exact evI_2_0_7 E F back x
    · rcases hj with rfl | rfl | rfl | rfl | rfl | rfl | rfl | rfl
      · exact evI_2_1_0 E F back x
      · exact evI_2_1_1 E F back x
      · exact evI_2_1_2 E F back x
      · exact evI_2_1_3 E F back x
      · exact evI_2_1_4 E F back x
      · exact evI_2_1_5 E F back x
      · exact evI_2_1_6 E F back x
      · exact evI_2_1_7 E F back x
  · have hr : room = 0 ∨ room = 1 ∨ room = 2 := by omega
    rcases hr with rfl | rfl | rfl
    · rcases hj with rfl | rfl | rfl | rfl | rfl | rfl | rfl | rfl
      · exact evI_3_0_0 E F back x
      · exact evI_3_0_1 E F back x
      · exact evI_3_0_2 E F back x
      · exact evI_3_0_3 E F back x
      · exact evI_3_0_4 E F back x
      · exact evI_3_0_5 E F back x
      · exact evI_3_0_6 E F back x
      · exact evI_3_0_7 E F back x
    · rcases hj with rfl | rfl | rfl | rfl | rfl | rfl | rfl | rfl
      · exact evI_3_1_0 E F back x
      · exact evI_3_1_1 E F back x
      · exact evI_3_1_2 E F back x
      · exact evI_3_1_3 E F back x
      · exact evI_3_1_4 E F back x
      · exact evI_3_1_5 E F back x
      · exact evI_3_1_6 E F back x
      · exact evI_3_1_7 E F back x
    · rcases hj with rfl | rfl | rfl | rfl | rfl | rfl | rfl | rfl
      · exact evI_3_2_0 E F back x
      · exact evI_3_2_1 E F back x
      · exact evI_3_2_2 E F back x
      · exact evI_3_2_3 E F back x
      · exact evI_3_2_4 E F back x
      · exact evI_3_2_5 E F back x
      · exact evI_3_2_6 E F back x
      · exact evI_3_2_7 E F back x
  · have hr : room = 0 ∨ room = 1 ∨ room = 2 ∨ room = 3 := by omega
    rcases hr with rfl | rfl | rfl | rfl
    · rcases hj with rfl | rfl | rfl | rfl | rfl | rfl | rfl | rfl
      · exact evI_4_0_0 E F back x
      · exact evI_4_0_1 E F back x
      · exact evI_4_0_2 E F back x
      · exact evI_4_0_3 E F back x
      · exact evI_4_0_4 E F back x
      · exact evI_4_0_5 E F back x
      · exact evI_4_0_6 E F back x
      · exact evI_4_0_7 E F back x
    · rcases hj with rfl | rfl | rfl | rfl | rfl | rfl | rfl | rfl
      · exact evI_4_1_0 E F back x
      · exact evI_4_1_1 E F back x
      · exact evI_4_1_2 E F back x
      · exact evI_4_1_3 E F back x
      · exact evI_4_1_4 E F back x
      · exact evI_4_1_5 E F back x
      · exact evI_4_1_6 E F back x
      · exact evI_4_1_7 E F back x
    · rcases hj with rfl | rfl | rfl | rfl | rfl | rfl | rfl | rfl
      · exact evI_4_2_0 E F back x
      · exact evI_4_2_1 E F back x
      · exact evI_4_2_2 E F back x
      · exact evI_4_2_3 E F back x
      · exact evI_4_2_4 E F back x
      · exact evI_4_2_5 E F back x
      · exact evI_4_2_6 E F back x
      · exact evI_4_2_7 E F back x
    · rcases hj with rfl | rfl | rfl | rfl | rfl | rfl | rfl | rfl
      · exact evI_4_3_0 E F back x
      · exact evI_4_3_1 E F back x
      · exact evI_4_3_2 E F back x
      · exact evI_4_3_3 E F back x
      · exact evI_4_3_4 E F back x
      · exact evI_4_3_5 E F back x
      · exact evI_4_3_6 E F back x
      · exact evI_4_3_7 E F back x
end Go.Proofs.Ytllonddgbjgmdaa.P1
set_option linter.unusedVariables false
set_option linter.unusedSimpArgs false
set_option maxRecDepth 100000
namespace Go.Proofs.Ytllonddgbjgmdaa.P2
open Go.Sx Go.Sx.R0 Go.RowKit Go.Proofs.Ytllonddgbjgmdaa.P1

-- what memory holds
def gI (x : AV) : Int := match x with | .int _ n => n | _ => 0
def gB (x : AV) : Bool := match x with | .bool b => b | _ => false
def gL (x : AV) : Nat := match x with | .slc _ _ n => n | _ => 0
def bF (H : List Blk) (b : Nat) : Nat → List AV := match blkOf H b with | some (.rows _ _ _ f) => f | _ => fun _ => []
def bN (H : List Blk) (b : Nat) : Nat := match blkOf H b with | some (.rows _ n _ _) => n | _ => 0
def bW (H : List Blk) (b : Nat) : Bool := match blkOf H b with | some (.rows w _ _ _) => w | some (.one w _) => w | _ => false
def bC (H : List Blk) (b c : Nat) : AV := match blkOf H b with | some (.one _ l) => gt l c | _ => .junk
def toT (f : Nat → List AV) : Ts := ⟨fun i => gI (gt (f i) 0), fun i => gI (gt (f i) 1), fun i => gI (gt (f i) 2)⟩
def toFl (H : List Blk) (c w : Nat) : Fl := ⟨fun j i => gI (gt (bF H 3 i) j), fun r i => gB (gt (bF H (c + r) i) 0), fun i => gB (gt (bF H 5 i) 0), fun i => gB (gt (bF H 6 i) 0), w, fun i => gB (gt (bF H 7 i) 0), fun i => gI (gt (bF H 7 i) 1)⟩
def toES (H : List Blk) : En := ⟨bW H 1, bW H 2, bW H 8, bN H 3, bN H 2, bF H 8, toT (bF H 2)⟩
def toEI (H : List Blk) : En := ⟨true, bW H 2, bW H 1, bN H 3, bN H 2, bF H 1, toT (bF H 2)⟩
def toFS (H : List Blk) : Fl := toFl H 9 (gL (bC H 0 6))
def toFI (H : List Blk) : Fl := toFl H 8 (gL (bC H 0 7))
-- what comes of a note
def rm (R : Nat) (x : Int) : Nat := (x.tmod (Int.ofNat R)).toNat
def outS (E : En) (R : Nat) (bf : Nat → List AV) (F : Fl) (back : Bool) (x : Int) : Tr (AV × Option (List Blk)) :=
  .node back (.leaf (.tup [], some (memS E R bf (F.know x.toNat) ++ [.dead])))
    (.node (!F.was R (rm R x) x.toNat)
      (.leaf (.tup [], some (hdS E R bf F (12 + R) (F.pour (E.t.b x.toNat).toNat (E.t.j x.toNat).toNat (E.t.d x.toNat)).vrow .dead (F.w + 1) ++ bks E.M (F.mark (rm R x) x.toNat) R ++ [.dead, .dead, .dead, .rows true (F.w + 1) 2 (F.add true x).wrow])))
      (.leaf (.tup [], some (hdS E R bf F (11 + R) F.vrow .dead (F.w + 1) ++ bks E.M F R ++ [.dead, .dead, .rows true (F.w + 1) 2 (F.add true x).wrow]))))
def outI (E : En) (R : Nat) (bf : Nat → List AV) (F : Fl) (back : Bool) (x : Int) : Tr (AV × Option (List Blk)) :=
  .node back (.leaf (.tup [], some (memI E R bf (F.know x.toNat) ++ [.dead, .dead])))
    (.node (!F.was R (rm R x) x.toNat)
      (.leaf (.tup [], some (hdI E R bf F (11 + R) (F.pour (E.t.b x.toNat).toNat (E.t.j x.toNat).toNat (E.t.d x.toNat)).vrow .dead (F.w + 1) ++ bks E.M (F.mark (rm R x) x.toNat) R ++ [.dead, .dead, .dead, .rows true (F.w + 1) 2 (F.add true x).wrow])))
      (.leaf (.tup [], some (hdI E R bf F (11 + R) F.vrow .dead (F.w + 1) ++ bks E.M F R ++ [.dead, .dead, .dead, .rows true (F.w + 1) 2 (F.add true x).wrow]))))
/-- tasks within their bounds -/
def TsOk (E : En) : Prop := ∀ i, i < E.M → 0 ≤ E.t.b i ∧ E.t.b i < (E.n : Int) ∧ 0 ≤ E.t.j i ∧ E.t.j i < 8
def CmOk (E : En) (F : Fl) (x : Int) : Prop := 0 ≤ x ∧ x < (E.M : Int) ∧ TsOk E ∧ F.w + 1 ≤ few
def isS (H : List Blk) (R : Nat) (x : Int) : Prop := ∃ E F, H = memS E R (bF H 4) F ∧ (∀ i, i < R → bF H 4 i = can 9 E.M i) ∧ CmOk E F x
noncomputable def runS (R : Nat) : List AV → List Blk → Option Lf := fun args H => match args with
  | [.ptr 0 0 0, .agg [.bool back, .int .i64 x]] => some (outS (toES H) R (bF H 4) (toFS H) back x, pB (isS H R x))
  | _ => none
def isI (H : List Blk) (R : Nat) (x : Int) : Prop := ∃ E F, H = memI E R (bF H 4) F ∧ (∀ i, i < R → bF H 4 i = can 8 E.M i) ∧ CmOk E F x
noncomputable def runI (R : Nat) : List AV → List Blk → Option Lf := fun args H => match args with
  | [.ptr 0 0 0, .agg [.bool back, .int .i64 x]] => some (outI (toEI H) R (bF H 4) (toFI H) back x, pB (isI H R x))
  | _ => none
theorem HLe.app : ∀ {a a' b b' : List Blk}, HLe a a' → HLe b b' → HLe (a ++ b) (a' ++ b')
  | [], [], b, b', _, h => h
  | x :: s, y :: t, b, b', ⟨h1, h2⟩, h => ⟨h1, HLe.app h2 h⟩
theorem was_eq {R room k : Nat} (F : Fl) (h1 : 1 ≤ R) (h2 : R ≤ 4) (h3 : room < R) : F.was R room k = F.bk room k := by
  have hR : R = 1 ∨ R = 2 ∨ R = 3 ∨ R = 4 := by omega
  rcases hR with rfl | rfl | rfl | rfl
  · have : room = 0 := by omega
    subst this; rfl
  · have : room = 0 ∨ room = 1 := by omega
    rcases this with rfl | rfl <;> rfl
  · have : room = 0 ∨ room = 1 ∨ room = 2 := by omega
    rcases this with rfl | rfl | rfl <;> rfl
  · have : room = 0 ∨ room = 1 ∨ room = 2 ∨ room = 3 := by omega
    rcases this with rfl | rfl | rfl | rfl <;> rfl
theorem pour_row (F : Fl) (b : Nat) (d : Int) {j : Nat} (hj : j < 8) (i : Nat) : (F.pour b j d).vrow i = upd F.vrow b (pt (F.vrow b) j (.int .i64 (IntKind.i64.wrap (F.vt j b + d)))) i := by
  have hj : j = 0 ∨ j = 1 ∨ j = 2 ∨ j = 3 ∨ j = 4 ∨ j = 5 ∨ j = 6 ∨ j = 7 := by omega
  unfold upd
  cases hb : Nat.beq i b with
  | true =>
    have hb' := Nat.eq_of_beq_eq_true hb
    subst hb'
    rcases hj with rfl | rfl | rfl | rfl | rfl | rfl | rfl | rfl <;> (simp [Fl.vrow, Fl.pour, pt, mRow, mC, mS, delit, ikEq]; exact ⟨rfl, rfl, rfl, rfl, rfl, rfl, rfl⟩)
  | false =>
    rcases hj with rfl | rfl | rfl | rfl | rfl | rfl | rfl | rfl <;> simp [Fl.vrow, Fl.pour, pt, mRow, mC, mS, delit, ikEq, hb]
theorem add_row (F : Fl) (p : Bool) (x : Int) {i : Nat} (hi : i < F.w + 1) : (F.add p x).wrow i = catF F.w F.wrow (wNew p x) i := by
  unfold catF
  by_cases h : i < F.w
  · rw [show i - F.w = 0 by omega, blt_lt h]
    unfold Fl.wrow Fl.add
    simp only [blt_lt h]
    rfl
  · have : i = F.w := by omega
    subst this
    rw [Nat.sub_self, blt_ge (Nat.le_refl _)]
    unfold Fl.wrow Fl.add
    simp only [blt_ge (Nat.le_refl _)]
    rfl
theorem wi_le (F : Fl) (p : Bool) (x : Int) : BLe (wiB F p x) (.rows true (F.w + 1) 2 (F.add p x).wrow) := BLe.rows fun i hi => add_row F p x hi
theorem LLe.ofH {v : AV} {H H' : List Blk} (h : HLe H H') : LLe ((v, some H) : AV × Option (List Blk)) (v, some H') := ⟨rfl, h⟩
theorem not_bif (b : Bool) : (bif b then false else true) = !b := by cases b <;> rfl
theorem left_S {E : En} {R room jar : Nat} {bf : Nat → List AV} {F : Fl} {back : Bool} {x : Int} (h1 : 1 ≤ R) (h2 : R ≤ 4) (h3 : room < R) (h4 : jar < 8) (hr : rm R x = room) (hj : (E.t.j x.toNat).toNat = jar) (hb : ∀ i, i < R → bf i = can 9 E.M i) :
    LLe (rawS E R room jar F back x).get (outS E R bf F back x).get := by
  have hd : ∀ {w7 vf vf' wB wl}, (∀ i, i < E.n → vf' i = vf i) → HLe (hdS E R (can 9 E.M) F w7 vf wB wl) (hdS E R bf F w7 vf' wB wl) := fun hv => ⟨BLe.refl _, BLe.refl _, BLe.refl _, BLe.rows hv, BLe.rows hb, BLe.refl _, BLe.refl _, BLe.refl _, BLe.refl _, trivial⟩
  unfold rawS outS
  rw [not_bif, ← was_eq F h1 h2 h3, hr, hj]
  cases back with
  | true => exact LLe.ofH (HLe.app ⟨BLe.refl _, BLe.refl _, BLe.refl _, BLe.refl _, BLe.rows hb, BLe.refl _, BLe.refl _, BLe.refl _, BLe.refl _, HLe.refl _⟩ ⟨BLe.dead _, trivial⟩)
  | false =>
    cases F.was R room x.toNat with
    | true => exact LLe.ofH (HLe.app (HLe.app (hd fun _ _ => rfl) (HLe.refl _)) ⟨BLe.dead _, BLe.dead _, wi_le F true x, trivial⟩)
    | false => exact LLe.ofH (HLe.app (HLe.app (hd fun i _ => pour_row F _ _ h4 i) (HLe.refl _)) ⟨BLe.dead _, BLe.dead _, BLe.dead _, wi_le F true x, trivial⟩)
theorem left_I {E : En} {R room jar : Nat} {bf : Nat → List AV} {F : Fl} {back : Bool} {x : Int} (h1 : 1 ≤ R) (h2 : R ≤ 4) (h3 : room < R) (h4 : jar < 8) (hr : rm R x = room) (hj : (E.t.j x.toNat).toNat = jar) (hb : ∀ i, i < R → bf i = can 8 E.M i) :
    LLe (rawI E R room jar F back x).get (outI E R bf F back x).get := by
  have hd : ∀ {w7 vf vf' wB wl}, (∀ i, i < E.n → vf' i = vf i) → HLe (hdI E R (can 8 E.M) F w7 vf wB wl) (hdI E R bf F w7 vf' wB wl) := fun hv => ⟨BLe.refl _, BLe.refl _, BLe.refl _, BLe.rows hv, BLe.rows hb, BLe.refl _, BLe.refl _, BLe.refl _, trivial⟩
  unfold rawI outI
  rw [not_bif, ← was_eq F h1 h2 h3, hr, hj]
  cases back with
  | true => exact LLe.ofH (HLe.app ⟨BLe.refl _, BLe.refl _, BLe.refl _, BLe.refl _, BLe.rows hb, BLe.refl _, BLe.refl _, BLe.refl _, HLe.refl _⟩ ⟨BLe.dead _, BLe.dead _, trivial⟩)
  | false =>
    cases F.was R room x.toNat with
    | true => exact LLe.ofH (HLe.app (HLe.app (hd fun _ _ => rfl) (HLe.refl _)) ⟨BLe.dead _, BLe.dead _, BLe.dead _, wi_le F true x, trivial⟩)
    | false => exact LLe.ofH (HLe.app (HLe.app (hd fun i _ => pour_row F _ _ h4 i) (HLe.refl _)) ⟨BLe.dead _, BLe.dead _, BLe.dead _, wi_le F true x, trivial⟩)
-- what is owed
theorem rm_lt {R : Nat} {x : Int} (h1 : 1 ≤ R) (hx : 0 ≤ x) : rm R x < R ∧ x.tmod (Int.ofNat R) = Int.ofNat (rm R x) := by
  unfold rm
  obtain ⟨k, rfl⟩ : ∃ k : Nat, x = (k : Int) := ⟨x.toNat, by omega⟩
  rw [show ((k : Int).tmod (Int.ofNat R)) = ((k % R : Nat) : Int) from rfl]
  refine ⟨?_, rfl⟩
  simp only [Int.toNat_natCast]
  exact Nat.mod_lt _ (by omega)
theorem obX_true {E : En} {F : Fl} {x : Int} (h : CmOk E F x) : obX E x = true := by
  obtain ⟨h1, h2, _⟩ := h
  unfold obX
  rw [blt_lt (show x.toNat < E.M by omega)]
  simp [inB, h1, h2, andB]
theorem obS_true {E : En} {R : Nat} {F : Fl} {back : Bool} {x : Int} (h1 : 1 ≤ R) (h : CmOk E F x) : obS E R (rm R x) (E.t.j x.toNat).toNat F back x = true := by
  have hX := obX_true h
  obtain ⟨a1, a2, a3, a4⟩ := h
  obtain ⟨b1, b2, b3, b4⟩ := a3 x.toNat (by omega)
  have hrm := (rm_lt h1 a1).2
  have e1 : obR R (rm R x) x = true := by unfold obR; rw [hrm, deqA_self]; rfl
  have e2 : obJ E (E.t.j x.toNat).toNat x.toNat = true := by unfold obJ; rw [show Int.ofNat (E.t.j x.toNat).toNat = E.t.j x.toNat by simp; omega, deqA_self]; rfl
  have e3 : obW F = true := by unfold obW; rw [Nat.ble_eq_true_of_le (show 0 + F.w ≤ F.w by omega), Nat.ble_eq_true_of_le a4]; rfl
  have e4 : inB (E.t.b x.toNat) E.n = true := by simp [inB, b1, b2]
  have e5 : inB x E.M = true := by simp [inB, a1, a2]
  unfold obS
  rw [hX, e1, e2, e3, e4, e5, blt_lt (show x.toNat < E.M by omega), blt_lt (show (E.t.b x.toNat).toNat < E.n by omega)]
  cases back <;> cases F.bk (rm R x) x.toNat <;> rfl
theorem obI_true {E : En} {R : Nat} {F : Fl} {back : Bool} {x : Int} (h1 : 1 ≤ R) (h : CmOk E F x) : obI E R (rm R x) (E.t.j x.toNat).toNat F back x = true := by
  have hX := obX_true h
  obtain ⟨a1, a2, a3, a4⟩ := h
  obtain ⟨b1, b2, b3, b4⟩ := a3 x.toNat (by omega)
  obtain ⟨hlt, hrm⟩ := rm_lt h1 a1
  have e2 : obJ E (E.t.j x.toNat).toNat x.toNat = true := by unfold obJ; rw [show Int.ofNat (E.t.j x.toNat).toNat = E.t.j x.toNat by simp; omega, deqA_self]; rfl
  have e3 : obW F = true := by unfold obW; rw [Nat.ble_eq_true_of_le (show 0 + F.w ≤ F.w by omega), Nat.ble_eq_true_of_le a4]; rfl
  have e4 : inB (E.t.b x.toNat) E.n = true := by simp [inB, b1, b2]
  have e5 : inB x E.M = true := by simp [inB, a1, a2]
  have e6 : obB E x.toNat true = true := by unfold obB; rw [e4, blt_lt (show (E.t.b x.toNat).toNat < E.n by omega)]; rfl
  have e7 : (x.tmod (Int.ofNat R)).toNat = rm R x := rfl
  have e8 : inB (x.tmod (Int.ofNat R)) R = true := by rw [hrm]; exact inB_nat hlt
  unfold obI
  rw [hX, e2, e7, e8, deqA_self, e3, e5, e6, blt_lt hlt, blt_lt (show x.toNat < E.M by omega)]
  cases back <;> cases F.bk (rm R x) x.toNat <;> rfl
-- the contracts
theorem sameS1 (E : En) (bf : Nat → List AV) (F : Fl) (back : Bool) (x : Int) : outS (toES (memS E 1 bf F)) 1 bf (toFS (memS E 1 bf F)) back x = outS E 1 bf F back x := by kernel_rfl
theorem sameS2 (E : En) (bf : Nat → List AV) (F : Fl) (back : Bool) (x : Int) : outS (toES (memS E 2 bf F)) 2 bf (toFS (memS E 2 bf F)) back x = outS E 2 bf F back x := by kernel_rfl
theorem sameS3 (E : En) (bf : Nat → List AV) (F : Fl) (back : Bool) (x : Int) : outS (toES (memS E 3 bf F)) 3 bf (toFS (memS E 3 bf F)) back x = outS E 3 bf F back x := by kernel_rfl
theorem sameS4 (E : En) (bf : Nat → List AV) (F : Fl) (back : Bool) (x : Int) : outS (toES (memS E 4 bf F)) 4 bf (toFS (memS E 4 bf F)) back x = outS E 4 bf F back x := by kernel_rfl
theorem sameS {R : Nat} (h1 : 1 ≤ R) (h2 : R ≤ 4) (E : En) (bf : Nat → List AV) (F : Fl) (back : Bool) (x : Int) : outS (toES (memS E R bf F)) R bf (toFS (memS E R bf F)) back x = outS E R bf F back x := by
  have hR : R = 1 ∨ R = 2 ∨ R = 3 ∨ R = 4 := by omega
  rcases hR with rfl | rfl | rfl | rfl
  · exact sameS1 E bf F back x
  · exact sameS2 E bf F back x
  · exact sameS3 E bf F back x
  · exact sameS4 E bf F back x
theorem comeS {R : Nat} (h1 : 1 ≤ R) (h2 : R ≤ 4) : SumOk Try.prog 121 (selRunR (refX R) (runS R)) := sum_selR sxApart sxMixed fun args H t hr hex => by
  unfold runS at hr
  split at hr
  case h_2 => cases hr
  rename_i back x
  simp only [Option.some.injEq, Prod.mk.injEq] at hr
  obtain ⟨rfl, hr⟩ := hr
  obtain ⟨E, F, hH, hb, hc⟩ := pB_of hr
  generalize bF H 4 = bf at *
  subst hH
  obtain ⟨hlt, _⟩ := rm_lt h1 hc.1
  obtain ⟨_, _, b3, b4⟩ := hc.2.2.1 x.toNat (by have := hc.1; have := hc.2.1; omega)
  refine ⟨extK, rwL (rwS R (rm R x) (E.t.j x.toNat).toNat E.M) noL, 20, 8, _, _, memS E R (can 9 E.M) F, ?_, extK_ok, rwL_all _ (by decide +kernel) noL_all, fun _ _ h => h, by rw [evS h1 h2 hlt (by omega) E F back x, obS_true h1 hc], ?_⟩
  · exact HLe.app ⟨BLe.refl _, BLe.refl _, BLe.refl _, BLe.refl _, BLe.rows fun i hi => (hb i hi).symm, BLe.refl _, BLe.refl _, BLe.refl _, BLe.refl _, trivial⟩ (HLe.refl _)
  · rw [sameS h1 h2]
    exact left_S h1 h2 hlt (by omega) rfl rfl hb
theorem sameI1 (E : En) (bf : Nat → List AV) (F : Fl) (back : Bool) (x : Int) : outI (toEI (memI E 1 bf F)) 1 bf (toFI (memI E 1 bf F)) back x = outI E 1 bf F back x := by kernel_rfl
theorem sameI2 (E : En) (bf : Nat → List AV) (F : Fl) (back : Bool) (x : Int) : outI (toEI (memI E 2 bf F)) 2 bf (toFI (memI E 2 bf F)) back x = outI E 2 bf F back x := by kernel_rfl
theorem sameI3 (E : En) (bf : Nat → List AV) (F : Fl) (back : Bool) (x : Int) : outI (toEI (memI E 3 bf F)) 3 bf (toFI (memI E 3 bf F)) back x = outI E 3 bf F back x := by kernel_rfl
theorem sameI4 (E : En) (bf : Nat → List AV) (F : Fl) (back : Bool) (x : Int) : outI (toEI (memI E 4 bf F)) 4 bf (toFI (memI E 4 bf F)) back x = outI E 4 bf F back x := by kernel_rfl
theorem sameI {R : Nat} (h1 : 1 ≤ R) (h2 : R ≤ 4) (E : En) (bf : Nat → List AV) (F : Fl) (back : Bool) (x : Int) : outI (toEI (memI E R bf F)) R bf (toFI (memI E R bf F)) back x = outI E R bf F back x := by
  have hR : R = 1 ∨ R = 2 ∨ R = 3 ∨ R = 4 := by omega
  rcases hR with rfl | rfl | rfl | rfl
  · exact sameI1 E bf F back x
  · exact sameI2 E bf F back x
  · exact sameI3 E bf F back x
  · exact sameI4 E bf F back x
theorem comeI {R : Nat} (h1 : 1 ≤ R) (h2 : R ≤ 4) : SumOk Try.prog 110 (selRunR (refX R) (runI R)) := sum_selR sxApart sxMixed fun args H t hr hex => by
  unfold runI at hr
  split at hr
  case h_2 => cases hr
  rename_i back x
  simp only [Option.some.injEq, Prod.mk.injEq] at hr
  obtain ⟨rfl, hr⟩ := hr
  obtain ⟨E, F, hH, hb, hc⟩ := pB_of hr
  generalize bF H 4 = bf at *
  subst hH
  obtain ⟨hlt, _⟩ := rm_lt h1 hc.1
  obtain ⟨_, _, b3, b4⟩ := hc.2.2.1 x.toNat (by have := hc.1; have := hc.2.1; omega)
  refine ⟨extK, rwL (rwI R (rm R x) (E.t.j x.toNat).toNat E.M) noL, 20, 8, _, _, memI E R (can 8 E.M) F, ?_, extK_ok, rwL_all _ (by decide +kernel) noL_all, fun _ _ h => h, by rw [evI h1 h2 hlt (by omega) E F back x, obI_true h1 hc], ?_⟩
  · exact HLe.app ⟨BLe.refl _, BLe.refl _, BLe.refl _, BLe.refl _, BLe.rows fun i hi => (hb i hi).symm, BLe.refl _, BLe.refl _, BLe.refl _, trivial⟩ (HLe.refl _)
  · rw [sameI h1 h2]
    exact left_I h1 h2 hlt (by omega) rfl rfl hb
end Go.Proofs.Ytllonddgbjgmdaa.P2
set_option linter.unusedSimpArgs false
set_option linter.unusedVariables false
namespace Go.Sx
open Go.RowKit
section
variable {P : Program}
/-- what is shown of a call at a small memory holds in any larger memory -/
theorem sel_sum {f : FuncId} {run : List AV → List Blk → Option Lf} (h : SumOk P f run) : SumOk P f (selRun run) := by
  intro args H t hr F W0 ρ W vals hC hv
  unfold selRun at hr
  obtain ⟨hlt, hr⟩ := cond_some hr
  have hlt := ltN_spec hlt
  rw [lenB_eq] at hlt
  split at hr
  · rename_i t0 o h0
    obtain ⟨hfr, hr⟩ := cond_some hr
    simp only [Option.some.injEq, Prod.mk.injEq] at hr
    obtain ⟨rfl, rfl⟩ := hr
    rw [mapTr_get]
    have hv1 := renVL_rel (sel_ren ρ (refC args H)) hv
    generalize hmm : refC args H = m at *
    have hC1 := hC.roOf.gc m fun k l b x _ _ hx hw => by
      rw [roH_get] at hx
      cases hz : H[b]? with
      | none => rw [hz] at hx; cases hx
      | some z => rw [hz] at hx; cases hx; rw [ro_wr] at hw; cases hw
    refine (h _ _ t0 h0 _ _ _ _ _ hC1 hv1).mono fun u W' ⟨ρ1, hext, hc1, hu0, _⟩ => ?_
    generalize ht : t0.get = t1 at *
    obtain ⟨v, H1⟩ := t1
    cases H1 with
    | none =>
        simp only [Sx.hp] at hc1
        have hlen : ρ1.length = m.length := by rw [hc1.rel.len, gcH_len]
        refine ⟨ρ, Ext.refl ρ, hC.below hc1.toBelow, ?_, Keep.refl H⟩
        simp only [fwdL]
        refine renV_rel (fun j k p hg hp => ?_) hu0
        have hj : j < m.length := by rw [← hlen]; exact (List.getElem?_eq_some_iff.1 hp).1
        unfold fwd at hg
        rw [nthN_eq, List.getElem?_eq_getElem hj] at hg
        simp only [Option.some.injEq] at hg
        subst hg
        have hb := hlt m[j] (List.getElem_mem hj)
        have hlr := hC.rel.len
        have h1 : (selP ρ m)[j]? = some ρ[m[j]] := by rw [selP_get, List.getElem?_eq_getElem hj]; simp [List.getD, List.getElem?_eq_getElem (show m[j] < ρ.length by omega)]
        have h2 := hext j _ h1
        rw [hp] at h2
        cases h2
        rw [List.getElem?_eq_getElem]
    | some H1 =>
        simp only [Sx.hp] at hc1
        have hc2 := hc1
        have hfr' := freshTr_get m t0 hfr H1 (by rw [ht])
        rw [dropN_eq] at hfr'
        obtain ⟨hren, hcl⟩ := hC.growR hc2 hext hlt hfr'
        refine ⟨ρ ++ ρ1.drop m.length, fun b p hp => by rw [List.getElem?_append_left (List.getElem?_eq_some_iff.1 hp).1]; exact hp, ?_, ?_, ?_⟩
        · simp only [Sx.hp, fwdL, appH_eq, dropN_eq, lenB_eq]; exact hcl
        · simp only [fwdL, lenB_eq]; exact renV_rel hren hu0
        · simp only [Sx.hp, fwdL, appH_eq]; simp [Keep]
  · cases hr
end
end Go.Sx
set_option linter.unusedVariables false
set_option linter.unusedSimpArgs false
set_option maxRecDepth 100000
namespace Go.Proofs.Ytllonddgbjgmdaa.P3
open Go.Sx Go.Sx.R0 Go.RowKit Go.Proofs.Ytllonddgbjgmdaa.P1 Go.Proofs.Ytllonddgbjgmdaa.P2

-- slices.Clone
def bRow (g : Nat → Bool) (i : Nat) : List AV := [.bool (g i)]
noncomputable def runClo : List AV → List Blk → Option Lf := fun args H => match args with
  | [.slc 0 0 n] => some (.leaf (.slc 2 0 n, some [.rows false n 1 (bF H 0), .dead, .rows true n 1 (bF H 0)]), pB (∃ g : Nat → Bool, H = [.rows false n 1 (bRow g)] ∧ n ≤ few))
  | _ => none
noncomputable def cloT (q : Bool) (n : Nat) (g : Nat → Bool) : Tr (AV × Option (List Blk)) := .node q (.leaf (.nils, none)) (.leaf (.slc 2 0 (0 + n), some [.rows false n 1 (bRow g), .dead, .rows true (0 + n) 1 (catF 0 (shF (fun i => bif Nat.blt i 0 then [] else [.bool false]) 0) (shF (bRow g) 0))]))
theorem cloE (q : Bool) (n : Nat) (g : Nat → Bool) : evF Try.prog extK noL 20 8 107 [.slq q 0 0 n] [.rows false n 1 (bRow g)] = some (cloT q n g, impB (!q) (andB (andB (Nat.ble (0 + 0) 0 && Nat.ble (0 + n) n) (Nat.ble (0 + n) few)) true)) := by kernel_rfl
theorem clo0 : SumOk Try.prog 107 runClo := fun args H t hr F W0 ρ W vals hC hv => by
  unfold runClo at hr
  split at hr
  case h_2 => cases hr
  rename_i n
  simp only [Option.some.injEq, Prod.mk.injEq] at hr
  obtain ⟨rfl, hr⟩ := hr
  obtain ⟨g, rfl, hn⟩ := pB_of hr
  have hb : ∃ fn, Try.prog.funcs[107]? = some fn ∧ fn.body.isSome = true := by
    have he := cloE true n g
    unfold evF at he
    split at he
    · rename_i fn hf
      exact ⟨fn, hf, evFn_body he⟩
    · cases he
  obtain ⟨fn, hf, hb⟩ := hb
  rw [enter_run sxApart hf hb]
  simp only [VRels, VRel] at hv
  obtain ⟨v, vs, rfl, ⟨p, x, hp, rfl, hcap, hx⟩, rfl⟩ := hv
  have hvq : VRels ρ [.slq x.isNone 0 0 n] [.slice x n (p.cap - 0)] := by
    simp only [VRels, VRel]
    exact ⟨_, [], rfl, ⟨p, x, hp, rfl, hcap, hx, rfl⟩, rfl⟩
  have hob : impB (!x.isNone) (andB (andB (Nat.ble (0 + 0) 0 && Nat.ble (0 + n) n) (Nat.ble (0 + n) few)) true) = true := by
    refine imp_t ?_
    rw [Nat.ble_eq_true_of_le (show 0 + 0 ≤ 0 by omega), Nat.ble_eq_true_of_le (show 0 + n ≤ n by omega), Nat.ble_eq_true_of_le (show 0 + n ≤ few by omega)]; rfl
  have he := cloE x.isNone n g
  rw [hob] at he
  refine (evF_ok sxApart sxMixed extK_ok (fun _ _ _ _ _ _ _ _ h => by cases h) he hC hvq).mono fun e W' ⟨u, heu, ρ1, hext, hc1, hu, hk⟩ => ⟨u, heu, ?_⟩
  have hlr := hC.rel.len
  cases hq : x.isNone with
  | false =>
    rw [hq] at hc1 hu
    simp only [cloT, Tr.get, hp, cond_false] at hc1 hu
    refine ⟨ρ1, hext, ?_, ?_, by simp [Keep, Sx.hp, Tr.get]⟩
    · refine hc1.weak ⟨BLe.refl _, BLe.refl _, ?_, trivial⟩
      simp only [Nat.zero_add]
      exact BLe.rows fun i hi => by simp [catF, bF, blkOf, shF, bRow, blt_ge (Nat.zero_le i), mRow, mC, mS, delit, show Nat.blt i 0 = false from blt_ge (Nat.zero_le i)]
    · simp only [Nat.zero_add] at hu; exact hu
  | true =>
    rw [hq] at hc1 hu
    simp only [cloT, Tr.get, Sx.hp, cond_true] at hc1 hu
    have hx0 : x = none := by cases x with | none => rfl | some _ => cases hq
    have hn0 : n = 0 := by
      by_cases h0 : p.cap - 0 = 0
      · omega
      · rw [hx h0] at hx0; cases hx0
    subst hn0
    have hl1 : ρ1.length = 1 := hc1.rel.len
    let q : Sx.Place := ⟨0, 0, 1, 0⟩
    have hc2 := (hc1.phantom q true 1 (bRow g) rfl rfl).phantom q true 1 (bRow g) rfl rfl
    refine ⟨ρ1 ++ [q] ++ [q], fun b r hb => ?_, hc2.weak ⟨BLe.refl _, BLe.dead _, BLe.refl _, trivial⟩, ?_, by simp [Keep, Sx.hp, Tr.get]⟩
    · have h1 := hext b r hb
      rw [List.append_assoc, List.getElem?_append_left (List.getElem?_eq_some_iff.1 h1).1]; exact h1
    · simp only [VRel] at hu
      subst hu
      simp only [Tr.get, VRel]
      refine ⟨q, none, ?_, rfl, by simp [q], by simp [q]⟩
      rw [List.getElem?_append_right (by simp [hl1]), show 2 - (ρ1 ++ [q]).length = 0 by simp [hl1]]; rfl
theorem clo : SumOk Try.prog 107 (selRun runClo) := sel_sum clo0

-- slices.Delete
def Fl.del (F : Fl) (k : Nat) : Fl := { F with w := F.w - 1, wb := fun i => cond (Nat.blt i k) (F.wb i) (F.wb (i + 1)), wt := fun i => cond (Nat.blt i k) (F.wt i) (F.wt (i + 1)) }
def toW (H : List Blk) (w : Nat) : Fl := ⟨fun _ _ => 0, fun _ _ => false, fun _ => false, fun _ => false, w, fun i => gB (gt (bF H 0 i) 0), fun i => gI (gt (bF H 0 i) 1)⟩
noncomputable def runDel : List AV → List Blk → Option Lf := fun args H => match args with
  | [.slc 0 0 w, .int .i64 a, .int .i64 b] => some (.leaf (.slc 0 0 (w - 1), some [.rows true (w - 1) 2 (Fl.del (toW H w) a.toNat).wrow]), pB (∃ F : Fl, H = [.rows true w 2 F.wrow] ∧ 0 ≤ a ∧ a < (w : Int) ∧ w ≤ few ∧ b = IntKind.i64.wrap (a + 1)))
  | _ => none
def dl (k w : Nat) : Nat := k + (w - (k + 1))
noncomputable def delT (k w : Nat) (F : Fl) : Tr (AV × Option (List Blk)) := .node (Int.ofNat k == Int.ofNat (k + 1)) (.leaf (.slc 0 0 w, some [.rows true w 2 F.wrow]))
  (.leaf (.slc 0 0 (dl k w), some [.rows true w 2 (overF (dl k w) (w - dl k w) (fun _ => [.bool false, .int .i64 0]) (overF (0 + k) (w - (k + 1)) (shF F.wrow (k + 1)) F.wrow))]))
noncomputable def delO (k w : Nat) : Bool := andB (decide (0 ≤ Int.ofNat k) && decide (Int.ofNat k ≤ Int.ofNat (k + 1)) && decide (Int.ofNat (k + 1) ≤ (w : Int)) && decide ((w : Int) ≤ (w : Int))) (impB (!Int.ofNat k == Int.ofNat (k + 1))
  (andB (andB (decide ((0 : Int) ≤ 0) && decide ((0 : Int) ≤ Int.ofNat k) && (decide (Int.ofNat k ≤ (w : Int)) || decide (((0 : Nat) : Int) + Int.ofNat k ≤ (w : Int)))) (andB (decide ((0 : Int) ≤ Int.ofNat (k + 1)) && decide (Int.ofNat (k + 1) ≤ (w : Int)) && (decide ((w : Int) ≤ (w : Int)) || decide (((0 : Nat) : Int) + (w : Int) ≤ (w : Int)))) true))
  (andB (Nat.ble (0 + k + (w - (k + 1))) w && Nat.ble (k + 1 + 0 + (w - (k + 1))) w && Nat.ble (dl k w) few)
  (andB (decide ((0 : Int) ≤ (dl k w : Int)) && decide ((dl k w : Int) ≤ (w : Int)) && (decide ((w : Int) ≤ (dl k w : Int)) || decide (((0 : Nat) : Int) + (w : Int) ≤ (w : Int)))) (andB (Nat.ble (dl k w + 0 + (w - dl k w)) w) true)))))
theorem delE (k w : Nat) (F : Fl) : evM Try.prog extK noL 20 8 109 [.slc 0 0 w, .int .i64 (Int.ofNat k), .int .i64 (Int.ofNat (k + 1))] [.rows true w 2 F.wrow] = some (delT k w F, delO k w) := by kernel_rfl
theorem delO_true {k w : Nat} (h : k < w) (hw : w ≤ few) : delO k w = true := by
  have e : dl k w = w - 1 := by unfold dl; omega
  unfold delO
  rw [e, Nat.ble_eq_true_of_le (show 0 + k + (w - (k + 1)) ≤ w by omega), Nat.ble_eq_true_of_le (show k + 1 + 0 + (w - (k + 1)) ≤ w by omega), Nat.ble_eq_true_of_le (show w - 1 ≤ few by omega), Nat.ble_eq_true_of_le (show w - 1 + 0 + (w - (w - 1)) ≤ w by omega)]
  simp only [Int.ofNat_eq_natCast]
  rw [decide_eq_true (show (0 : Int) ≤ (k : Int) by omega), decide_eq_true (show (k : Int) ≤ ((k + 1 : Nat) : Int) by omega), decide_eq_true (show ((k + 1 : Nat) : Int) ≤ (w : Int) by omega), decide_eq_true (Int.le_refl (w : Int)), decide_eq_true (show (k : Int) ≤ (w : Int) by omega), decide_eq_true (show (0 : Int) ≤ ((k + 1 : Nat) : Int) by omega), decide_eq_true (show (0 : Int) ≤ ((w - 1 : Nat) : Int) by omega), decide_eq_true (show ((w - 1 : Nat) : Int) ≤ (w : Int) by omega), decide_eq_true (show ((0 : Nat) : Int) + (w : Int) ≤ (w : Int) by omega), Bool.or_true]
  refine imp_t ?_
  simp [andB]
theorem BLe.tr {x y z : Blk} (h : BLe x y) (k : BLe y z) : BLe x z := ⟨fun ρ W p hb => k.1 ρ W p (h.1 ρ W p hb), fun hw => h.2.1 (k.2.1 hw), fun hl => h.2.2 (k.2.2 hl)⟩
theorem del_row (F : Fl) {k i : Nat} (hk : k < F.w) (hi : i < F.w - 1) : (Fl.del F k).wrow i = overF (dl k F.w) (F.w - dl k F.w) (fun _ => [.bool false, .int .i64 0]) (overF (0 + k) (F.w - (k + 1)) (shF F.wrow (k + 1)) F.wrow) i := by
  rw [Nat.zero_add]
  have e : dl k F.w = F.w - 1 := by unfold dl; omega
  unfold overF
  have h1 : Nat.ble (dl k F.w) i = false := by
    cases hb : Nat.ble (dl k F.w) i with
    | false => rfl
    | true => have := Nat.le_of_ble_eq_true hb; omega
  rw [h1]
  by_cases h : i < k
  · have h2 : Nat.ble k i = false := by
      cases hb : Nat.ble k i with
      | false => rfl
      | true => have := Nat.le_of_ble_eq_true hb; omega
    rw [h2]
    unfold Fl.wrow Fl.del shF
    simp only [blt_lt h]
    rfl
  · have h2 : Nat.ble k i = true := Nat.ble_eq_true_of_le (by omega)
    have h3 : Nat.blt i (k + (F.w - (k + 1))) = true := blt_lt (by omega)
    rw [h2, h3]
    unfold Fl.wrow Fl.del shF
    simp only [blt_ge (show k ≤ i by omega)]
    rw [show i - k + (k + 1) = i + 1 by omega]
    rfl
theorem del : SumOk Try.prog 109 (selRunM runDel) := sum_selM sxApart sxMixed fun args H t hr => by
  unfold runDel at hr
  split at hr
  case h_2 => cases hr
  rename_i w a b
  simp only [Option.some.injEq, Prod.mk.injEq] at hr
  obtain ⟨rfl, hr⟩ := hr
  obtain ⟨F, rfl, h0, h1, hw, rfl⟩ := pB_of hr
  obtain ⟨k, rfl⟩ : ∃ k : Nat, a = Int.ofNat k := ⟨a.toNat, by simp; omega⟩
  have hf := few_eq
  have hk : k < w := by simpa using h1
  have e1 : IntKind.i64.wrap (Int.ofNat k + 1) = Int.ofNat (k + 1) := wrap_i64 (by simp only [Int.ofNat_eq_natCast]; omega) (by simp only [Int.ofNat_eq_natCast]; omega)
  rw [e1]
  refine ⟨extK, noL, 20, 8, delT k w F, extK_ok, noL_all, by rw [delE, delO_true hk hw], ?_⟩
  unfold delT
  rw [show (Int.ofNat k == Int.ofNat (k + 1)) = false from by simp; omega]
  have e : dl k w = w - 1 := by unfold dl; omega
  have hrow := fun (i : Nat) (hi : i < w - 1) => del_row { F with w := w } hk hi
  refine ⟨by simp only [Tr.get, cond_false, e], ?_, trivial⟩
  refine BLe.tr (BLe.fewer (n' := w - 1) (by omega)) (BLe.rows fun i hi => ?_)
  exact hrow i hi
end Go.Proofs.Ytllonddgbjgmdaa.P3
set_option linter.unusedSimpArgs false
set_option linter.unusedVariables false
namespace Go.Sx
open Go.RowKit
/-- rows told by a table -/
def tab : List (List AV) → Nat → List AV
  | [], _ => []
  | x :: _, 0 => x
  | _ :: t, i + 1 => tab t i
def rowsL (f : Nat → List AV) : Nat → Nat → List (List AV)
  | _, 0 => []
  | i, n + 1 => f i :: rowsL f (i + 1) n
def cutB (R : Nat) : Blk → Blk
  | .rows w n 1 f => match f 0 with
    | [.slc _ _ _] => bif Nat.beq n R then .rows w n 1 (tab (rowsL f 0 R)) else .rows w n 1 f
    | _ => .rows w n 1 f
  | x => x
def cutH (R : Nat) : List Blk → List Blk
  | [] => []
  | x :: t => cutB R x :: cutH R t
theorem tab_rows (f : Nat → List AV) : ∀ (n i k : Nat), k < n → tab (rowsL f i n) k = f (i + k)
  | 0, i, k, h => absurd h (Nat.not_lt_zero k)
  | n + 1, i, 0, _ => rfl
  | n + 1, i, k + 1, h => by
    simp only [rowsL, tab]
    rw [tab_rows f n (i + 1) k (by omega), show i + 1 + k = i + (k + 1) by omega]
theorem cutB_le (R : Nat) (x : Blk) : BLe x (cutB R x) := by
  unfold cutB
  split
  · rename_i w n f
    split
    · cases hn : Nat.beq n R with
      | false => exact BLe.refl _
      | true =>
        have := Nat.eq_of_beq_eq_true hn
        subst this
        exact BLe.rows fun i hi => by rw [tab_rows f _ 0 i hi, Nat.zero_add]
    · exact BLe.refl _
  · exact BLe.refl _
theorem cutH_le (R : Nat) : ∀ H : List Blk, HLe H (cutH R H)
  | [] => trivial
  | x :: t => ⟨cutB_le R x, cutH_le R t⟩
/-- what a call leaves, numbered anew by what its first argument names -/
def normL (R B : Nat) (x : AV × Option (List Blk)) : AV × Option (List Blk) :=
  match x with
  | (v, some H1) => bif pmB B (autoX R B ⟨[.ptr 0 0 0], H1⟩) then (renV (idxP (autoX R B ⟨[.ptr 0 0 0], H1⟩)) v, some (cutH R (gcH (idxP (autoX R B ⟨[.ptr 0 0 0], H1⟩)) H1 (autoX R B ⟨[.ptr 0 0 0], H1⟩)))) else (.junk, none)
  | (v, none) => (v, none)

section
variable {P : Program}
/-- a summary of a call that writes, at a small memory, is one at any larger memory -/
theorem sum_selN {R B : Nat} {ref : List AV → List Blk → List Nat} (hN : NoApart P) (hm : P.follows .mixedOrders = true) {f : FuncId} {run : List AV → List Blk → Option Lf}
    (h : ∀ args H t, run args H = some (t, true) → (∃ (ρ : List Place) (vals : List Value), VRels ρ args vals) → ∃ (K : CallerT) (L : LoopOr) (N d : Nat) (T' : Tr (AV × Option (List Blk))) (args' : List AV) (H2 : List Blk), HLe H H2 ∧ CallerTOk P K ∧
      (∀ fn c, P.funcs[f]? = some fn → fn.body = some c → ∀ body st l, LoopIn body c → L body st = some (l, true) → LoopOk P H2.length body st l) ∧ (∀ (ρ : List Place) (vals : List Value), VRels ρ args vals → VRels ρ args' vals) ∧ evM P K L N d f args' H2 = some (T', true) ∧ H.length = B ∧ LLe (normL R B T'.get) t.get) : SumOk P f (selRunR ref run) := by
  intro args H t hr F W0 ρ W vals hC hv
  unfold selRunR at hr
  obtain ⟨hlt, hr⟩ := cond_some hr
  simp only [Bool.and_eq_true] at hlt
  obtain ⟨hlt, hnd⟩ := hlt
  have hlt := ltN_spec hlt
  have hnd := nodN_spec hnd
  rw [lenB_eq] at hlt
  split at hr
  · rename_i t0 o h0
    obtain ⟨hfr, hr⟩ := cond_some hr
    simp only [Option.some.injEq, Prod.mk.injEq] at hr
    obtain ⟨rfl, rfl⟩ := hr
    obtain ⟨K, L, N, d, T', args', H2, hH2, hK, hL, hargs, he, hBl, hle, hle2⟩ := h _ _ t0 h0 ⟨_, _, renVL_rel (sel_ren ρ (ref args H)) hv⟩
    have hb : ∃ fn, P.funcs[f]? = some fn ∧ fn.body.isSome = true := by
      unfold evM at he
      split at he
      · rename_i fn hf
        exact ⟨fn, hf, evFnM_body he⟩
      · cases he
    obtain ⟨fn, hf, hb⟩ := hb
    rw [enter_run hN hf hb, mapTr_get]
    generalize hmm : ref args H = m at *
    have hCm : Cls (Fm ρ H m W) W ρ H W → Cls (Fm ρ H m W) W (selP ρ m) (gcH (idxP m) H m) W := fun hc => hc.gc m fun k l b x hk hl _ _ => by
      have h1 := (List.getElem?_eq_some_iff.1 hk).1
      exact (List.getElem?_inj h1 hnd).1 (by rw [hk, hl])
    -- writable blocks outside the part: told as read only
    have hC0 : Cls (Fm ρ H m W) W (selP ρ m) (gcH (idxP m) H m) W := by
      have hg := hC.gc m fun k l b x hk hl _ _ => by
        have h1 := (List.getElem?_eq_some_iff.1 hk).1
        exact (List.getElem?_inj h1 hnd).1 (by rw [hk, hl])
      refine ⟨hg.rel, ⟨rfl, rfl, rfl, Nat.le_refl _, fun _ _ => rfl⟩, fun k hk => hk.1, fun j y q hy hq hw hc hF => ?_⟩
      rw [gcH_get, Option.map_eq_some_iff] at hy
      obtain ⟨b, hb', hy⟩ := hy
      rw [selP_get, hb'] at hq
      simp only [Option.map_some, Option.some.injEq] at hq
      cases hx : H[b]? with
      | none => rw [hx] at hy; subst hy; cases hw
      | some x =>
        rw [hx] at hy
        subst hy
        rw [renB_wr] at hw
        have hlb : b < ρ.length := by rw [hC.rel.len]; exact (List.getElem?_eq_some_iff.1 hx).1
        have hp : ρ[b]? = some q := by
          rw [List.getElem?_eq_getElem hlb]
          simp [List.getD, List.getElem?_eq_getElem hlb] at hq
          rw [hq]
        exact hF.2 b x q (List.mem_of_getElem? hb') hx hp hw hc rfl
    refine (evM_ok hN hm hK hL he (hC0.weak hH2) (hargs _ _ (renVL_rel (sel_ren ρ m) hv))).mono fun e W' ⟨u, heu, ρ1, hext, hc1, hu, _⟩ => ⟨u, heu, ?_⟩
    obtain ⟨v, H1, hget, hk, hfr'⟩ := okTr_get m _ t0 hfr
    rw [hget] at hle hle2 ⊢
    generalize T'.get = T at *
    obtain ⟨v', H1'⟩ := T
    cases H1' with
    | none => exact hle2.elim
    | some H1' =>
      simp only [Sx.hp] at hc1
      unfold normL at hle hle2
      simp only at hle hle2
      cases hpm : pmB B (autoX R B ⟨[.ptr 0 0 0], H1'⟩) with
      | false => rw [hpm] at hle2; exact hle2.elim
      | true =>
      rw [hpm] at hle hle2
      simp only [cond_true] at hle hle2
      generalize autoX R B ⟨[.ptr 0 0 0], H1'⟩ = m' at *
      simp only [pmB, Bool.and_eq_true] at hpm
      have hpre := preN_spec hpm.1
      have hnd' := nodN_spec hpm.2
      have hcg := hc1.gc m' fun k l b x hk hl _ _ => by
        have h1 := (List.getElem?_eq_some_iff.1 hk).1
        exact (List.getElem?_inj h1 hnd').1 (by rw [hk, hl])
      have hc2 := (hcg.weak (cutH_le R _)).weak hle2
      have hu0 : VRel (selP ρ1 m') v u := delitD_iff.1 (by rw [← hle]; exact delitD_iff.2 (renV_rel (sel_ren ρ1 m') hu))
      have hmB : m.length = B := by rw [← hBl, gcH_len]
      have hext : Ext (selP ρ m) (selP ρ1 m') := fun b p hp => by
        have hb : b < B := by have := (List.getElem?_eq_some_iff.1 hp).1; simpa [selP, hmB] using this
        rw [selP_get, hpre b hb]
        have := hext b p hp
        simp [List.getD, this]
      rw [dropN_eq] at hfr'
      obtain ⟨hren, hcl⟩ := hC.growM hnd hlt hc2 hext hk hfr'
      refine ⟨ρ ++ (selP ρ1 m').drop m.length, fun b p hp => by rw [List.getElem?_append_left (List.getElem?_eq_some_iff.1 hp).1]; exact hp, ?_, ?_, ?_⟩
      · simp only [Sx.hp, fwdM, appH_eq, dropN_eq, lenB_eq]; exact hcl
      · simp only [fwdM, lenB_eq]; exact renV_rel hren hu0
      · simp only [Sx.hp, fwdM, appH_eq]; simp [Keep, putBk_len]
  · cases hr
theorem norm_of {K : CallerT} {L : LoopOr} {N d R B : Nat} {f : FuncId} {args : List AV} {H : List Blk} {T : Tr (AV × Option (List Blk))} {o : Bool} (h : (evM P K L N d f args H).map (fun x => (mapTr (normL R B) x.1, x.2)) = some (T, o)) :
    ∃ T', evM P K L N d f args H = some (T', o) ∧ normL R B T'.get = T.get := by
  cases hE : evM P K L N d f args H with
  | none => rw [hE] at h; cases h
  | some x =>
    rw [hE] at h
    simp only [Option.map_some, Option.some.injEq, Prod.mk.injEq] at h
    obtain ⟨h1, h2⟩ := h
    exact ⟨x.1, by rw [← h2], by rw [← h1, mapTr_get]⟩
end
end Go.Sx
