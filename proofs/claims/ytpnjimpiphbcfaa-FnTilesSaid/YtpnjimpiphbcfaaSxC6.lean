/- What the functions on gauges and counts compute, in plain terms. -/
import Derived.Test.YtpnjimpiphbcfaaSxFc
set_option linter.unusedSimpArgs false
set_option linter.unusedVariables false
namespace Go.Sx.C6
open Go.Sx

/-- above nought, at most one -/
noncomputable def kk (k : Option Nat) : Bool := cond (fcmp .gtr .f32 k (some 0)) (fcmp .leq .f32 k (some 1065353216)) false
noncomputable def dr (d : Option Nat) : Bool := cond (fcmp .geq .f32 d (some 3129152111)) (fcmp .leq .f32 d (some 981668463)) false

noncomputable def vS : List Int → List Int → List (Option Nat) → Bool → Bool
  | b :: bs, w :: ws, k :: ks, d => cond (cond (decide (w ≤ b)) true (!kk k)) false (vS bs ws ks d)
  | _, _, _, d => d
def wB : List Int → List Int → Bool → Bool
  | b :: bs, w :: ws, r => cond (decide (w ≤ b)) false (wB bs ws r)
  | _, _, r => r
noncomputable def idx : List (Option Nat) → Int → Int
  | [], _ => -1
  | k :: t, i => cond (!kk k) i (idx t (IntKind.i64.wrap (i + 1)))
noncomputable def vI (bs ws : List Int) (ks : List (Option Nat)) (d : Bool) : Bool := wB bs ws (cond (!decide (idx ks 0 ≥ 0)) d false)

noncomputable def allK : List (Option Nat) → Bool
  | [] => true
  | k :: t => kk k && allK t

theorem idx_all : ∀ (l : List (Option Nat)) (i : Int), 0 ≤ i → i + l.length < 1000000 → (!decide (idx l i ≥ 0)) = allK l
  | [], i, _, _ => by simp [idx, allK]
  | a :: t, i, h, hl => by
    simp only [List.length_cons] at hl
    simp only [idx, allK]
    simp only [IntWalk.i64_in (i + 1) (by omega)]
    cases kk a with
    | false => simpa using h
    | true => simpa using idx_all t (i + 1) (by omega) (by omega)

theorem wB_vS : ∀ (bs ws : List Int) (ks : List (Option Nat)) (d : Bool), bs.length = ws.length → ws.length = ks.length → wB bs ws (cond (allK ks) d false) = vS bs ws ks d
  | [], [], [], d, _, _ => by simp [wB, vS, allK]
  | b :: bs, w :: ws, k :: ks, d, h1, h2 => by
    have ih := wB_vS bs ws ks d (by simpa using h1) (by simpa using h2)
    simp only [wB, vS, allK]
    cases hk : kk k with
    | true =>
      cases decide (w ≤ b) <;> simp only [cond_true, cond_false, Bool.not_true, Bool.true_and, ih]
    | false =>
      have gen : ∀ (bs ws : List Int), wB bs ws false = false := by
        intro bs
        induction bs with
        | nil => intro ws; simp [wB]
        | cons b bs ih => intro ws; cases ws <;> simp [wB, ih]
      cases decide (w ≤ b) <;> simp [gen]

theorem vI_vS (bs ws : List Int) (ks : List (Option Nat)) (d : Bool) (h1 : bs.length = ws.length) (h2 : ws.length = ks.length) (h3 : ks.length < 1000) : vI bs ws ks d = vS bs ws ks d := by
  unfold vI
  rw [idx_all ks 0 (Int.le_refl 0) (by omega), wB_vS bs ws ks d h1 h2]

def gcells (b w : List Int) (k : List (Option Nat)) (d : Option Nat) : List AV := List.map (AV.int .i16) b ++ (List.map (AV.int .i16) w ++ (List.map (AV.flt .f32) k ++ [.flt .f32 d]))
/-- counts -/
def AllIn : List Int → Prop
  | [] => True
  | x :: t => (-32768 ≤ x ∧ x ≤ 32767) ∧ AllIn t
def d64 (x y : Int) : Int := IntKind.i64.wrap (IntKind.i64.wrap x - IntKind.i64.wrap y)
def d32 (x y : Int) : Int := IntKind.i32.wrap (IntKind.i32.wrap x - IntKind.i32.wrap y)
theorem d64_eq {x y : Int} (hx : -32768 ≤ x ∧ x ≤ 32767) (hy : -32768 ≤ y ∧ y ≤ 32767) : d64 x y = x - y := by
  unfold d64
  rw [wrap_i64 (n := x) (by omega) (by omega), wrap_i64 (n := y) (by omega) (by omega), wrap_i64 (by omega) (by omega)]
theorem d32_eq {x y : Int} (hx : -32768 ≤ x ∧ x ≤ 32767) (hy : -32768 ≤ y ∧ y ≤ 32767) : d32 x y = x - y := by
  unfold d32
  rw [wrap_i32 (n := x) (by omega) (by omega), wrap_i32 (n := y) (by omega) (by omega), wrap_i32 (by omega) (by omega)]

/-- what the lamp gives at a turn -/
noncomputable def lamp (d : Option Nat) (t : Int) : Option Nat := fop .add .f32 (some 1065353216) (fop .mul .f32 d (fofI .f32 t))
noncomputable def lane (dd : Int → Int → Int) (f : Option Nat) (c b : Int) (k : Option Nat) (w : Int) : Option Nat :=
  fop .quo .f32 (fop .mul .f32 (fofI .f32 (dd c b)) k) (fop .mul .f32 (fofI .f32 (dd w b)) f)
noncomputable def lanes (dd : Int → Int → Int) (f : Option Nat) : List Int → List Int → List (Option Nat) → List Int → List (Option Nat)
  | c :: cs, b :: bs, k :: ks, w :: ws => lane dd f c b k w :: lanes dd f cs bs ks ws
  | _, _, _, _ => []
theorem lanes_eq (f : Option Nat) : ∀ (cs bs : List Int) (ks : List (Option Nat)) (ws : List Int), AllIn cs → AllIn bs → AllIn ws → lanes d32 f cs bs ks ws = lanes d64 f cs bs ks ws
  | c :: cs, b :: bs, k :: ks, w :: ws, hc, hb, hw => by
    simp only [lanes, lane]
    rw [d32_eq hc.1 hb.1, d32_eq hw.1 hb.1, d64_eq hc.1 hb.1, d64_eq hw.1 hb.1, lanes_eq f cs bs ks ws hc.2 hb.2 hw.2]
  | [], _, _, _, _, _, _ => by simp [lanes]
  | _ :: _, [], _, _, _, _, _ => by simp [lanes]
  | _ :: _, _ :: _, [], _, _, _, _ => by simp [lanes]
  | _ :: _, _ :: _, _ :: _, [], _, _, _ => by simp [lanes]
def tr (t : Int) : Bool := cond (decide (0 ≤ t)) (decide (t ≤ 100000)) false
noncomputable def codeAt (g : Bool) (d : Option Nat) (t : Int) : Int := cond (!g) 1 (cond (!tr t) 2 (cond (!fcmp .gtr .f32 (lamp d t) (some 0)) 4 0))


-- counts of a curve
open Fl
noncomputable def cl (dd : Int → Int → Int) (f : Option Nat) (b w : Int) (k c : Option Nat) : Int :=
  cS (fop .add .f32 (fofI .f32 b) (fop .quo .f32 (fop .mul .f32 (fop .mul .f32 (fofI .f32 (dd w b)) f) c) k))
noncomputable def cls (dd : Int → Int → Int) (f : Option Nat) : List Int → List Int → List (Option Nat) → List (Option Nat) → List Int
  | b :: bs, w :: ws, k :: ks, c :: cs => cl dd f b w k c :: cls dd f bs ws ks cs
  | _, _, _, _ => []
theorem cls_eq (f : Option Nat) : ∀ (bs ws : List Int) (ks cs : List (Option Nat)), AllIn bs → AllIn ws → cls d32 f bs ws ks cs = cls d64 f bs ws ks cs
  | b :: bs, w :: ws, k :: ks, c :: cs, hb, hw => by
    simp only [cls, cl]
    rw [d32_eq hw.1 hb.1, d64_eq hw.1 hb.1, cls_eq f bs ws ks cs hb.2 hw.2]
  | [], _, _, _, _, _ => by simp [cls]
  | _ :: _, [], _, _, _, _ => by simp [cls]
  | _ :: _, _ :: _, [], _, _, _ => by simp [cls]
  | _ :: _, _ :: _, _ :: _, [], _, _ => by simp [cls]
noncomputable def fLS : List (Option Nat) → Bool
  | [] => true
  | x :: t => cond (cond (finS x) false true) false (fLS t)
noncomputable def idxF : List (Option Nat) → Int → Int
  | [], _ => -1
  | a :: t, i => cond (!finS a) i (idxF t (IntKind.i64.wrap (i + 1)))
theorem idxF_fin : ∀ (l : List (Option Nat)) (i : Int), 0 ≤ i → i + l.length < 1000000 → (!decide (0 ≤ idxF l i)) = fLS l
  | [], i, _, _ => by simp [idxF, fLS]
  | a :: t, i, h, hl => by
    simp only [List.length_cons] at hl
    simp only [idxF, fLS]
    simp only [wrap_i64 (n := i + 1) (by omega) (by omega)]
    cases finS a with
    | false => simpa using h
    | true => simpa using idxF_fin t (i + 1) (by omega) (by omega)

-- a gauge by functions
def w16 (f : Nat → Int) : List Int := [f 0, f 1, f 2, f 3, f 4, f 5, f 6, f 7, f 8, f 9, f 10, f 11, f 12, f 13, f 14, f 15]
def k16 (f : Nat → Option Nat) : List (Option Nat) := [f 0, f 1, f 2, f 3, f 4, f 5, f 6, f 7, f 8, f 9, f 10, f 11, f 12, f 13, f 14, f 15]
structure Gg where
  b : Nat → Int
  w : Nat → Int
  k : Nat → Option Nat
  d : Option Nat
def gF (g : Gg) : List AV := gcells (w16 g.b) (w16 g.w) (k16 g.k) g.d
noncomputable def gV (g : Gg) : Bool := vS (w16 g.b) (w16 g.w) (k16 g.k) (dr g.d)
noncomputable def gVI (g : Gg) : Bool := vI (w16 g.b) (w16 g.w) (k16 g.k) (dr g.d)
theorem gVI_gV (g : Gg) : gVI g = gV g := vI_vS _ _ _ _ rfl rfl (by simp [k16])
/-- a sum of numbers, from the first one on -/
noncomputable def fs (f : Nat → Option Nat) : Nat → Option Nat
  | 0 => some 0
  | k + 1 => cond (Int.ofNat k == 0) (f k) (fop .add .f32 (fs f k) (f k))
/-- a sum of differences -/
def ds (c b : Nat → Int) : Nat → Int
  | 0 => 0
  | i + 1 => IntKind.i64.wrap (ds c b i + IntKind.i64.wrap (IntKind.i64.wrap (c i) - IntKind.i64.wrap (b i)))
end Go.Sx.C6
