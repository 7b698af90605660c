/- The tasks of works: contracts of the reference's function and of the program's. -/
import Derived.Test.YtllonddgbjgmdaaSxW4
set_option linter.unusedVariables false
set_option linter.unusedSimpArgs false
set_option maxRecDepth 100000
namespace Go.Proofs.Ytllonddgbjgmdaa.W5
open Go.Sx Go.Sx.R0 Go.RowKit Go.Proofs.Ytllonddgbjgmdaa.W1 Go.Proofs.Ytllonddgbjgmdaa.W2 Go.Proofs.Ytllonddgbjgmdaa.W3

structure Tk where
  b : Nat → Int
  j : Nat → Int
  n : Nat → Int
def Tk.row (c : Tk) (i : Nat) : List AV := [.int .i64 (c.b i), .int .i64 (c.j i), .int .i64 (c.n i)]
def Tk.upd (c : Tk) (k : Nat) (c' : Tk) : Tk := ⟨fun i => cond (Nat.beq i k) (c.b k) (c'.b i), fun i => cond (Nat.beq i k) (c.j k) (c'.j i), fun i => cond (Nat.beq i k) (c.n k) (c'.n i)⟩
def Tk.upto (c : Tk) (k : Nat) : Tk := ⟨fun i => cond (Nat.blt i k) (c.b i) 0, fun i => cond (Nat.blt i k) (c.j i) 0, fun i => cond (Nat.blt i k) (c.n i) 0⟩
def Tk.zero : Tk := ⟨fun _ => 0, fun _ => 0, fun _ => 0⟩
def Tk.ro1 (n : Nat) (c : Tk) : List Blk := [.rows false n 3 c.row]
def Tk.ro2 (n : Nat) (c : Tk) : List Blk := [.rows false n 3 c.row, .rows false n 3 c.row]
abbrev TL := List (Int × Int × Int)
def lc (L : TL) : Tk := ⟨fun t => (L.getD t (0, 0, 0)).1, fun t => (L.getD t (0, 0, 0)).2.1, fun t => (L.getD t (0, 0, 0)).2.2⟩
def addT (c : Bt) (i j : Nat) (L : TL) : TL := bif decide (c.d j i > 0) then L ++ [((i : Int), (j : Int), c.d j i)] else L
def inn (c : Bt) (i : Nat) : Nat → Nat → TL → TL
  | 0, _, L => L
  | f + 1, j, L => inn c i f (j + 1) (addT c i j L)
def outL (c : Bt) : Nat → TL
  | 0 => []
  | k + 1 => inn c k 8 0 (outL c k)
theorem addT_len (c : Bt) (i j : Nat) (L : TL) : (addT c i j L).length ≤ L.length + 1 := by unfold addT; cases decide (c.d j i > 0) <;> simp
theorem inn_len (c : Bt) (i : Nat) : ∀ (f j : Nat) (L : TL), (inn c i f j L).length ≤ L.length + f
  | 0, _, L => by simp [inn]
  | f + 1, j, L => by
    have := inn_len c i f (j + 1) (addT c i j L)
    have := addT_len c i j L
    simp only [inn]; omega
theorem outL_len (c : Bt) : ∀ k, (outL c k).length ≤ 8 * k
  | 0 => by simp [outL]
  | k + 1 => by
    have := inn_len c k 8 0 (outL c k)
    have := outL_len c k
    simp only [outL]; omega
def z3 : List AV := List.replicate 3 (.int .i64 0)
def tB (m : Nat) (t : Tk) : Blk := .rows true m 3 t.row
def tl (L : TL) : Blk := tB L.length (lc L)
def apT (p : List Nat) (m : Nat) (t : Tk) (x y z : Int) : Blk := .rows true (m + 1) 3 (fun i => renVL (idxP p) (catF m (shF t.row 0) (shF (fun j => bif Nat.blt j 1 then (([AV.int .i64 x, .int .i64 y, .int .i64 z].drop (j * 3)).take 3) else z3) 0) i))
theorem apT_le (p : List Nat) (L : TL) (x y z : Int) : BLe (apT p L.length (lc L) x y z) (tl (L ++ [(x, y, z)])) := by
  unfold tl tB
  rw [show (L ++ [(x, y, z)]).length = L.length + 1 by simp]
  refine BLe.rows fun i hi => ?_
  have h0 : i - L.length = 0 := by omega
  simp only [catF, shF, h0]
  by_cases h : i < L.length
  · rw [blt_lt h]
    have e : (L ++ [(x, y, z)]).getD i (0, 0, 0) = L.getD i (0, 0, 0) := by simp [List.getD, List.getElem?_append_left h]
    simp only [Tk.row, lc, e]
    rfl
  · have : i = L.length := by omega
    subst this
    have e : (L ++ [(x, y, z)]).getD L.length (0, 0, 0) = (x, y, z) := by simp [List.getD]
    rw [blt_ge (Nat.le_refl _)]
    simp only [Tk.row, lc, e]
    rfl
def oi (n i m : Nat) : Bool := andB (andB (inB (Int.ofNat i) n) (andB (Nat.blt i n) true)) true

-- the reference
def mS (r : Int) (n : Nat) (c : Bt) (b : Blk) : List Blk := [.one false [.int .i64 r, .slc 1 0 n], .rows false n 9 c.row, b]
def Ta (r : Int) (n : Nat) (c : Bt) (i m : Nat) (b : Blk) (j : AV) : St := ⟨[.ptr 0 0 0, .junk, .junk, .slc 2 0 m, .int .i64 (Int.ofNat i), j] ++ junks 35, mS r n c b⟩
def TaE (r : Int) (n : Nat) (c : Bt) (i m : Nat) (b : Blk) : St := ⟨[.ptr 0 0 0, .junk, .junk, .slc 2 0 m, .int .i64 (Int.ofNat i)] ++ junks 36, mS r n c b⟩
def obG (m : Nat) (g : Bool) : Bool := impB g (andB (andB (andB (Nat.ble (0 + m) m) true) (Nat.ble (m + 1) few)) true)
theorem obG_true {m : Nat} (hm : m + 1 ≤ few) (g : Bool) : obG m g = true := by
  unfold obG
  rw [Nat.ble_eq_true_of_le (show 0 + m ≤ m by omega), Nat.ble_eq_true_of_le hm, show andB (andB (andB true true) true) true = true from rfl, imp_t rfl]
def obS (n i m : Nat) (g : Bool) : Bool := andB (inB (Int.ofNat i) n) (andB (Nat.blt i n) (andB (obG m g) true))
theorem obS_true {n i m : Nat} (hi : i < n) (hm : m + 1 ≤ few) (g : Bool) : obS n i m g = true := by
  unfold obS
  rw [inB_nat hi, blt_lt hi, obG_true hm]
  rfl
def ij (j : Nat) : AV := .lit (.int .i64 (Int.ofNat j))
theorem stepTa (r : Int) (n : Nat) (c : Bt) (i m : Nat) (t : Tk) : ∀ j, j < 8 → evC JS Try.prog (callF Try.prog extK 20 8) noL 20 (loopN Try.prog 62 7) (Ta r n c i m (tB m t) (ij j)) (kA 2 [0, 3, 4, 5] [0, 3, 4]) =
    some (.node (decide (c.d j i > 0)) (.leaf (.nrm, Ta r n c i (m + 1) (apT [0, 1, 4] m t (i : Int) (j : Int) (c.d j i)) (.int .i64 (Int.ofNat (j + 1))))) (.leaf (.nrm, Ta r n c i m (tB m t) (.int .i64 (Int.ofNat (j + 1))))),
      obS n i m (decide (c.d j i > 0)))
  | 0, _ => by kernel_rfl
  | 1, _ => by kernel_rfl
  | 2, _ => by kernel_rfl
  | 3, _ => by kernel_rfl
  | 4, _ => by kernel_rfl
  | 5, _ => by kernel_rfl
  | 6, _ => by kernel_rfl
  | 7, _ => by kernel_rfl
  | j + 8, h => absurd h (by omega)
theorem endTa (r : Int) (n : Nat) (c : Bt) (i m : Nat) (t : Tk) : evC JS Try.prog (callF Try.prog extK 20 8) noL 20 (loopN Try.prog 62 7) (Ta r n c i m (tB m t) (ij 8)) (kA 2 [0, 3, 4, 5] [0, 3, 4]) =
    some (.leaf (.ext 2, TaE r n c i m (tB m t)), true) := by kernel_rfl
/-- a loop over the eight jars -/
theorem loop8 {call : CallerT} (hcall : CallerTOk Try.prog call) {body : Code} (ws we : List Nat) (g : AX → St → Option (List Nat)) (S : Nat → TL → St) (E : TL → St) (c : Bt) (i : Nat)
    (step : ∀ j L, j < 8 → L.length ≤ 8 * i + j → ∃ t, evC JS Try.prog call noL 20 body (S j L) (kH 2 ws we g) = some (t, true) ∧ XLe t.get (.nrm, S (j + 1) (addT c i j L)))
    (fin : ∀ L, ∃ t, evC JS Try.prog call noL 20 body (S 8 L) (kH 2 ws we g) = some (t, true) ∧ XLe t.get (.ext 2, E L)) : LoopOk Try.prog 2 body (S 0 (outL c i)) (.leaf (.ext 2, E (outL c (i + 1)))) := by
  have key := loop_indH hcall sxMixed (N := 20) (B := 2) (L := noL) (fun _ _ _ _ h => by cases h) ws we g (σ := Nat × TL) (fun x => S x.1 x.2) (fun x => x.1 ≤ 8 ∧ x.2.length ≤ 8 * i + x.1) (fun x => 8 - x.1) (fun x => (.ext 2, E (inn c i (8 - x.1) x.1 x.2)))
    (fun ⟨j, L⟩ ⟨h1, h2⟩ => by
      simp only at h1 h2
      rcases Nat.lt_or_ge j 8 with hj | hj
      · obtain ⟨t, ht, hx⟩ := step j L hj h2
        refine ⟨t, ht, .inl ⟨(j + 1, addT c i j L), hx, ⟨by simp only; omega, by have := addT_len c i j L; simp only; omega⟩, by simp only; omega, ?_⟩⟩
        simp only
        rw [show 8 - j = (8 - (j + 1)) + 1 by omega]
        rfl
      · have : j = 8 := by omega
        subst this
        obtain ⟨t, ht, hx⟩ := fin L
        exact ⟨t, ht, .inr ⟨hx, by simp⟩⟩) (0, outL c i) ⟨by simp, by have := outL_len c i; simpa using this⟩
  exact key
theorem loopTa (r : Int) {n : Nat} (hn : n ≤ 1000) (c : Bt) {i : Nat} (hi : i < n) : LoopOk Try.prog 2 (loopN Try.prog 62 7) (Ta r n c i (outL c i).length (tl (outL c i)) (.int .i64 0)) (.leaf (.ext 2, TaE r n c i (outL c (i + 1)).length (tl (outL c (i + 1))))) :=
  LoopOk.from (loop8 (callF_ok sxApart sxMixed extK_ok (N := 20) 8) [0, 3, 4, 5] [0, 3, 4] (gA 2 [0, 3, 4, 5] [0, 3, 4]) (fun j L => Ta r n c i L.length (tl L) (ij j)) (fun L => TaE r n c i L.length (tl L)) c i
    (fun j L hj hL => by
      refine ⟨_, by rw [show kH 2 [0, 3, 4, 5] [0, 3, 4] (gA 2 [0, 3, 4, 5] [0, 3, 4]) = kA 2 [0, 3, 4, 5] [0, 3, 4] from rfl, show tl L = tB L.length (lc L) from rfl, stepTa r n c i L.length (lc L) j hj, obS_true hi (by rw [few_eq]; omega)], ?_⟩
      unfold addT
      cases decide (c.d j i > 0) with
      | true => exact ⟨rfl, by simp only [Tr.get, cond_true, Ta, List.length_append, List.length_singleton]; rfl, ⟨BLe.refl _, BLe.refl _, apT_le _ _ _ _ _, trivial⟩⟩
      | false => exact ⟨rfl, rfl, HLe.refl _⟩)
    (fun L => ⟨_, endTa r n c i L.length (lc L), XLe.refl _⟩)) ⟨rfl, HLe.refl _⟩
-- the program
def mI (r : Int) (n : Nat) (c : Bt) (b : Blk) : List Blk := [.rows false n 9 c.row, .one true [.int .i64 r, .slc 0 0 n], b]
def Tb (r : Int) (n : Nat) (c : Bt) (i m : Nat) (b : Blk) (j : AV) : St := ⟨[.junk, .ptr 1 0 0, .junk, .slc 2 0 m, .int .i64 (Int.ofNat i), .ptr 3 0 0] ++ junks 4 ++ [.slc 0 0 n, .int .i64 n, .int .i64 (Int.ofNat i)] ++ junks 5 ++ [.agg (d8 (dk c i)), j] ++ junks 15, mI r n c b ++ [.one true (c.row i)]⟩
def TbE (r : Int) (n : Nat) (c : Bt) (i m : Nat) (b : Blk) : St := ⟨[.junk, .ptr 1 0 0, .junk, .slc 2 0 m, .int .i64 (Int.ofNat i)] ++ junks 5 ++ [.slc 0 0 n, .int .i64 n, .int .i64 (Int.ofNat i)] ++ junks 22, mI r n c b⟩
def obI (m : Nat) (g : Bool) : Bool := andB (obG m g) true
theorem obI_true {m : Nat} (hm : m + 1 ≤ few) (g : Bool) : obI m g = true := by unfold obI; rw [obG_true hm]; rfl
theorem stepTb (r : Int) (n : Nat) (c : Bt) (i m : Nat) (t : Tk) : ∀ j, j < 8 → evC JS Try.prog (callF Try.prog extK 20 8) noL 20 (loopN Try.prog 63 7) (Tb r n c i m (tB m t) (ij j)) (kA 2 [1, 3, 4, 5, 10, 11, 12, 18, 19] [1, 3, 4, 10, 11, 12]) =
    some (.node (decide (c.d j i > 0)) (.leaf (.nrm, Tb r n c i (m + 1) (apT [0, 1, 5, 3] m t (i : Int) (j : Int) (c.d j i)) (.int .i64 (Int.ofNat (j + 1))))) (.leaf (.nrm, Tb r n c i m (tB m t) (.int .i64 (Int.ofNat (j + 1))))),
      obI m (decide (c.d j i > 0)))
  | 0, _ => by kernel_rfl
  | 1, _ => by kernel_rfl
  | 2, _ => by kernel_rfl
  | 3, _ => by kernel_rfl
  | 4, _ => by kernel_rfl
  | 5, _ => by kernel_rfl
  | 6, _ => by kernel_rfl
  | 7, _ => by kernel_rfl
  | j + 8, h => absurd h (by omega)
theorem endTb (r : Int) (n : Nat) (c : Bt) (i m : Nat) (t : Tk) : evC JS Try.prog (callF Try.prog extK 20 8) noL 20 (loopN Try.prog 63 7) (Tb r n c i m (tB m t) (ij 8)) (kA 2 [1, 3, 4, 5, 10, 11, 12, 18, 19] [1, 3, 4, 10, 11, 12]) =
    some (.leaf (.ext 2, TbE r n c i m (tB m t)), true) := by kernel_rfl
theorem loopTb (r : Int) {n : Nat} (hn : n ≤ 1000) (c : Bt) {i : Nat} (hi : i < n) : LoopOk Try.prog 2 (loopN Try.prog 63 7) (Tb r n c i (outL c i).length (tl (outL c i)) (.int .i64 0)) (.leaf (.ext 2, TbE r n c i (outL c (i + 1)).length (tl (outL c (i + 1))))) :=
  LoopOk.from (loop8 (callF_ok sxApart sxMixed extK_ok (N := 20) 8) [1, 3, 4, 5, 10, 11, 12, 18, 19] [1, 3, 4, 10, 11, 12] (gA 2 [1, 3, 4, 5, 10, 11, 12, 18, 19] [1, 3, 4, 10, 11, 12]) (fun j L => Tb r n c i L.length (tl L) (ij j)) (fun L => TbE r n c i L.length (tl L)) c i
    (fun j L hj hL => by
      refine ⟨_, by rw [show kH 2 [1, 3, 4, 5, 10, 11, 12, 18, 19] [1, 3, 4, 10, 11, 12] (gA 2 [1, 3, 4, 5, 10, 11, 12, 18, 19] [1, 3, 4, 10, 11, 12]) = kA 2 [1, 3, 4, 5, 10, 11, 12, 18, 19] [1, 3, 4, 10, 11, 12] from rfl, show tl L = tB L.length (lc L) from rfl, stepTb r n c i L.length (lc L) j hj, obI_true (by rw [few_eq]; omega)], ?_⟩
      unfold addT
      cases decide (c.d j i > 0) with
      | true => exact ⟨rfl, by simp only [Tr.get, cond_true, Tb, List.length_append, List.length_singleton]; rfl, ⟨BLe.refl _, BLe.refl _, apT_le _ _ _ _ _, BLe.refl _, trivial⟩⟩
      | false => exact ⟨rfl, rfl, HLe.refl _⟩)
    (fun L => ⟨_, endTb r n c i L.length (lc L), XLe.refl _⟩)) ⟨rfl, HLe.refl _⟩
-- the outer loops
def selI (st : St) : Option Nat := match delit (gt st.slots 4) with | .int .i64 (.ofNat i) => some i | _ => none
noncomputable def LTa (r : Int) (n : Nat) (c : Bt) : LoopOr := loopFam 7 [0, 3, 4, 5] selI (fun i => Ta r n c i (outL c i).length (tl (outL c i)) (.int .i64 0)) (fun i => .leaf (.ext 2, TaE r n c i (outL c (i + 1)).length (tl (outL c (i + 1))))) (fun i => Nat.blt i n) noL
noncomputable def LTb (r : Int) (n : Nat) (c : Bt) : LoopOr := loopFam 7 [1, 3, 4, 5, 10, 11, 12, 18, 19] selI (fun i => Tb r n c i (outL c i).length (tl (outL c i)) (.int .i64 0)) (fun i => .leaf (.ext 2, TbE r n c i (outL c (i + 1)).length (tl (outL c (i + 1))))) (fun i => Nat.blt i n) noL
theorem LTa_ok (r : Int) {n : Nat} (hn : n ≤ 1000) (c : Bt) : LOk Try.prog 2 62 (LTa r n c) := loopFam_all (by decide +kernel) (fun i hi => loopTa r hn c (by simpa [Nat.blt_eq] using hi)) noL_all
theorem LTb_ok (r : Int) {n : Nat} (hn : n ≤ 1000) (c : Bt) {f : Nat} (hf : f = 63) : LOk Try.prog 2 f (LTb r n c) := by
  subst hf
  exact loopFam_all (by decide +kernel) (fun i hi => loopTb r hn c (by simpa [Nat.blt_eq] using hi)) noL_all
def Ua (r : Int) (n : Nat) (c : Bt) (b : Blk) (m : Nat) (i : Int) : St := ⟨[.ptr 0 0 0, .junk, .junk, .slc 2 0 m, .int .i64 i] ++ junks 36, mS r n c b⟩
def UaE (r : Int) (n : Nat) (c : Bt) (b : Blk) (m : Nat) : St := ⟨[.junk, .junk, .junk, .slc 2 0 m] ++ junks 37, mS r n c b⟩
noncomputable def qTa (r : Int) (n : Nat) (c : Bt) (i : Nat) : Bool := andB (Nat.blt i n) (deqS (Ta r n c i (outL c i).length (tl (outL c i)) (.int .i64 0)) (Ta r n c i (outL c i).length (tl (outL c i)) (.int .i64 0)))
noncomputable def qTb (r : Int) (n : Nat) (c : Bt) (i : Nat) : Bool := andB (Nat.blt i n) (deqS (Tb r n c i (outL c i).length (tl (outL c i)) (.int .i64 0)) (Tb r n c i (outL c i).length (tl (outL c i)) (.int .i64 0)))
theorem stepUa (r : Int) (n : Nat) (c : Bt) (i : Nat) : evC JS Try.prog (callF Try.prog extK 20 8) (LTa r n c) 20 (loopN Try.prog 62 4) (Ua r n c (tl (outL c i)) (outL c i).length (Int.ofNat i)) (kA 2 [0, 3, 4] [3]) =
    some (.node (decide (Int.ofNat i < (n : Int))) (.leaf (.nrm, Ua r n c (tl (outL c (i + 1))) (outL c (i + 1)).length (IntKind.i64.wrap (Int.ofNat i + 1)))) (.leaf (.ext 0, UaE r n c (tl (outL c i)) (outL c i).length)), andB (impB (decide (Int.ofNat i < (n : Int))) (andB (qTa r n c i) true)) true) := by kernel_rfl
theorem loopUa (r : Int) {n : Nat} (hn : n ≤ 1000) (c : Bt) : LoopOk Try.prog 2 (loopN Try.prog 62 4) (Ua r n c (tl []) 0 0) (.leaf (.ext 0, UaE r n c (tl (outL c n)) (outL c n).length)) :=
  loop_allH (callF_ok sxApart sxMixed extK_ok (N := 20) 8) sxMixed (N := 20) (inner_ok (LTa_ok r hn c) 4) [0, 3, 4] [3] (gA 2 [0, 3, 4] [3]) (fun i => Ua r n c (tl (outL c i)) (outL c i).length (Int.ofNat i)) n (.ext 0, UaE r n c (tl (outL c n)) (outL c n).length) (fun h => by cases h)
    (fun i hi => by
      have hq : qTa r n c i = true := by unfold qTa; rw [deqS_self, blt_lt hi]; rfl
      refine ⟨_, by rw [show kH 2 [0, 3, 4] [3] (gA 2 [0, 3, 4] [3]) = kA 2 [0, 3, 4] [3] from rfl, stepUa, hq, ofNat_lt, decide_eq_true hi]; rfl, ?_⟩
      simp only [Tr.get, cond_true]
      rw [wrap_i64 (n := Int.ofNat i + 1) (by simp only [Int.ofNat_eq_natCast]; omega) (by simp only [Int.ofNat_eq_natCast]; omega)]
      exact XLe.refl _)
    ⟨_, by rw [show kH 2 [0, 3, 4] [3] (gA 2 [0, 3, 4] [3]) = kA 2 [0, 3, 4] [3] from rfl, stepUa, ofNat_lt, decide_eq_false (Nat.lt_irrefl n), imp_ff], XLe.refl _⟩
def Ub (r : Int) (n : Nat) (c : Bt) (b : Blk) (m : Nat) (i : Int) : St := ⟨[.junk, .ptr 1 0 0, .junk, .slc 2 0 m] ++ junks 6 ++ [.slc 0 0 n, .int .i64 n, .int .i64 i] ++ junks 22, mI r n c b⟩
def UbE (r : Int) (n : Nat) (c : Bt) (b : Blk) (m : Nat) : St := ⟨[.junk, .junk, .junk, .slc 2 0 m] ++ junks 31, mI r n c b⟩
theorem stepUb (r : Int) (n : Nat) (c : Bt) (i : Nat) : evC JS Try.prog (callF Try.prog extK 20 8) (LTb r n c) 20 (loopN Try.prog 63 4) (Ub r n c (tl (outL c i)) (outL c i).length (Int.ofNat i)) (kA 2 [1, 3, 10, 11, 12] [3]) =
    some (.node (decide (Int.ofNat i < (n : Int))) (.leaf (.nrm, Ub r n c (tl (outL c (i + 1))) (outL c (i + 1)).length (IntKind.i64.wrap (Int.ofNat i + 1)))) (.leaf (.ext 0, UbE r n c (tl (outL c i)) (outL c i).length)), andB (impB (decide (Int.ofNat i < (n : Int))) (andB (inB (Int.ofNat i) n) (andB (Nat.blt i n) (andB (qTb r n c i) true)))) true) := by kernel_rfl
theorem loopUb (r : Int) {n : Nat} (hn : n ≤ 1000) (c : Bt) : LoopOk Try.prog 2 (loopN Try.prog 63 4) (Ub r n c (tl []) 0 0) (.leaf (.ext 0, UbE r n c (tl (outL c n)) (outL c n).length)) :=
  loop_allH (callF_ok sxApart sxMixed extK_ok (N := 20) 8) sxMixed (N := 20) (inner_ok (LTb_ok r hn c rfl) 4) [1, 3, 10, 11, 12] [3] (gA 2 [1, 3, 10, 11, 12] [3]) (fun i => Ub r n c (tl (outL c i)) (outL c i).length (Int.ofNat i)) n (.ext 0, UbE r n c (tl (outL c n)) (outL c n).length) (fun h => by cases h)
    (fun i hi => by
      have hq : qTb r n c i = true := by unfold qTb; rw [deqS_self, blt_lt hi]; rfl
      refine ⟨_, by rw [show kH 2 [1, 3, 10, 11, 12] [3] (gA 2 [1, 3, 10, 11, 12] [3]) = kA 2 [1, 3, 10, 11, 12] [3] from rfl, stepUb, hq, inB_nat hi, blt_lt hi, ofNat_lt, decide_eq_true hi]; rfl, ?_⟩
      simp only [Tr.get, cond_true]
      rw [wrap_i64 (n := Int.ofNat i + 1) (by simp only [Int.ofNat_eq_natCast]; omega) (by simp only [Int.ofNat_eq_natCast]; omega)]
      exact XLe.refl _)
    ⟨_, by rw [show kH 2 [1, 3, 10, 11, 12] [3] (gA 2 [1, 3, 10, 11, 12] [3]) = kA 2 [1, 3, 10, 11, 12] [3] from rfl, stepUb, ofNat_lt, decide_eq_false (Nat.lt_irrefl n), imp_ff], XLe.refl _⟩
-- the whole
def zR3 : Blk := .rows true 0 3 (fun i => bif Nat.blt i 0 then (([] : List AV).drop (i * 3)).take 3 else z3)
theorem loopUa' (r : Int) {n : Nat} (hn : n ≤ 1000) (c : Bt) : LoopOk Try.prog 2 (loopN Try.prog 62 4) (Ua r n c zR3 0 0) (.leaf (.ext 0, UaE r n c (tl (outL c n)) (outL c n).length)) := (loopUa r hn c).from ⟨rfl, BLe.refl _, BLe.refl _, BLe.rows fun i hi => absurd hi (Nat.not_lt_zero i), trivial⟩
theorem loopUb' (r : Int) {n : Nat} (hn : n ≤ 1000) (c : Bt) : LoopOk Try.prog 2 (loopN Try.prog 63 4) (Ub r n c zR3 0 0) (.leaf (.ext 0, UbE r n c (tl (outL c n)) (outL c n).length)) := (loopUb r hn c).from ⟨rfl, BLe.refl _, BLe.refl _, BLe.rows fun i hi => absurd hi (Nat.not_lt_zero i), trivial⟩
noncomputable def runTa (r : Int) (n : Nat) (c : Bt) : List AV → List Blk → Option Lf := selRun (runAtH [.ptr 0 0 0] (bx r n c) (.leaf (.slc 2 0 (outL c n).length, some (bx r n c ++ [tl (outL c n)]))) (Nat.ble n 1000))
noncomputable def okTa (r : Int) (n : Nat) (c : Bt) : Bool := andB (deq [.ptr 0 0 0] [.ptr 0 0 0]) (andB (deqH (bx r n c) (bx r n c)) (Nat.ble n 1000))
theorem okTa_true (r : Int) {n : Nat} (hn : n ≤ 1000) (c : Bt) : okTa r n c = true := by unfold okTa; rw [deq_self, deqH_self, Nat.ble_eq_true_of_le hn]; rfl
theorem taS (r : Int) (n : Nat) (c : Bt) : SumOk Try.prog 62 (runTa r n c) := sum_atH sxApart sxMixed extK_ok (loopAt 4 [0, 3, 4] (Ua r n c zR3 0 0) (.leaf (.ext 0, UaE r n c (tl (outL c n)) (outL c n).length)) noL) (N := 20) (d := 8) fun hg => by
  refine ⟨loopAt_all (B := 2) (by decide +kernel) (loopUa' r (Nat.le_of_ble_eq_true hg) c) noL_all, _, ?_, LLe.refl _⟩
  have h : evF Try.prog extK (loopAt 4 [0, 3, 4] (Ua r n c zR3 0 0) (.leaf (.ext 0, UaE r n c (tl (outL c n)) (outL c n).length)) noL) 20 8 62 [.ptr 0 0 0] (bx r n c) = some (.leaf (.slc 2 0 (outL c n).length, some (bx r n c ++ [tl (outL c n)])), andB (deqS (Ua r n c zR3 0 0) (Ua r n c zR3 0 0)) true) := by kernel_rfl
  rw [deqS_self] at h
  exact h
noncomputable def runTb (r : Int) (n : Nat) (c : Bt) : List AV → List Blk → Option Lf := selRun (runAtH (AV1 r n) (Bt.ro1 n c) (.leaf (.slc 2 0 (outL c n).length, some (mI r n c (tl (outL c n))))) (Nat.ble n 1000))
noncomputable def okTb (r : Int) (n : Nat) (c : Bt) : Bool := andB (deq (AV1 r n) (AV1 r n)) (andB (deqH (Bt.ro1 n c) (Bt.ro1 n c)) (Nat.ble n 1000))
theorem okTb_true (r : Int) {n : Nat} (hn : n ≤ 1000) (c : Bt) : okTb r n c = true := by unfold okTb; rw [deq_self, deqH_self, Nat.ble_eq_true_of_le hn]; rfl
theorem tbI (r : Int) (n : Nat) (c : Bt) : SumOk Try.prog 63 (runTb r n c) := sum_atH sxApart sxMixed extK_ok (loopAt 4 [1, 3, 10, 11, 12] (Ub r n c zR3 0 0) (.leaf (.ext 0, UbE r n c (tl (outL c n)) (outL c n).length)) noL) (N := 20) (d := 8) fun hg => by
  refine ⟨loopAt_all (B := 1) (by decide +kernel) ((loopUb' r (Nat.le_of_ble_eq_true hg) c).less (by decide) (by simp [Ub, mI])) noL_all, _, ?_, LLe.refl _⟩
  have h : evF Try.prog extK (loopAt 4 [1, 3, 10, 11, 12] (Ub r n c zR3 0 0) (.leaf (.ext 0, UbE r n c (tl (outL c n)) (outL c n).length)) noL) 20 8 63 (AV1 r n) (Bt.ro1 n c) = some (.leaf (.slc 2 0 (outL c n).length, some (mI r n c (tl (outL c n)))), andB (deqS (Ub r n c zR3 0 0) (Ub r n c zR3 0 0)) true) := by kernel_rfl
  rw [deqS_self] at h
  exact h
end Go.Proofs.Ytllonddgbjgmdaa.W5
