/- Ink of a grid: what is drawn. -/
import Derived.Test.YtofheiggdbhbjaaSxI8
set_option linter.unusedVariables false
set_option linter.unusedSimpArgs false
set_option maxRecDepth 100000
namespace Go.Proofs.Ytofheiggdbhbjaa.I9
open Go.Sx Go.Sx.R0 Go.Sx.C5 Go.Sx.C1 Go.Sx.Fl Go.Sx.Ink Go.Proofs.Ytofheiggdbhbjaa.I8

def ur (g : Nat → Int) (i : Nat) : List AV := [.int .u8 (g i)]
def qj (n j : Nat) : Bool := decide (IntKind.i64.wrap (Int.ofNat j + 1) ≤ (n : Int))
def bt (n : Nat) (g : Nat → Int) (j : Nat) : Int := bif decide (Int.ofNat j < (n : Int)) then IntKind.i64.wrap (g ((Int.ofNat j).toNat + 0)) else 0
def sd (n : Nat) (g : Nat → Int) : Nat → Int
  | 0 => 0
  | j + 1 => IntKind.u64.wrap (IntKind.u64.wrap (IntKind.u64.wrap (sd n g j * 6364136223846793005) + IntKind.u64.wrap (bt n g j)) + 1442695040888963407)
def rt (n : Nat) (g : Nat → Int) (j : Nat) : Int := IntKind.i64.wrap (bitsOp .and .u64 ((sd n g (j + 1)).fdiv (2 ^ min (Int.toNat 40) IntKind.u64.bits)) 255)
def xv (n : Nat) (g : Nat → Int) (m : Int) (j : Nat) : Int := bif qj n j then (bt n g j).tmod m else (rt n g j).tmod m
noncomputable def fc (x : Int) : AV := .flt .f32 (gr w32 x)
noncomputable def TC (n : Nat) (g : Nat → Int) : Nat → Nat → List AV → Tr (AV × Option (List Blk))
  | 0, _, acc => .leaf (.agg acc, none)
  | k + 1, j, acc => .node (qj n j) (TC n g k (j + 1) (acc ++ [fc ((bt n g j).tmod 33)])) (TC n g k (j + 1) (acc ++ [fc ((rt n g j).tmod 33)]))
def oj (n j : Nat) : Bool := impB (decide (Int.ofNat j < (n : Int))) (andB (inB (Int.ofNat j) n) (andB (Nat.blt ((Int.ofNat j).toNat + 0) n) true))
def OC (n : Nat) : Nat → Nat → Bool
  | 0, _ => true
  | 1, j => andB (andB (andB (andB (oj n j) true) true) true) true
  | k + 1, j => andB (andB (andB (andB (oj n j) true) true) true) (andB (impB (qj n j) (OC n k (j + 1))) (impB (!qj n j) (OC n k (j + 1))))
theorem oj_true (n j : Nat) : oj n j = true := by
  unfold oj
  by_cases h : j < n
  · rw [inB_nat h, show Nat.blt ((Int.ofNat j).toNat + 0) n = true from blt_lt h]
    cases decide (Int.ofNat j < (n : Int)) <;> rfl
  · rw [ofNat_lt, decide_eq_false h]
    exact Go.Sx.R0.imp_f _
theorem OC_true (n : Nat) : ∀ k j, OC n k j = true
  | 0, _ => rfl
  | 1, j => by
    show andB (andB (andB (andB (oj n j) true) true) true) true = true
    rw [oj_true]; rfl
  | k + 2, j => by
    show andB (andB (andB (andB (oj n j) true) true) true) (andB (impB (qj n j) (OC n (k + 1) (j + 1))) (impB (!qj n j) (OC n (k + 1) (j + 1)))) = true
    rw [oj_true, OC_true n (k + 1) (j + 1)]
    cases qj n j <;> rfl
-- (these three take a while)
theorem eC (n : Nat) (g : Nat → Int) : evF Try.prog extK noL 20 8 5 [.slc 0 0 n] [.rows false n 1 (ur g)] = some (TC n g 4 0 [], OC n 4 0) := by kernel_rfl
theorem TC_get (n : Nat) (g : Nat → Int) : ∀ (k j : Nat) (acc : List AV), (TC n g k j acc).get = (.agg (acc ++ (List.range k).map fun i => fc (xv n g 33 (j + i))), none)
  | 0, j, acc => by simp [TC, Tr.get]
  | k + 1, j, acc => by
    have e : (List.range (k + 1)).map (fun i => fc (xv n g 33 (j + i))) = fc (xv n g 33 j) :: (List.range k).map fun i => fc (xv n g 33 (j + 1 + i)) := by
      rw [List.range_succ_eq_map, List.map_cons, List.map_map]
      congr 1
      apply List.map_congr_left
      intro i _
      show fc (xv n g 33 (j + (i + 1))) = _
      rw [show j + (i + 1) = j + 1 + i by omega]
    rw [e]
    unfold TC
    cases hq : qj n j with
    | true =>
      show (TC n g k (j + 1) _).get = _
      rw [TC_get n g k (j + 1)]
      have : xv n g 33 j = (bt n g j).tmod 33 := by unfold xv; rw [hq]; rfl
      rw [this]; simp
    | false =>
      show (TC n g k (j + 1) _).get = _
      rw [TC_get n g k (j + 1)]
      have : xv n g 33 j = (rt n g j).tmod 33 := by unfold xv; rw [hq]; rfl
      rw [this]; simp
theorem eP (n : Nat) (g : Nat → Int) : evF Try.prog extK noL 20 8 6 [.slc 0 0 n, .lit (.int .i64 17)] [.rows false n 1 (ur g)] = some (.leaf (.int .i64 (xv n g 17 0), none), andB (andB (andB (andB (oj n 0) true) true) true) true) := by kernel_rfl
theorem eP9 (n : Nat) (g : Nat → Int) : evF Try.prog extK noL 20 8 6 [.slc 0 0 n, .lit (.int .i64 9)] [.rows false n 1 (ur g)] = some (.leaf (.int .i64 (xv n g 9 0), none), andB (andB (andB (andB (oj n 0) true) true) true) true) := by kernel_rfl
-- in their ranges
theorem and255 (x : Int) : 0 ≤ bitsOp .and .u64 x 255 ∧ bitsOp .and .u64 x 255 ≤ 255 := by
  rw [bitsOp_eq]
  unfold bitsReal
  simp only
  show 0 ≤ IntKind.u64.wrap ((BitVec.ofInt 64 x &&& BitVec.ofInt 64 255).toNat : Nat) ∧ IntKind.u64.wrap ((BitVec.ofInt 64 x &&& BitVec.ofInt 64 255).toNat : Nat) ≤ 255
  have e : (BitVec.ofInt 64 255).toNat = 255 := by decide
  rw [BitVec.toNat_and, e]
  have h := @Nat.and_le_right (BitVec.ofInt 64 x).toNat 255
  generalize (BitVec.ofInt 64 x).toNat &&& 255 = r at *
  rw [IntWalk.u64_in (r : Int) ⟨by omega, by omega⟩]
  omega
theorem xv_lt {n : Nat} {g : Nat → Int} (hg : ∀ i, i < n → 0 ≤ g i ∧ g i ≤ 255) {m : Nat} (hm : 0 < m) (j : Nat) : ∃ k : Nat, k < m ∧ xv n g (m : Int) j = Int.ofNat k := by
  have key : ∀ x : Int, 0 ≤ x → ∃ k : Nat, k < m ∧ x.tmod (m : Int) = Int.ofNat k := fun x hx => by
    obtain ⟨y, rfl⟩ : ∃ y : Nat, x = (y : Int) := ⟨x.toNat, by omega⟩
    exact ⟨y % m, Nat.mod_lt _ hm, rfl⟩
  unfold xv
  cases qj n j with
  | true =>
    refine key _ ?_
    unfold bt
    by_cases h : j < n
    · rw [ofNat_lt, decide_eq_true h]
      obtain ⟨h0, h1⟩ := hg j h
      show 0 ≤ IntKind.i64.wrap (g j)
      rw [wrap_i64 (by omega) (by omega)]
      exact h0
    · rw [ofNat_lt, decide_eq_false h]
      exact Int.le_refl 0
  | false =>
    refine key _ ?_
    unfold rt
    obtain ⟨h0, h1⟩ := and255 ((sd n g (j + 1)).fdiv (2 ^ min (Int.toNat 40) IntKind.u64.bits))
    rw [wrap_i64 (by omega) (by omega)]
    exact h0
end Go.Proofs.Ytofheiggdbhbjaa.I9
