/- Texts of one claim, put together. -/
import Derived.Test.YtllonddgbjgmdaaG8
set_option linter.unusedVariables false
set_option linter.unusedSimpArgs false
set_option maxRecDepth 100000
namespace Go.Proofs.Ytllonddgbjgmdaa.P11
open Go.Sx Go.Sx.R0 Go.RowKit Go.Proofs.Ytllonddgbjgmdaa.W1 Go.Proofs.Ytllonddgbjgmdaa.W3 Go.Proofs.Ytllonddgbjgmdaa.W5 Go.Proofs.Ytllonddgbjgmdaa.W9 Go.Proofs.Ytllonddgbjgmdaa.W10 Go.Proofs.Ytllonddgbjgmdaa.P1 Go.Proofs.Ytllonddgbjgmdaa.P2 Go.Proofs.Ytllonddgbjgmdaa.P3 Go.Proofs.Ytllonddgbjgmdaa.P4 Go.Proofs.Ytllonddgbjgmdaa.P5 Go.Proofs.Ytllonddgbjgmdaa.P6 Go.Proofs.Ytllonddgbjgmdaa.P7 Go.Proofs.Ytllonddgbjgmdaa.P8 Go.Proofs.Ytllonddgbjgmdaa.P9 Go.Proofs.Ytllonddgbjgmdaa.P10

def pmI (R n m : Nat) (c : Bt) (d : Dd) (kf sf : Nat → List AV) (F : Fl) : List Blk :=
  [.rows false n 9 c.row, .rows false m 2 d.row, .one true [.int .i64 (Int.ofNat R), .slc 0 0 n, .slc 3 0 (mOf c n), .slc 4 0 n, .slc 5 0 R, .slc 6 0 (mOf c n), .slc 7 0 (mOf c n), .slc 8 0 F.w],
   .rows true (mOf c n) 3 (tsOf c n).row, .rows true n 8 F.vrow, .rows true R 1 (canT 9 (mOf c n) R), .rows true (mOf c n) 1 kf, .rows true (mOf c n) 1 sf, .rows true F.w 2 F.wrow] ++ bks (mOf c n) F R
def m0I (R : Nat) : List Nat := [2, 0, 3, 4, 5, 6, 7, 8] ++ rl 9 R
def FI (R n : Nat) (c : Bt) (F : Fl) : Fl := toFI (memI (enS R n c) R (bfz (m0I R) 9 (mOf c n) R) F)
noncomputable def KQ (R n : Nat) (c : Bt) : CallerT := addK 70 (selRunR (refX R) (runDI R)) (addK 69 (runBI R n c) extK)
noncomputable def qDI (R n : Nat) (c : Bt) (d : Dd) (k : Nat) (F : Fl) : Bool := pB (isDI (memI (enS R n c) R (bfz (m0I R) 9 (mOf c n) R) F) R (d.a k))
-- after
def slA (m : Nat) (dn k : AV) : List AV := [.junk, .junk, .junk, .junk, .junk, .junk, .ptr 2 0 0, dn, .junk, .junk, .junk, .junk, .slc 1 0 m, .int .i64 m, k] ++ junks 12
def AS (R n m : Nat) (c : Bt) (d : Dd) (k : Nat) (dn : Int) (F : Fl) : St := ⟨slA m (.int .i64 dn) (.int .i64 (Int.ofNat k)), pmI R n m c d F.krow F.srow F⟩
def AE (R n m : Nat) (c : Bt) (d : Dd) (dn : Int) (F : Fl) : St := ⟨[.junk, .junk, .junk, .junk, .junk, .junk, .ptr 2 0 0, .int .i64 dn] ++ junks 19, pmI R n m c d F.krow F.srow F⟩
def nxA (R n m : Nat) (c : Bt) (d : Dd) (k : Nat) (z : Bool) (dn : Int) (kf sf : Nat → List AV) (F : Fl) : Tr (AX × St) :=
  .leaf (.nrm, ⟨slA m (.int .i64 (cond z (IntKind.i64.wrap (dn + 1)) dn)) (.int .i64 (IntKind.i64.wrap (Int.ofNat k + 1))), pmI R n m c d kf sf F⟩)
def tA (R n m : Nat) (c : Bt) (d : Dd) (k : Nat) (dn : Int) (F : Fl) : Tr (AX × St) :=
  let z := code (enS R n c) F (d.k k) (d.a k) == 0
  let G := P4.step (enS R n c) R (FI R n c F) (d.k k) (d.a k)
  .node (decide (Int.ofNat k < (m : Int)))
    (.node (d.k k == 5) (nxA R n m c d k z dn F.krow F.krow F)
    (.node (d.k k == 6) (nxA R n m c d k z dn F.srow F.srow F)
    (.node (wchI (enS R n c) F (d.k k) (d.a k)) (nxA R n m c d k z dn G.krow G.srow G) (nxA R n m c d k z dn G.krow G.srow G))))
    (.leaf (.ext 0, AE R n m c d dn F))
noncomputable def oA (R n m : Nat) (c : Bt) (d : Dd) (k : Nat) (F : Fl) : Bool :=
  andB (impB (decide (Int.ofNat k < (m : Int))) (andB (inB (Int.ofNat k) m) (andB (Nat.blt k m) (andB (qDI R n c d k F) true)))) true
-- RefusedDeed
def slR (m : Nat) (k : AV) : List AV := [.junk, .junk, .junk, .junk, .junk, .junk, .junk, .junk, .ptr 2 0 0] ++ junks 11 ++ [.slc 1 0 m, .int .i64 m, k] ++ junks 12
def RS (R n m : Nat) (c : Bt) (d : Dd) (k : Nat) (F : Fl) : St := ⟨slR m (.int .i64 (Int.ofNat k)), pmI R n m c d F.krow F.srow F⟩
def RE (n m : Nat) (c : Bt) (d : Dd) : St := ⟨junks 35, [.rows false n 9 c.row, .rows false m 2 d.row]⟩
def RX (n m : Nat) (c : Bt) (d : Dd) (k : Nat) (x : Int) : St := ⟨[.junk, .junk, .junk, .junk, .int .i64 (Int.ofNat k), .int .i64 x, .int .i64 0] ++ junks 28, [.rows false n 9 c.row, .rows false m 2 d.row]⟩
def nxR (R n m : Nat) (c : Bt) (d : Dd) (k : Nat) (x : Int) (kf sf : Nat → List AV) (F : Fl) : Tr (AX × St) :=
  .node (!(x == 0)) (.leaf (.ret, RX n m c d k x)) (.leaf (.nrm, ⟨slR m (.int .i64 (IntKind.i64.wrap (Int.ofNat k + 1))), pmI R n m c d kf sf F⟩))
def tR (R n m : Nat) (c : Bt) (d : Dd) (k : Nat) (F : Fl) : Tr (AX × St) :=
  let x := code (enS R n c) F (d.k k) (d.a k)
  let G := P4.step (enS R n c) R (FI R n c F) (d.k k) (d.a k)
  .node (decide (Int.ofNat k < (m : Int)))
    (.node (d.k k == 5) (nxR R n m c d k x F.krow F.krow F)
    (.node (d.k k == 6) (nxR R n m c d k x F.srow F.srow F)
    (.node (wchI (enS R n c) F (d.k k) (d.a k)) (nxR R n m c d k x G.krow G.srow G) (nxR R n m c d k x G.krow G.srow G))))
    (.leaf (.ext 0, RE n m c d))
end Go.Proofs.Ytllonddgbjgmdaa.P11
set_option linter.unusedVariables false
set_option linter.unusedSimpArgs false
set_option maxRecDepth 100000
namespace Go.Proofs.Ytllonddgbjgmdaa.P11
open Go.Sx Go.Sx.R0 Go.RowKit Go.Proofs.Ytllonddgbjgmdaa.W1 Go.Proofs.Ytllonddgbjgmdaa.W3 Go.Proofs.Ytllonddgbjgmdaa.W5 Go.Proofs.Ytllonddgbjgmdaa.W9 Go.Proofs.Ytllonddgbjgmdaa.W10 Go.Proofs.Ytllonddgbjgmdaa.P1 Go.Proofs.Ytllonddgbjgmdaa.P2 Go.Proofs.Ytllonddgbjgmdaa.P3 Go.Proofs.Ytllonddgbjgmdaa.P4 Go.Proofs.Ytllonddgbjgmdaa.P5 Go.Proofs.Ytllonddgbjgmdaa.P6 Go.Proofs.Ytllonddgbjgmdaa.P7 Go.Proofs.Ytllonddgbjgmdaa.P8 Go.Proofs.Ytllonddgbjgmdaa.P9 Go.Proofs.Ytllonddgbjgmdaa.P10

theorem stA1 (n m : Nat) (c : Bt) (d : Dd) (k : Nat) (dn : Int) (F : Fl) : (evC JS Try.prog (callF Try.prog (KQ 1 n c) 20 8) noL 20 (loopN Try.prog 73 4) (AS 1 n m c d k dn F) (kH 2 [6, 7, 12, 13, 14] [6, 7] (gX 1 2 6 [6, 7, 12, 13, 14] [6, 7]))).map (fun x => (mapTr (cutX 1 5) x.1, x.2)) = some (tA 1 n m c d k dn F, P11.oA 1 n m c d k F) := by kernel_rfl
theorem stR1 (n m : Nat) (c : Bt) (d : Dd) (k : Nat) (F : Fl) : (evC JS Try.prog (callF Try.prog (KQ 1 n c) 20 8) noL 20 (loopN Try.prog 35 7) (RS 1 n m c d k F) (kH 2 [8, 20, 21, 22] [4, 5, 6] (gX 1 2 8 [8, 20, 21, 22] [4, 5, 6]))).map (fun x => (mapTr (cutX 1 5) x.1, x.2)) = some (tR 1 n m c d k F, P11.oA 1 n m c d k F) := by kernel_rfl
theorem stA2 (n m : Nat) (c : Bt) (d : Dd) (k : Nat) (dn : Int) (F : Fl) : (evC JS Try.prog (callF Try.prog (KQ 2 n c) 20 8) noL 20 (loopN Try.prog 73 4) (AS 2 n m c d k dn F) (kH 2 [6, 7, 12, 13, 14] [6, 7] (gX 2 2 6 [6, 7, 12, 13, 14] [6, 7]))).map (fun x => (mapTr (cutX 2 5) x.1, x.2)) = some (tA 2 n m c d k dn F, P11.oA 2 n m c d k F) := by kernel_rfl
theorem stR2 (n m : Nat) (c : Bt) (d : Dd) (k : Nat) (F : Fl) : (evC JS Try.prog (callF Try.prog (KQ 2 n c) 20 8) noL 20 (loopN Try.prog 35 7) (RS 2 n m c d k F) (kH 2 [8, 20, 21, 22] [4, 5, 6] (gX 2 2 8 [8, 20, 21, 22] [4, 5, 6]))).map (fun x => (mapTr (cutX 2 5) x.1, x.2)) = some (tR 2 n m c d k F, P11.oA 2 n m c d k F) := by kernel_rfl
theorem stA3 (n m : Nat) (c : Bt) (d : Dd) (k : Nat) (dn : Int) (F : Fl) : (evC JS Try.prog (callF Try.prog (KQ 3 n c) 20 8) noL 20 (loopN Try.prog 73 4) (AS 3 n m c d k dn F) (kH 2 [6, 7, 12, 13, 14] [6, 7] (gX 3 2 6 [6, 7, 12, 13, 14] [6, 7]))).map (fun x => (mapTr (cutX 3 5) x.1, x.2)) = some (tA 3 n m c d k dn F, P11.oA 3 n m c d k F) := by kernel_rfl
theorem stR3 (n m : Nat) (c : Bt) (d : Dd) (k : Nat) (F : Fl) : (evC JS Try.prog (callF Try.prog (KQ 3 n c) 20 8) noL 20 (loopN Try.prog 35 7) (RS 3 n m c d k F) (kH 2 [8, 20, 21, 22] [4, 5, 6] (gX 3 2 8 [8, 20, 21, 22] [4, 5, 6]))).map (fun x => (mapTr (cutX 3 5) x.1, x.2)) = some (tR 3 n m c d k F, P11.oA 3 n m c d k F) := by kernel_rfl
theorem stA4 (n m : Nat) (c : Bt) (d : Dd) (k : Nat) (dn : Int) (F : Fl) : (evC JS Try.prog (callF Try.prog (KQ 4 n c) 20 8) noL 20 (loopN Try.prog 73 4) (AS 4 n m c d k dn F) (kH 2 [6, 7, 12, 13, 14] [6, 7] (gX 4 2 6 [6, 7, 12, 13, 14] [6, 7]))).map (fun x => (mapTr (cutX 4 5) x.1, x.2)) = some (tA 4 n m c d k dn F, P11.oA 4 n m c d k F) := by kernel_rfl
theorem stR4 (n m : Nat) (c : Bt) (d : Dd) (k : Nat) (F : Fl) : (evC JS Try.prog (callF Try.prog (KQ 4 n c) 20 8) noL 20 (loopN Try.prog 35 7) (RS 4 n m c d k F) (kH 2 [8, 20, 21, 22] [4, 5, 6] (gX 4 2 8 [8, 20, 21, 22] [4, 5, 6]))).map (fun x => (mapTr (cutX 4 5) x.1, x.2)) = some (tR 4 n m c d k F, P11.oA 4 n m c d k F) := by kernel_rfl
end Go.Proofs.Ytllonddgbjgmdaa.P11
set_option linter.unusedVariables false
set_option linter.unusedSimpArgs false
set_option maxRecDepth 100000
namespace Go.Proofs.Ytllonddgbjgmdaa.P12
open Go.Sx Go.Sx.R0 Go.RowKit Go.Proofs.Ytllonddgbjgmdaa.W1 Go.Proofs.Ytllonddgbjgmdaa.W3 Go.Proofs.Ytllonddgbjgmdaa.W5 Go.Proofs.Ytllonddgbjgmdaa.W9 Go.Proofs.Ytllonddgbjgmdaa.W10 Go.Proofs.Ytllonddgbjgmdaa.P1 Go.Proofs.Ytllonddgbjgmdaa.P2 Go.Proofs.Ytllonddgbjgmdaa.P3 Go.Proofs.Ytllonddgbjgmdaa.P4 Go.Proofs.Ytllonddgbjgmdaa.P5 Go.Proofs.Ytllonddgbjgmdaa.P6 Go.Proofs.Ytllonddgbjgmdaa.P7 Go.Proofs.Ytllonddgbjgmdaa.P8 Go.Proofs.Ytllonddgbjgmdaa.P9 Go.Proofs.Ytllonddgbjgmdaa.P10 Go.Proofs.Ytllonddgbjgmdaa.P11

theorem bfzI_can {R : Nat} (h1 : 1 ≤ R) (h2 : R ≤ 4) (M : Nat) : ∀ i, i < R → bfz (m0I R) 9 M R i = can 8 M i := fun i hi => by
  have hR : R = 1 ∨ R = 2 ∨ R = 3 ∨ R = 4 := by omega
  have hi' : i = 0 ∨ i = 1 ∨ i = 2 ∨ i = 3 := by omega
  rcases hR with rfl | rfl | rfl | rfl <;> rcases hi' with rfl | rfl | rfl | rfl <;> first | rfl | omega
theorem oA_true {R n m : Nat} {c : Bt} {d : Dd} {k : Nat} {F : Fl} (h1 : 1 ≤ R) (h2 : R ≤ 4) (hn : n ≤ 1000) (hF : FlOk (enS R n c) R F) (hd : ∀ i, i < m → 0 ≤ d.a i ∧ d.a i ≤ 999) (hk : k < m) : P11.oA R n m c d k F = true := by
  have hf := few_eq
  have hM := mOf_le c n
  have hq : qDI R n c d k F = true := pB_true ⟨n, mOf c n, c, tsOf c n, F, rfl, bfzI_can h1 h2 _, tsOf_ok R n c, hF, (hd k hk).1, (hd k hk).2, by show mOf c n ≤ few; omega⟩
  unfold P11.oA
  rw [hq, inB_nat hk, blt_lt hk]
  cases decide (Int.ofNat k < (m : Int)) <;> rfl
theorem oA_last (R n m : Nat) (c : Bt) (d : Dd) (F : Fl) : P11.oA R n m c d m F = true := by unfold P11.oA; rw [ofNat_lt, decide_eq_false (Nat.lt_irrefl m), imp_ff]
theorem FI_eq {R n : Nat} {c : Bt} {F : Fl} (h1 : 1 ≤ R) (h2 : R ≤ 4) (hF : FlOk (enS R n c) R F) : FI R n c F = F := toFI_eq h1 h2 _ _ hF.1
def dnc (E : En) (R : Nat) (d : Dd) : Nat → Nat
  | 0 => 0
  | k + 1 => cond (sc E R d k == 0) (dnc E R d k + 1) (dnc E R d k)
theorem dnc_le (E : En) (R : Nat) (d : Dd) : ∀ k, dnc E R d k ≤ k
  | 0 => Nat.le_refl _
  | k + 1 => by
    have := dnc_le E R d k
    unfold dnc
    cases (sc E R d k == 0) with
    | true => simp only [cond_true]; omega
    | false => simp only [cond_false]; omega
theorem dnc_int (E : En) (R : Nat) (d : Dd) {k : Nat} (h : k ≤ 1000) : cond (sc E R d k == 0) (IntKind.i64.wrap ((dnc E R d k : Int) + 1)) (dnc E R d k : Int) = (dnc E R d (k + 1) : Int) := by
  have := dnc_le E R d k
  rw [show dnc E R d (k + 1) = cond (sc E R d k == 0) (dnc E R d k + 1) (dnc E R d k) from rfl]
  cases (sc E R d k == 0) with
  | true => simp only [cond_true]; rw [wrap_i64 (by omega) (by omega)]; omega
  | false => rfl
def AK (R n m : Nat) (c : Bt) (d : Dd) (k : Nat) : St := AS R n m c d k (dnc (enS R n c) R d k) (sq (enS R n c) R d k)
def RK (R n m : Nat) (c : Bt) (d : Dd) (k : Nat) : St := RS R n m c d k (sq (enS R n c) R d k)
theorem sq5 {E : En} {R : Nat} {d : Dd} {k : Nat} (h5 : (d.k k == 5) = true) : sq E R d (k + 1) = { sq E R d k with sv := (sq E R d k).kn } := by
  show P4.step _ _ _ _ _ = _
  unfold P4.step code
  rw [h5]; rfl
theorem sq6 {E : En} {R : Nat} {d : Dd} {k : Nat} (h5 : (d.k k == 5) = false) (h6 : (d.k k == 6) = true) : sq E R d (k + 1) = { sq E R d k with kn := (sq E R d k).sv } := by
  show P4.step _ _ _ _ _ = _
  unfold P4.step code
  rw [h5, h6]; rfl
theorem tA_le {R n m : Nat} {c : Bt} {d : Dd} {k : Nat} (h1 : 1 ≤ R) (h2 : R ≤ 4) (hm : m ≤ 1000) (hF : FlOk (enS R n c) R (sq (enS R n c) R d k)) (hk : k < m) : XLe (tA R n m c d k (dnc (enS R n c) R d k) (sq (enS R n c) R d k)).get (.nrm, AK R n m c d (k + 1)) := by
  have hw : IntKind.i64.wrap (Int.ofNat k + 1) = Int.ofNat (k + 1) := wrap_i64 (n := Int.ofNat k + 1) (by simp only [Int.ofNat_eq_natCast]; omega) (by simp only [Int.ofNat_eq_natCast]; omega)
  have hsl : (slA m (.int .i64 (cond (sc (enS R n c) R d k == 0) (IntKind.i64.wrap ((dnc (enS R n c) R d k : Int) + 1)) (dnc (enS R n c) R d k : Int))) (.int .i64 (IntKind.i64.wrap (Int.ofNat k + 1)))).map delit = (slA m (.int .i64 (dnc (enS R n c) R d (k + 1) : Int)) (.int .i64 (Int.ofNat (k + 1)))).map delit := by rw [hw, dnc_int _ _ _ (by omega)]
  have hFI := FI_eq h1 h2 hF
  unfold tA
  rw [hFI, ofNat_lt, decide_eq_true hk]
  unfold AK AS
  show XLe (Tr.get (.node (d.k k == 5) _ (.node (d.k k == 6) _ (.node _ _ _)))) _
  cases h5 : (d.k k == 5) with
  | true =>
    rw [sq5 h5]
    exact ⟨rfl, hsl, HLe.refl _⟩
  | false =>
    cases h6 : (d.k k == 6) with
    | true =>
      rw [sq6 h5 h6]
      exact ⟨rfl, hsl, HLe.refl _⟩
    | false =>
      cases wchI (enS R n c) (sq (enS R n c) R d k) (d.k k) (d.a k) with
      | true => exact ⟨rfl, hsl, HLe.refl _⟩
      | false => exact ⟨rfl, hsl, HLe.refl _⟩
def okC (R n : Nat) (c : Bt) (d : Dd) (k : Nat) : Bool := sc (enS R n c) R d k == 0
theorem nxR_t {R n m : Nat} {c : Bt} {d : Dd} {k : Nat} {x : Int} {kf sf : Nat → List AV} {F : Fl} (h : (x == 0) = true) : (nxR R n m c d k x kf sf F).get = (.nrm, ⟨slR m (.int .i64 (IntKind.i64.wrap (Int.ofNat k + 1))), pmI R n m c d kf sf F⟩) := by
  unfold nxR; rw [h]; rfl
theorem nxR_f {R n m : Nat} {c : Bt} {d : Dd} {k : Nat} {x : Int} {kf sf : Nat → List AV} {F : Fl} (h : (x == 0) = false) : (nxR R n m c d k x kf sf F).get = (.ret, RX n m c d k x) := by
  unfold nxR; rw [h]; rfl
theorem tR_le {R n m : Nat} {c : Bt} {d : Dd} {k : Nat} (h1 : 1 ≤ R) (h2 : R ≤ 4) (hm : m ≤ 1000) (hF : FlOk (enS R n c) R (sq (enS R n c) R d k)) (hk : k < m) :
    (okC R n c d k = true → XLe (tR R n m c d k (sq (enS R n c) R d k)).get (.nrm, RK R n m c d (k + 1))) ∧ (okC R n c d k = false → XLe (tR R n m c d k (sq (enS R n c) R d k)).get (.ret, RX n m c d k (sc (enS R n c) R d k))) := by
  have hw : IntKind.i64.wrap (Int.ofNat k + 1) = Int.ofNat (k + 1) := wrap_i64 (n := Int.ofNat k + 1) (by simp only [Int.ofNat_eq_natCast]; omega) (by simp only [Int.ofNat_eq_natCast]; omega)
  have hsl : (slR m (.int .i64 (IntKind.i64.wrap (Int.ofNat k + 1)))).map delit = (slR m (.int .i64 (Int.ofNat (k + 1)))).map delit := by rw [hw]
  have hFI := FI_eq h1 h2 hF
  unfold tR
  rw [hFI, ofNat_lt, decide_eq_true hk]
  unfold RK RS
  show (okC R n c d k = true → XLe (Tr.get (.node (d.k k == 5) _ (.node (d.k k == 6) _ (.node _ _ _)))) _) ∧ (okC R n c d k = false → XLe (Tr.get (.node (d.k k == 5) _ (.node (d.k k == 6) _ (.node _ _ _)))) _)
  unfold okC sc
  cases h5 : (d.k k == 5) with
  | true =>
    refine ⟨fun hc => ?_, fun hc => ?_⟩
    · rw [sq5 h5]
      simp only [Tr.get, cond_true, cond_false]
      rw [nxR_t hc]
      exact ⟨rfl, hsl, HLe.refl _⟩
    · simp only [Tr.get, cond_true, cond_false]
      rw [nxR_f hc]
      exact XLe.refl _
  | false =>
    cases h6 : (d.k k == 6) with
    | true =>
      refine ⟨fun hc => ?_, fun hc => ?_⟩
      · rw [sq6 h5 h6]
        simp only [Tr.get, cond_true, cond_false]
        rw [nxR_t hc]
        exact ⟨rfl, hsl, HLe.refl _⟩
      · simp only [Tr.get, cond_true, cond_false]
        rw [nxR_f hc]
        exact XLe.refl _
    | false =>
      cases wchI (enS R n c) (sq (enS R n c) R d k) (d.k k) (d.a k) with
      | true =>
        refine ⟨fun hc => ?_, fun hc => ?_⟩
        · simp only [Tr.get, cond_true, cond_false]
          rw [nxR_t hc]
          exact ⟨rfl, hsl, HLe.refl _⟩
        · simp only [Tr.get, cond_true, cond_false]
          rw [nxR_f hc]
          exact XLe.refl _
      | false =>
        refine ⟨fun hc => ?_, fun hc => ?_⟩
        · simp only [Tr.get, cond_true, cond_false]
          rw [nxR_t hc]
          exact ⟨rfl, hsl, HLe.refl _⟩
        · simp only [Tr.get, cond_true, cond_false]
          rw [nxR_f hc]
          exact XLe.refl _
theorem KQ_ok {R : Nat} (h1 : 1 ≤ R) (h2 : R ≤ 4) (n : Nat) (c : Bt) : CallerTOk Try.prog (KQ R n c) := addK_ok (doI h1 h2) (addK_ok (begI h1 h2 n c) extK_ok)
theorem stA {R : Nat} (h1 : 1 ≤ R) (h2 : R ≤ 4) (n m : Nat) (c : Bt) (d : Dd) (k : Nat) (dn : Int) (F : Fl) : (evC JS Try.prog (callF Try.prog (KQ R n c) 20 8) noL 20 (loopN Try.prog 73 4) (AS R n m c d k dn F) (kH 2 [6, 7, 12, 13, 14] [6, 7] (gX R 2 6 [6, 7, 12, 13, 14] [6, 7]))).map (fun x => (mapTr (cutX R 5) x.1, x.2)) = some (tA R n m c d k dn F, P11.oA R n m c d k F) := by
  have hR : R = 1 ∨ R = 2 ∨ R = 3 ∨ R = 4 := by omega
  rcases hR with rfl | rfl | rfl | rfl
  · exact stA1 n m c d k dn F
  · exact stA2 n m c d k dn F
  · exact stA3 n m c d k dn F
  · exact stA4 n m c d k dn F
theorem stR {R : Nat} (h1 : 1 ≤ R) (h2 : R ≤ 4) (n m : Nat) (c : Bt) (d : Dd) (k : Nat) (F : Fl) : (evC JS Try.prog (callF Try.prog (KQ R n c) 20 8) noL 20 (loopN Try.prog 35 7) (RS R n m c d k F) (kH 2 [8, 20, 21, 22] [4, 5, 6] (gX R 2 8 [8, 20, 21, 22] [4, 5, 6]))).map (fun x => (mapTr (cutX R 5) x.1, x.2)) = some (tR R n m c d k F, P11.oA R n m c d k F) := by
  have hR : R = 1 ∨ R = 2 ∨ R = 3 ∨ R = 4 := by omega
  rcases hR with rfl | rfl | rfl | rfl
  · exact stR1 n m c d k F
  · exact stR2 n m c d k F
  · exact stR3 n m c d k F
  · exact stR4 n m c d k F
theorem loopA {R n m : Nat} {c : Bt} {d : Dd} (h1 : 1 ≤ R) (h2 : R ≤ 4) (hn : n ≤ 1000) (hd : okD m d) : LoopOk Try.prog 2 (loopN Try.prog 73 4) (AK R n m c d 0) (.leaf (.ext 0, AE R n m c d (dnc (enS R n c) R d m) (sq (enS R n c) R d m))) :=
  loop_allH (callF_ok sxApart sxMixed (KQ_ok h1 h2 n c) (N := 20) 8) sxMixed (N := 20) (L := noL) (fun _ _ _ _ h => by cases h) [6, 7, 12, 13, 14] [6, 7] (gX R 2 6 [6, 7, 12, 13, 14] [6, 7]) (fun k => AK R n m c d k) m _ (fun h => by cases h)
    (fun k hk => by
      have hF := sq_ok (tsOf_ok R n c) h1 hd.2 k (by omega)
      have he := stA h1 h2 n m c d k (dnc (enS R n c) R d k) (sq (enS R n c) R d k)
      rw [oA_true h1 h2 hn hF hd.2 hk] at he
      obtain ⟨t, ht, hx⟩ := map_some he
      exact ⟨t, ht, XLe.tr (cutX_le _ _ _ hx) (tA_le h1 h2 hd.1 hF hk)⟩)
    (by
      have he := stA h1 h2 n m c d m (dnc (enS R n c) R d m) (sq (enS R n c) R d m)
      rw [oA_last] at he
      obtain ⟨t, ht, hx⟩ := map_some he
      refine ⟨t, ht, XLe.tr (cutX_le _ _ _ hx) ?_⟩
      unfold tA
      rw [ofNat_lt, decide_eq_false (Nat.lt_irrefl m)]
      exact XLe.refl _)
theorem loopR {R n m : Nat} {c : Bt} {d : Dd} (h1 : 1 ≤ R) (h2 : R ≤ 4) (hn : n ≤ 1000) (hd : okD m d) : LoopOk Try.prog 2 (loopN Try.prog 35 7) (RK R n m c d 0) (.node (allB m (okC R n c d)) (.leaf (.ext 0, RE n m c d)) (.leaf (.ret, RX n m c d (fb (okC R n c d) m) (sc (enS R n c) R d (fb (okC R n c d) m))))) :=
  loop_forH (callF_ok sxApart sxMixed (KQ_ok h1 h2 n c) (N := 20) 8) sxMixed (N := 20) (L := noL) (fun _ _ _ _ h => by cases h) [8, 20, 21, 22] [4, 5, 6] (gX R 2 8 [8, 20, 21, 22] [4, 5, 6]) (fun k => RK R n m c d k) m (okC R n c d) (fun k => (.ret, RX n m c d k (sc (enS R n c) R d k))) (.ext 0, RE n m c d) (fun k h => by cases h) (fun h => by cases h)
    (fun k hk _ => by
      have hF := sq_ok (tsOf_ok R n c) h1 hd.2 k (by omega)
      have he := stR h1 h2 n m c d k (sq (enS R n c) R d k)
      rw [oA_true h1 h2 hn hF hd.2 hk] at he
      obtain ⟨t, ht, hx⟩ := map_some he
      obtain ⟨q1, q2⟩ := tR_le (m := m) h1 h2 hd.1 hF hk
      exact ⟨t, ht, fun h => XLe.tr (cutX_le _ _ _ hx) (q1 h), fun h => XLe.tr (cutX_le _ _ _ hx) (q2 h)⟩)
    (fun _ => by
      have he := stR h1 h2 n m c d m (sq (enS R n c) R d m)
      rw [oA_last] at he
      obtain ⟨t, ht, hx⟩ := map_some he
      refine ⟨t, ht, XLe.tr (cutX_le _ _ _ hx) ?_⟩
      unfold tR
      rw [ofNat_lt, decide_eq_false (Nat.lt_irrefl m)]
      exact XLe.refl _)
end Go.Proofs.Ytllonddgbjgmdaa.P12
set_option linter.unusedVariables false
set_option linter.unusedSimpArgs false
set_option maxRecDepth 100000
namespace Go.Proofs.Ytllonddgbjgmdaa.P15
open Go.Sx Go.Sx.R0 Go.RowKit Go.Proofs.Ytllonddgbjgmdaa.W1 Go.Proofs.Ytllonddgbjgmdaa.W3 Go.Proofs.Ytllonddgbjgmdaa.W5 Go.Proofs.Ytllonddgbjgmdaa.W9 Go.Proofs.Ytllonddgbjgmdaa.W10 Go.Proofs.Ytllonddgbjgmdaa.P1 Go.Proofs.Ytllonddgbjgmdaa.P2 Go.Proofs.Ytllonddgbjgmdaa.P3 Go.Proofs.Ytllonddgbjgmdaa.P4 Go.Proofs.Ytllonddgbjgmdaa.P5 Go.Proofs.Ytllonddgbjgmdaa.P6 Go.Proofs.Ytllonddgbjgmdaa.P7 Go.Proofs.Ytllonddgbjgmdaa.P8 Go.Proofs.Ytllonddgbjgmdaa.P9 Go.Proofs.Ytllonddgbjgmdaa.P10 Go.Proofs.Ytllonddgbjgmdaa.P11 Go.Proofs.Ytllonddgbjgmdaa.P12

noncomputable def LA (R n m : Nat) (c : Bt) (d : Dd) (t : Tr (AX × St)) : LoopOr := loopGc 4 [6, 7, 12, 13, 14] R 2 (autoR R 2 6) 5 (AS R n m c d 0 0 F0) t noL
def rA (R n m : Nat) (c : Bt) (d : Dd) (dn : Int) (F : Fl) : Tr (AV × Option (List Blk)) := .leaf (.tup [.ptr 2 0 0, .int .i64 dn], some (pmI R n m c d F.krow F.srow F))
noncomputable def oAf (R n m : Nat) (c : Bt) (d : Dd) : Bool := andB (okBI R n c) (andB (deqS (AS R n m c d 0 0 F0) (AS R n m c d 0 0 F0)) true)
theorem oAf_true (R : Nat) {n : Nat} (hn : n ≤ 1000) (m : Nat) (c : Bt) (d : Dd) : oAf R n m c d = true := by unfold oAf; rw [okBI_true R hn, deqS_self]; rfl
theorem af1 (n m : Nat) (c : Bt) (d : Dd) (dn : Int) (F : Fl) : evF Try.prog (KQ 1 n c) (LA 1 n m c d (.leaf (.ext 0, AE 1 n m c d dn F))) 20 8 73 (A2 (Int.ofNat 1) n m) (H2 n m c d) = some (rA 1 n m c d dn F, oAf 1 n m c d) := by kernel_rfl
theorem af2 (n m : Nat) (c : Bt) (d : Dd) (dn : Int) (F : Fl) : evF Try.prog (KQ 2 n c) (LA 2 n m c d (.leaf (.ext 0, AE 2 n m c d dn F))) 20 8 73 (A2 (Int.ofNat 2) n m) (H2 n m c d) = some (rA 2 n m c d dn F, oAf 2 n m c d) := by kernel_rfl
theorem af3 (n m : Nat) (c : Bt) (d : Dd) (dn : Int) (F : Fl) : evF Try.prog (KQ 3 n c) (LA 3 n m c d (.leaf (.ext 0, AE 3 n m c d dn F))) 20 8 73 (A2 (Int.ofNat 3) n m) (H2 n m c d) = some (rA 3 n m c d dn F, oAf 3 n m c d) := by kernel_rfl
theorem af4 (n m : Nat) (c : Bt) (d : Dd) (dn : Int) (F : Fl) : evF Try.prog (KQ 4 n c) (LA 4 n m c d (.leaf (.ext 0, AE 4 n m c d dn F))) 20 8 73 (A2 (Int.ofNat 4) n m) (H2 n m c d) = some (rA 4 n m c d dn F, oAf 4 n m c d) := by kernel_rfl
noncomputable def runAf (R n m : Nat) (c : Bt) (d : Dd) : List AV → List Blk → Option Lf := selRun (runAtH (A2 (Int.ofNat R) n m) (H2 n m c d) (rA R n m c d (dnc (enS R n c) R d m) (sq (enS R n c) R d m)) (Nat.ble n 1000 && pB (P10.okD m d)))
noncomputable def okAf (R n m : Nat) (c : Bt) (d : Dd) : Bool := andB (deq (A2 (Int.ofNat R) n m) (A2 (Int.ofNat R) n m)) (andB (deqH (H2 n m c d) (H2 n m c d)) (Nat.ble n 1000 && pB (P10.okD m d)))
theorem okAf_true (R : Nat) {n m : Nat} (hn : n ≤ 1000) (c : Bt) {d : Dd} (hd : P10.okD m d) : okAf R n m c d = true := by unfold okAf; rw [deq_self, deqH_self, Nat.ble_eq_true_of_le hn, pB_true hd]; rfl
theorem afI {R : Nat} (h1 : 1 ≤ R) (h2 : R ≤ 4) (n m : Nat) (c : Bt) (d : Dd) : SumOk Try.prog 73 (runAf R n m c d) := sum_atH sxApart sxMixed (KQ_ok h1 h2 n c) (LA R n m c d (.leaf (.ext 0, AE R n m c d (dnc (enS R n c) R d m) (sq (enS R n c) R d m)))) (N := 20) (d := 8) fun hg => by
  simp only [Bool.and_eq_true] at hg
  have hn := Nat.le_of_ble_eq_true hg.1
  have hd := pB_of hg.2
  refine ⟨loopGc_all (B := 2) (by decide +kernel) (loopA h1 h2 hn hd) noL_all, rA R n m c d (dnc (enS R n c) R d m) (sq (enS R n c) R d m), ?_, LLe.refl _⟩
  rw [← oAf_true R hn m c d]
  have hR : R = 1 ∨ R = 2 ∨ R = 3 ∨ R = 4 := by omega
  rcases hR with rfl | rfl | rfl | rfl
  · exact af1 n m c d _ _
  · exact af2 n m c d _ _
  · exact af3 n m c d _ _
  · exact af4 n m c d _ _
end Go.Proofs.Ytllonddgbjgmdaa.P15
set_option linter.unusedVariables false
set_option linter.unusedSimpArgs false
set_option maxRecDepth 100000
namespace Go.Proofs.Ytllonddgbjgmdaa.P13
open Go.Sx Go.Sx.R0 Go.RowKit Go.Proofs.Ytllonddgbjgmdaa.W1 Go.Proofs.Ytllonddgbjgmdaa.W3 Go.Proofs.Ytllonddgbjgmdaa.W5 Go.Proofs.Ytllonddgbjgmdaa.W9 Go.Proofs.Ytllonddgbjgmdaa.W10 Go.Proofs.Ytllonddgbjgmdaa.P1 Go.Proofs.Ytllonddgbjgmdaa.P2 Go.Proofs.Ytllonddgbjgmdaa.P3 Go.Proofs.Ytllonddgbjgmdaa.P4 Go.Proofs.Ytllonddgbjgmdaa.P5 Go.Proofs.Ytllonddgbjgmdaa.P6 Go.Proofs.Ytllonddgbjgmdaa.P7 Go.Proofs.Ytllonddgbjgmdaa.P8 Go.Proofs.Ytllonddgbjgmdaa.P9 Go.Proofs.Ytllonddgbjgmdaa.P10 Go.Proofs.Ytllonddgbjgmdaa.P11 Go.Proofs.Ytllonddgbjgmdaa.P12

-- the reference's loop over codes
def hC (n m : Nat) (c : Bt) (d : Dd) (C : Nat → Int) : List Blk := H2 n m c d ++ [.rows true m 1 (crow C)]
def Sk (n m : Nat) (c : Bt) (d : Dd) (C : Nat → Int) (i : Int) : St := ⟨junks 9 ++ [.slc 2 0 m, .int .i64 i] ++ junks 26, hC n m c d C⟩
def SkE (n m : Nat) (c : Bt) (d : Dd) (C : Nat → Int) : St := ⟨junks 37, hC n m c d C⟩
def SkR (n m : Nat) (c : Bt) (d : Dd) (C : Nat → Int) (k : Nat) : St := ⟨junks 4 ++ [.int .i64 (Int.ofNat k), .int .i64 (C k), .int .i64 0] ++ junks 30, hC n m c d C⟩
def bdC (C : Nat → Int) (k : Nat) : Bool := !(C k == 0)
def obK (m : Nat) (C : Nat → Int) (k : Nat) : Bool := andB (inB (Int.ofNat k) m) (andB (Nat.blt k m) (andB (impB (bdC C k) (andB (andB (inB (Int.ofNat k) m) (andB (Nat.blt k m) true)) true)) true))
theorem obK_true {m k : Nat} (C : Nat → Int) (h : k < m) : obK m C k = true := by unfold obK; rw [inB_nat h, blt_lt h]; cases bdC C k <;> rfl
theorem stepK (n m : Nat) (c : Bt) (d : Dd) (C : Nat → Int) (k : Nat) : evC JS Try.prog (callF Try.prog extK 20 8) noL 20 (loopN Try.prog 33 7) (Sk n m c d C (Int.ofNat k)) (kG 2 [9, 10] [4, 5, 6] none none) =
    some (.node (decide (Int.ofNat k < (m : Int))) (.node (bdC C k) (.leaf (.ret, SkR n m c d C k)) (.leaf (.nrm, Sk n m c d C (IntKind.i64.wrap (Int.ofNat k + 1))))) (.leaf (.ext 0, SkE n m c d C)), andB (impB (decide (Int.ofNat k < (m : Int))) (obK m C k)) true) := by kernel_rfl
def tSk (n m : Nat) (c : Bt) (d : Dd) (C : Nat → Int) : Tr (AX × St) := .node (allB m fun k => !bdC C k) (.leaf (.ext 0, SkE n m c d C)) (.leaf (.ret, SkR n m c d C (fb (fun k => !bdC C k) m)))
theorem loopK (n : Nat) {m : Nat} (hm : m ≤ few) (c : Bt) (d : Dd) (C : Nat → Int) : LoopOk Try.prog 2 (loopN Try.prog 33 7) (Sk n m c d C 0) (tSk n m c d C) :=
  loopF (callF_ok sxApart sxMixed extK_ok (N := 20) 8) sxMixed [9, 10] [4, 5, 6] none none (fun k => Sk n m c d C (Int.ofNat k)) (fun k => Sk n m c d C (IntKind.i64.wrap (Int.ofNat k + 1))) m (by have := few_eq; omega) (bdC C) (fun k => (.ret, SkR n m c d C k)) (.ext 0, SkE n m c d C) (obK m C) (fun _ h => by cases h) (fun h => by cases h) (stepK n m c d C) (fun k h => obK_true C h) fun k _ _ hw => by rw [hw]; exact SLe.refl _
-- the reference
noncomputable def LS (n m : Nat) (c : Bt) (d : Dd) (C : Nat → Int) : LoopOr := loopGc 7 [9, 10] 1 2 (autoP 2) 9 (Sk n m c d C 0) (tSk n m c d C) noL
noncomputable def KRS (r : Int) (R n m : Nat) (c : Bt) (d : Dd) : CallerT := addK 66 (runG r n m c d) (addK 67 (runPS R n m c d) extK)
noncomputable def okP' (r : Int) (R n m : Nat) (c : Bt) (d : Dd) : Bool := andB (deq [.ptr 0 0 0, .slc 1 0 m] [.ptr 0 0 0, .slc 1 0 m]) (andB (deqH (hg r n m c d) (hP R n m c d)) (Nat.ble n 1000 && pB (P10.okD m d)))
def z0 : AV := .lit (.int .i64 0)
noncomputable def TRS (r : Int) (n m : Nat) (c : Bt) (d : Dd) (C : Nat → Int) : Tr (AV × Option (List Blk)) := .node (!(gv r n c m d == 0)) (.leaf (.tup [z0, z0, .int .i64 (gv r n c m d)], none))
  (.node (allB m fun k => !bdC C k) (.leaf (.tup [z0, z0, .lit (.int .i64 6)], none)) (.leaf (.tup [.int .i64 (Int.ofNat (fb (fun k => !bdC C k) m)), .int .i64 (C (fb (fun k => !bdC C k) m)), .int .i64 0], none)))
noncomputable def oRS (r : Int) (R n m : Nat) (c : Bt) (d : Dd) (s : St) : Bool := andB (okG r n m c d) (impB (!!(gv r n c m d == 0)) (andB (okP' r R n m c d) (andB (deqS s s) true)))
-- the program
noncomputable def tRk (R n m : Nat) (c : Bt) (d : Dd) : Tr (AX × St) := .node (allB m (P12.okC R n c d)) (.leaf (.ext 0, RE n m c d)) (.leaf (.ret, RX n m c d (fb (P12.okC R n c d) m) (sc (enS R n c) R d (fb (P12.okC R n c d) m))))
noncomputable def LI (R n m : Nat) (c : Bt) (d : Dd) : LoopOr := loopGc 7 [8, 20, 21, 22] R 2 (autoR R 2 8) 5 (RS R n m c d 0 F0) (tRk R n m c d) noL
noncomputable def KRI (r : Int) (R n m : Nat) (c : Bt) (d : Dd) : CallerT := addK 68 (runC r n m c d) (addK 69 (runBI R n c) extK)
noncomputable def okB' (r : Int) (R n : Nat) (c : Bt) : Bool := andB (deq [.agg [.int .i64 r, .slc 0 0 n]] [.agg [.int .i64 (Int.ofNat R), .slc 0 0 n]]) (andB (deqH (Bt.ro1 n c) (Bt.ro1 n c)) (Nat.ble n 1000))
noncomputable def TRI (r : Int) (R n m : Nat) (c : Bt) (d : Dd) : Tr (AV × Option (List Blk)) := .node (!(gv r n c m d == 0)) (.leaf (.tup [z0, z0, .int .i64 (gv r n c m d)], none))
  (.node (allB m (P12.okC R n c d)) (.leaf (.tup [z0, z0, .lit (.int .i64 6)], none)) (.leaf (.tup [.int .i64 (Int.ofNat (fb (P12.okC R n c d) m)), .int .i64 (sc (enS R n c) R d (fb (P12.okC R n c d) m)), .int .i64 0], none)))
noncomputable def oRI (r : Int) (R n m : Nat) (c : Bt) (d : Dd) (s : St) : Bool := andB (W10.okC r n m c d) (impB (!!(gv r n c m d == 0)) (andB (okB' r R n c) (andB (deqS s s) true)))
theorem eS1 (r : Int) (n m : Nat) (c : Bt) (d : Dd) : evF Try.prog (KRS r 1 n m c d) (LS n m c d (sc (enS 1 n c) 1 d)) 20 8 33 (A2 r n m) (H2 n m c d) = some (TRS r n m c d (sc (enS 1 n c) 1 d), oRS r 1 n m c d (Sk n m c d (sc (enS 1 n c) 1 d) 0)) := by kernel_rfl
theorem eI1 (r : Int) (n m : Nat) (c : Bt) (d : Dd) : evF Try.prog (KRI r 1 n m c d) (LI 1 n m c d) 20 8 35 (A2 r n m) (H2 n m c d) = some (TRI r 1 n m c d, oRI r 1 n m c d (RS 1 n m c d 0 F0)) := by kernel_rfl
theorem eS2 (r : Int) (n m : Nat) (c : Bt) (d : Dd) : evF Try.prog (KRS r 2 n m c d) (LS n m c d (sc (enS 2 n c) 2 d)) 20 8 33 (A2 r n m) (H2 n m c d) = some (TRS r n m c d (sc (enS 2 n c) 2 d), oRS r 2 n m c d (Sk n m c d (sc (enS 2 n c) 2 d) 0)) := by kernel_rfl
theorem eI2 (r : Int) (n m : Nat) (c : Bt) (d : Dd) : evF Try.prog (KRI r 2 n m c d) (LI 2 n m c d) 20 8 35 (A2 r n m) (H2 n m c d) = some (TRI r 2 n m c d, oRI r 2 n m c d (RS 2 n m c d 0 F0)) := by kernel_rfl
theorem eS3 (r : Int) (n m : Nat) (c : Bt) (d : Dd) : evF Try.prog (KRS r 3 n m c d) (LS n m c d (sc (enS 3 n c) 3 d)) 20 8 33 (A2 r n m) (H2 n m c d) = some (TRS r n m c d (sc (enS 3 n c) 3 d), oRS r 3 n m c d (Sk n m c d (sc (enS 3 n c) 3 d) 0)) := by kernel_rfl
theorem eI3 (r : Int) (n m : Nat) (c : Bt) (d : Dd) : evF Try.prog (KRI r 3 n m c d) (LI 3 n m c d) 20 8 35 (A2 r n m) (H2 n m c d) = some (TRI r 3 n m c d, oRI r 3 n m c d (RS 3 n m c d 0 F0)) := by kernel_rfl
theorem eS4 (r : Int) (n m : Nat) (c : Bt) (d : Dd) : evF Try.prog (KRS r 4 n m c d) (LS n m c d (sc (enS 4 n c) 4 d)) 20 8 33 (A2 r n m) (H2 n m c d) = some (TRS r n m c d (sc (enS 4 n c) 4 d), oRS r 4 n m c d (Sk n m c d (sc (enS 4 n c) 4 d) 0)) := by kernel_rfl
theorem eI4 (r : Int) (n m : Nat) (c : Bt) (d : Dd) : evF Try.prog (KRI r 4 n m c d) (LI 4 n m c d) 20 8 35 (A2 r n m) (H2 n m c d) = some (TRI r 4 n m c d, oRI r 4 n m c d (RS 4 n m c d 0 F0)) := by kernel_rfl
end Go.Proofs.Ytllonddgbjgmdaa.P13
set_option linter.unusedVariables false
set_option linter.unusedSimpArgs false
set_option maxRecDepth 100000
namespace Go.Proofs.Ytllonddgbjgmdaa.P14
open Go.Sx Go.Sx.R0 Go.RowKit Go.Proofs.Ytllonddgbjgmdaa.W1 Go.Proofs.Ytllonddgbjgmdaa.W3 Go.Proofs.Ytllonddgbjgmdaa.W5 Go.Proofs.Ytllonddgbjgmdaa.W9 Go.Proofs.Ytllonddgbjgmdaa.W10 Go.Proofs.Ytllonddgbjgmdaa.P1 Go.Proofs.Ytllonddgbjgmdaa.P2 Go.Proofs.Ytllonddgbjgmdaa.P3 Go.Proofs.Ytllonddgbjgmdaa.P4 Go.Proofs.Ytllonddgbjgmdaa.P5 Go.Proofs.Ytllonddgbjgmdaa.P6 Go.Proofs.Ytllonddgbjgmdaa.P7 Go.Proofs.Ytllonddgbjgmdaa.P8 Go.Proofs.Ytllonddgbjgmdaa.P9 Go.Proofs.Ytllonddgbjgmdaa.P10 Go.Proofs.Ytllonddgbjgmdaa.P11 Go.Proofs.Ytllonddgbjgmdaa.P12 Go.Proofs.Ytllonddgbjgmdaa.P13

theorem gv_zero {r : Int} {n m : Nat} {c : Bt} {d : Dd} (h : gv r n c m d = 0) : (∃ R : Nat, 1 ≤ R ∧ R ≤ 4 ∧ r = Int.ofNat R) ∧ n ≤ 6 ∧ P10.okD m d ∧ m ≤ 300 := by
  unfold gv at h
  cases hv : vW r n c with
  | false => rw [hv] at h; simp at h
  | true =>
    rw [hv] at h
    simp only [Bool.not_true, cond_false] at h
    cases ha : (allB m fun k => !bdD d k) with
    | false => rw [ha] at h; simp at h
    | true =>
      rw [ha] at h
      simp only [cond_true] at h
      cases hm : decide ((m : Int) > 300) with
      | true => rw [hm] at h; simp at h
      | false =>
        have hm := of_decide_eq_false hm
        have hr : 1 ≤ r ∧ r ≤ 4 ∧ (n : Int) ≤ 6 := by
          unfold vW at hv
          cases h1 : decide (1 ≤ r) with
          | false => rw [h1] at hv; simp at hv
          | true =>
            cases h2 : decide (r ≤ 4) with
            | false => rw [h1, h2] at hv; simp at hv
            | true =>
              cases h3 : decide ((n : Int) ≤ 6) with
              | false => rw [h1, h2, h3] at hv; simp at hv
              | true => exact ⟨of_decide_eq_true h1, of_decide_eq_true h2, of_decide_eq_true h3⟩
        refine ⟨⟨r.toNat, by omega, by omega, by simp only [Int.ofNat_eq_natCast]; omega⟩, by omega, ⟨by omega, fun i hi => ?_⟩, by omega⟩
        have hb := allB_true.1 ha i hi
        have hb : vD (d.k i) (d.a i) = true := by
          unfold bdD at hb
          simpa using hb
        unfold vD at hb
        cases h1 : decide (0 ≤ d.a i) with
        | false => rw [h1] at hb; cases hx : (cond (decide (1 ≤ d.k i)) (decide (d.k i ≤ 6)) false) <;> (rw [hx] at hb; simp at hb)
        | true =>
          cases h2 : decide (d.a i ≤ 999) with
          | false => rw [h1, h2] at hb; cases hx : (cond (decide (1 ≤ d.k i)) (decide (d.k i ≤ 6)) false) <;> (rw [hx] at hb; simp at hb)
          | true => exact ⟨of_decide_eq_true h1, of_decide_eq_true h2⟩
-- what both return
def rfT (a b e : Int) : Tr (AV × Option (List Blk)) := .leaf (.tup [.int .i64 a, .int .i64 b, .int .i64 e], none)
noncomputable def rfA (R n m : Nat) (c : Bt) (d : Dd) : Int := bif allB m (P12.okC R n c d) then 0 else Int.ofNat (fb (P12.okC R n c d) m)
noncomputable def rfB (R n m : Nat) (c : Bt) (d : Dd) : Int := bif allB m (P12.okC R n c d) then 0 else sc (enS R n c) R d (fb (P12.okC R n c d) m)
noncomputable def rfE (R n m : Nat) (c : Bt) (d : Dd) : Int := bif allB m (P12.okC R n c d) then 6 else 0
noncomputable def runRf (r : Int) (n m : Nat) (c : Bt) (d : Dd) (a b e : Int) (g : Bool) : List AV → List Blk → Option Lf := selRun (runAtH (A2 r n m) (H2 n m c d) (rfT a b e) g)
noncomputable def okRf (r : Int) (n m : Nat) (c : Bt) (d : Dd) (g : Bool) : Bool := andB (deq (A2 r n m) (A2 r n m)) (andB (deqH (H2 n m c d) (H2 n m c d)) g)
theorem okRf_true (r : Int) (n m : Nat) (c : Bt) (d : Dd) {g : Bool} (h : g = true) : okRf r n m c d g = true := by unfold okRf; rw [deq_self, deqH_self, h]; rfl
noncomputable def gX (r : Int) (n m : Nat) (c : Bt) (d : Dd) : Bool := andB (Nat.ble n few) (andB (Nat.ble m few) (andB (pB (NmOk n c)) (!(gv r n c m d == 0))))
noncomputable def gV (r : Int) (n m : Nat) (c : Bt) (d : Dd) : Bool := andB (pB (NmOk n c)) (gv r n c m d == 0)
theorem badC (R n : Nat) (c : Bt) (d : Dd) : (fun k => !bdC (sc (enS R n c) R d) k) = P12.okC R n c d := by
  funext k
  unfold bdC P12.okC
  exact Bool.not_not _
theorem rfX (r : Int) (n m : Nat) (c : Bt) (d : Dd) {f : Nat} {K : CallerT} (hK : CallerTOk Try.prog K) (L : LoopOr) (hL : LOk Try.prog 2 f L) {T : Tr (AV × Option (List Blk))} {o w : Bool} (h : evF Try.prog K L 20 8 f (A2 r n m) (H2 n m c d) = some (.node (!(gv r n c m d == 0)) (.leaf (.tup [z0, z0, .int .i64 (gv r n c m d)], none)) T, andB o (impB (!!(gv r n c m d == 0)) w)))
    (ho : n ≤ few → m ≤ few → NmOk n c → o = true) : SumOk Try.prog f (runRf r n m c d 0 0 (gv r n c m d) (gX r n m c d)) := sum_atH sxApart sxMixed hK L (N := 20) (d := 8) fun hg => by
  obtain ⟨h1, hg⟩ := andB_true hg
  obtain ⟨h2, hg⟩ := andB_true hg
  obtain ⟨h3, h4⟩ := andB_true hg
  rw [ho (Nat.le_of_ble_eq_true h1) (Nat.le_of_ble_eq_true h2) (pB_of h3), h4] at h
  rw [show andB true (impB (!true) w) = true from by cases w <;> rfl] at h
  exact ⟨hL, _, h, LLe.of rfl rfl rfl⟩
-- nothing is played where what is given is wrong
noncomputable def noQ (q : Bool) (t : Tr (AX × St)) : LoopOr := fun body _ => bif Nat.beq (loopId body) 7 then some (t, q) else none
noncomputable def noP (t : Tr (AX × St)) : LoopOr := noQ false t
theorem noP_ok (B : Nat) (f : Nat) (t : Tr (AX × St)) : LOk Try.prog B f (noP t) := fun _ _ _ _ body _ _ _ h => by
  unfold noP noQ at h
  cases hb : Nat.beq (loopId body) 7 <;> rw [hb] at h <;> simp at h
theorem sV1 {n m : Nat} (c : Bt) (d : Dd) : SumOk Try.prog 33 (runRf (Int.ofNat 1) n m c d (rfA 1 n m c d) (rfB 1 n m c d) (rfE 1 n m c d) (gV (Int.ofNat 1) n m c d)) := sum_atH sxApart sxMixed (addK_ok (gS (Int.ofNat 1) n m c d) (addK_ok (playS (R := 1) (by omega) (by omega) n m c d) extK_ok)) (LS n m c d (sc (enS 1 n c) 1 d)) (N := 20) (d := 8) fun hg => by
  obtain ⟨h3, h4⟩ := andB_true hg
  have h0 : gv (Int.ofNat 1) n c m d = 0 := by simpa using h4
  obtain ⟨_, hn, hd, hm⟩ := gv_zero h0
  have hf := few_eq
  refine ⟨loopGc_all (B := 2) (by decide +kernel) (loopK n (by omega) c d _) noL_all, TRS (Int.ofNat 1) n m c d (sc (enS 1 n c) 1 d), ?_, ?_⟩
  · have h := eS1 (Int.ofNat 1) n m c d
    have ho : oRS (Int.ofNat 1) 1 n m c d (Sk n m c d (sc (enS 1 n c) 1 d) 0) = true := by
      unfold oRS okP'
      rw [okG_true _ (by omega) (by omega) (pB_of h3), h4, deqS_self, deq_self, show deqH (W10.hg (Int.ofNat 1) n m c d) (hP 1 n m c d) = true from deqH_self _, Nat.ble_eq_true_of_le (show n ≤ 1000 by omega), pB_true hd]
      rfl
    rw [ho] at h
    exact h
  · unfold TRS rfT rfA rfB rfE
    rw [h4, badC]
    cases allB m (P12.okC 1 n c d) with
    | true => exact LLe.of rfl rfl rfl
    | false => exact LLe.of rfl rfl rfl
theorem iV1 {n m : Nat} (c : Bt) (d : Dd) : SumOk Try.prog 35 (runRf (Int.ofNat 1) n m c d (rfA 1 n m c d) (rfB 1 n m c d) (rfE 1 n m c d) (gV (Int.ofNat 1) n m c d)) := sum_atH sxApart sxMixed (addK_ok (cI (Int.ofNat 1) n m c d) (addK_ok (begI (R := 1) (by omega) (by omega) n c) extK_ok)) (LI 1 n m c d) (N := 20) (d := 8) fun hg => by
  obtain ⟨h3, h4⟩ := andB_true hg
  have h0 : gv (Int.ofNat 1) n c m d = 0 := by simpa using h4
  obtain ⟨_, hn, hd, hm⟩ := gv_zero h0
  have hf := few_eq
  refine ⟨loopGc_all (B := 2) (by decide +kernel) (P12.loopR (R := 1) (by omega) (by omega) (by omega) hd) noL_all, TRI (Int.ofNat 1) 1 n m c d, ?_, ?_⟩
  · have h := eI1 (Int.ofNat 1) n m c d
    have ho : oRI (Int.ofNat 1) 1 n m c d (RS 1 n m c d 0 F0) = true := by
      unfold oRI okB'
      rw [W10.okC_true _ (by omega) (by omega) (pB_of h3), h4, deqS_self, deq_self, deqH_self, Nat.ble_eq_true_of_le (show n ≤ 1000 by omega)]
      rfl
    rw [ho] at h
    exact h
  · unfold TRI rfT rfA rfB rfE
    rw [h4]
    cases allB m (P12.okC 1 n c d) with
    | true => exact LLe.of rfl rfl rfl
    | false => exact LLe.of rfl rfl rfl
theorem sV2 {n m : Nat} (c : Bt) (d : Dd) : SumOk Try.prog 33 (runRf (Int.ofNat 2) n m c d (rfA 2 n m c d) (rfB 2 n m c d) (rfE 2 n m c d) (gV (Int.ofNat 2) n m c d)) := sum_atH sxApart sxMixed (addK_ok (gS (Int.ofNat 2) n m c d) (addK_ok (playS (R := 2) (by omega) (by omega) n m c d) extK_ok)) (LS n m c d (sc (enS 2 n c) 2 d)) (N := 20) (d := 8) fun hg => by
  obtain ⟨h3, h4⟩ := andB_true hg
  have h0 : gv (Int.ofNat 2) n c m d = 0 := by simpa using h4
  obtain ⟨_, hn, hd, hm⟩ := gv_zero h0
  have hf := few_eq
  refine ⟨loopGc_all (B := 2) (by decide +kernel) (loopK n (by omega) c d _) noL_all, TRS (Int.ofNat 2) n m c d (sc (enS 2 n c) 2 d), ?_, ?_⟩
  · have h := eS2 (Int.ofNat 2) n m c d
    have ho : oRS (Int.ofNat 2) 2 n m c d (Sk n m c d (sc (enS 2 n c) 2 d) 0) = true := by
      unfold oRS okP'
      rw [okG_true _ (by omega) (by omega) (pB_of h3), h4, deqS_self, deq_self, show deqH (W10.hg (Int.ofNat 2) n m c d) (hP 2 n m c d) = true from deqH_self _, Nat.ble_eq_true_of_le (show n ≤ 1000 by omega), pB_true hd]
      rfl
    rw [ho] at h
    exact h
  · unfold TRS rfT rfA rfB rfE
    rw [h4, badC]
    cases allB m (P12.okC 2 n c d) with
    | true => exact LLe.of rfl rfl rfl
    | false => exact LLe.of rfl rfl rfl
theorem iV2 {n m : Nat} (c : Bt) (d : Dd) : SumOk Try.prog 35 (runRf (Int.ofNat 2) n m c d (rfA 2 n m c d) (rfB 2 n m c d) (rfE 2 n m c d) (gV (Int.ofNat 2) n m c d)) := sum_atH sxApart sxMixed (addK_ok (cI (Int.ofNat 2) n m c d) (addK_ok (begI (R := 2) (by omega) (by omega) n c) extK_ok)) (LI 2 n m c d) (N := 20) (d := 8) fun hg => by
  obtain ⟨h3, h4⟩ := andB_true hg
  have h0 : gv (Int.ofNat 2) n c m d = 0 := by simpa using h4
  obtain ⟨_, hn, hd, hm⟩ := gv_zero h0
  have hf := few_eq
  refine ⟨loopGc_all (B := 2) (by decide +kernel) (P12.loopR (R := 2) (by omega) (by omega) (by omega) hd) noL_all, TRI (Int.ofNat 2) 2 n m c d, ?_, ?_⟩
  · have h := eI2 (Int.ofNat 2) n m c d
    have ho : oRI (Int.ofNat 2) 2 n m c d (RS 2 n m c d 0 F0) = true := by
      unfold oRI okB'
      rw [W10.okC_true _ (by omega) (by omega) (pB_of h3), h4, deqS_self, deq_self, deqH_self, Nat.ble_eq_true_of_le (show n ≤ 1000 by omega)]
      rfl
    rw [ho] at h
    exact h
  · unfold TRI rfT rfA rfB rfE
    rw [h4]
    cases allB m (P12.okC 2 n c d) with
    | true => exact LLe.of rfl rfl rfl
    | false => exact LLe.of rfl rfl rfl
theorem sV3 {n m : Nat} (c : Bt) (d : Dd) : SumOk Try.prog 33 (runRf (Int.ofNat 3) n m c d (rfA 3 n m c d) (rfB 3 n m c d) (rfE 3 n m c d) (gV (Int.ofNat 3) n m c d)) := sum_atH sxApart sxMixed (addK_ok (gS (Int.ofNat 3) n m c d) (addK_ok (playS (R := 3) (by omega) (by omega) n m c d) extK_ok)) (LS n m c d (sc (enS 3 n c) 3 d)) (N := 20) (d := 8) fun hg => by
  obtain ⟨h3, h4⟩ := andB_true hg
  have h0 : gv (Int.ofNat 3) n c m d = 0 := by simpa using h4
  obtain ⟨_, hn, hd, hm⟩ := gv_zero h0
  have hf := few_eq
  refine ⟨loopGc_all (B := 2) (by decide +kernel) (loopK n (by omega) c d _) noL_all, TRS (Int.ofNat 3) n m c d (sc (enS 3 n c) 3 d), ?_, ?_⟩
  · have h := eS3 (Int.ofNat 3) n m c d
    have ho : oRS (Int.ofNat 3) 3 n m c d (Sk n m c d (sc (enS 3 n c) 3 d) 0) = true := by
      unfold oRS okP'
      rw [okG_true _ (by omega) (by omega) (pB_of h3), h4, deqS_self, deq_self, show deqH (W10.hg (Int.ofNat 3) n m c d) (hP 3 n m c d) = true from deqH_self _, Nat.ble_eq_true_of_le (show n ≤ 1000 by omega), pB_true hd]
      rfl
    rw [ho] at h
    exact h
  · unfold TRS rfT rfA rfB rfE
    rw [h4, badC]
    cases allB m (P12.okC 3 n c d) with
    | true => exact LLe.of rfl rfl rfl
    | false => exact LLe.of rfl rfl rfl
theorem iV3 {n m : Nat} (c : Bt) (d : Dd) : SumOk Try.prog 35 (runRf (Int.ofNat 3) n m c d (rfA 3 n m c d) (rfB 3 n m c d) (rfE 3 n m c d) (gV (Int.ofNat 3) n m c d)) := sum_atH sxApart sxMixed (addK_ok (cI (Int.ofNat 3) n m c d) (addK_ok (begI (R := 3) (by omega) (by omega) n c) extK_ok)) (LI 3 n m c d) (N := 20) (d := 8) fun hg => by
  obtain ⟨h3, h4⟩ := andB_true hg
  have h0 : gv (Int.ofNat 3) n c m d = 0 := by simpa using h4
  obtain ⟨_, hn, hd, hm⟩ := gv_zero h0
  have hf := few_eq
  refine ⟨loopGc_all (B := 2) (by decide +kernel) (P12.loopR (R := 3) (by omega) (by omega) (by omega) hd) noL_all, TRI (Int.ofNat 3) 3 n m c d, ?_, ?_⟩
  · have h := eI3 (Int.ofNat 3) n m c d
    have ho : oRI (Int.ofNat 3) 3 n m c d (RS 3 n m c d 0 F0) = true := by
      unfold oRI okB'
      rw [W10.okC_true _ (by omega) (by omega) (pB_of h3), h4, deqS_self, deq_self, deqH_self, Nat.ble_eq_true_of_le (show n ≤ 1000 by omega)]
      rfl
    rw [ho] at h
    exact h
  · unfold TRI rfT rfA rfB rfE
    rw [h4]
    cases allB m (P12.okC 3 n c d) with
    | true => exact LLe.of rfl rfl rfl
    | false => exact LLe.of rfl rfl rfl
theorem sV4 {n m : Nat} (c : Bt) (d : Dd) : SumOk Try.prog 33 (runRf (Int.ofNat 4) n m c d (rfA 4 n m c d) (rfB 4 n m c d) (rfE 4 n m c d) (gV (Int.ofNat 4) n m c d)) := sum_atH sxApart sxMixed (addK_ok (gS (Int.ofNat 4) n m c d) (addK_ok (playS (R := 4) (by omega) (by omega) n m c d) extK_ok)) (LS n m c d (sc (enS 4 n c) 4 d)) (N := 20) (d := 8) fun hg => by
  obtain ⟨h3, h4⟩ := andB_true hg
  have h0 : gv (Int.ofNat 4) n c m d = 0 := by simpa using h4
  obtain ⟨_, hn, hd, hm⟩ := gv_zero h0
  have hf := few_eq
  refine ⟨loopGc_all (B := 2) (by decide +kernel) (loopK n (by omega) c d _) noL_all, TRS (Int.ofNat 4) n m c d (sc (enS 4 n c) 4 d), ?_, ?_⟩
  · have h := eS4 (Int.ofNat 4) n m c d
    have ho : oRS (Int.ofNat 4) 4 n m c d (Sk n m c d (sc (enS 4 n c) 4 d) 0) = true := by
      unfold oRS okP'
      rw [okG_true _ (by omega) (by omega) (pB_of h3), h4, deqS_self, deq_self, show deqH (W10.hg (Int.ofNat 4) n m c d) (hP 4 n m c d) = true from deqH_self _, Nat.ble_eq_true_of_le (show n ≤ 1000 by omega), pB_true hd]
      rfl
    rw [ho] at h
    exact h
  · unfold TRS rfT rfA rfB rfE
    rw [h4, badC]
    cases allB m (P12.okC 4 n c d) with
    | true => exact LLe.of rfl rfl rfl
    | false => exact LLe.of rfl rfl rfl
theorem iV4 {n m : Nat} (c : Bt) (d : Dd) : SumOk Try.prog 35 (runRf (Int.ofNat 4) n m c d (rfA 4 n m c d) (rfB 4 n m c d) (rfE 4 n m c d) (gV (Int.ofNat 4) n m c d)) := sum_atH sxApart sxMixed (addK_ok (cI (Int.ofNat 4) n m c d) (addK_ok (begI (R := 4) (by omega) (by omega) n c) extK_ok)) (LI 4 n m c d) (N := 20) (d := 8) fun hg => by
  obtain ⟨h3, h4⟩ := andB_true hg
  have h0 : gv (Int.ofNat 4) n c m d = 0 := by simpa using h4
  obtain ⟨_, hn, hd, hm⟩ := gv_zero h0
  have hf := few_eq
  refine ⟨loopGc_all (B := 2) (by decide +kernel) (P12.loopR (R := 4) (by omega) (by omega) (by omega) hd) noL_all, TRI (Int.ofNat 4) 4 n m c d, ?_, ?_⟩
  · have h := eI4 (Int.ofNat 4) n m c d
    have ho : oRI (Int.ofNat 4) 4 n m c d (RS 4 n m c d 0 F0) = true := by
      unfold oRI okB'
      rw [W10.okC_true _ (by omega) (by omega) (pB_of h3), h4, deqS_self, deq_self, deqH_self, Nat.ble_eq_true_of_le (show n ≤ 1000 by omega)]
      rfl
    rw [ho] at h
    exact h
  · unfold TRI rfT rfA rfB rfE
    rw [h4]
    cases allB m (P12.okC 4 n c d) with
    | true => exact LLe.of rfl rfl rfl
    | false => exact LLe.of rfl rfl rfl
theorem qS (q : Bool) (r : Int) (n m : Nat) (c : Bt) (d : Dd) : evF Try.prog (KRS r 1 n m c d) (noQ q (tSk n m c d (sc (enS 1 n c) 1 d))) 20 8 33 (A2 r n m) (H2 n m c d) = some (.node (!(gv r n c m d == 0)) (.leaf (.tup [z0, z0, .int .i64 (gv r n c m d)], none)) (.node (allB m fun k => !bdC (sc (enS 1 n c) 1 d) k) (.leaf (.tup [z0, z0, .lit (.int .i64 6)], none)) (.leaf (.tup [.int .i64 (Int.ofNat (fb (fun k => !bdC (sc (enS 1 n c) 1 d) k) m)), .int .i64 (sc (enS 1 n c) 1 d (fb (fun k => !bdC (sc (enS 1 n c) 1 d) k) m)), .int .i64 0], none))), andB (okG r n m c d) (impB (!!(gv r n c m d == 0)) (andB (okP' r 1 n m c d) (andB q true)))) := by kernel_rfl
theorem qI (q : Bool) (r : Int) (n m : Nat) (c : Bt) (d : Dd) : evF Try.prog (KRI r 1 n m c d) (noQ q (tRk 1 n m c d)) 20 8 35 (A2 r n m) (H2 n m c d) = some (.node (!(gv r n c m d == 0)) (.leaf (.tup [z0, z0, .int .i64 (gv r n c m d)], none)) (.node (allB m (P12.okC 1 n c d)) (.leaf (.tup [z0, z0, .lit (.int .i64 6)], none)) (.leaf (.tup [.int .i64 (Int.ofNat (fb (P12.okC 1 n c d) m)), .int .i64 (sc (enS 1 n c) 1 d (fb (P12.okC 1 n c d) m)), .int .i64 0], none))), andB (W10.okC r n m c d) (impB (!!(gv r n c m d == 0)) (andB (okB' r 1 n c) (andB q true)))) := by kernel_rfl
theorem sX (r : Int) (n m : Nat) (c : Bt) (d : Dd) : SumOk Try.prog 33 (runRf r n m c d 0 0 (gv r n c m d) (gX r n m c d)) :=
  rfX r n m c d (addK_ok (gS r n m c d) (addK_ok (playS (R := 1) (by omega) (by omega) n m c d) extK_ok)) (noP (tSk n m c d (sc (enS 1 n c) 1 d))) (noP_ok _ _ _) (qS false r n m c d) fun h1 h2 h3 => okG_true r h1 h2 h3 d
theorem iX (r : Int) (n m : Nat) (c : Bt) (d : Dd) : SumOk Try.prog 35 (runRf r n m c d 0 0 (gv r n c m d) (gX r n m c d)) :=
  rfX r n m c d (addK_ok (cI r n m c d) (addK_ok (begI (R := 1) (by omega) (by omega) n c) extK_ok)) (noP (tRk 1 n m c d)) (noP_ok _ _ _) (qI false r n m c d) fun h1 h2 h3 => W10.okC_true r h1 h2 h3 d
theorem gX_true {r : Int} {n m : Nat} {c : Bt} {d : Dd} (hn : n ≤ few) (hm : m ≤ few) (hc : NmOk n c) (h : (gv r n c m d == 0) = false) : gX r n m c d = true := by
  unfold gX; rw [Nat.ble_eq_true_of_le hn, Nat.ble_eq_true_of_le hm, pB_true hc, h]; rfl
theorem gV_true {r : Int} {n m : Nat} {c : Bt} {d : Dd} (hc : NmOk n c) (h : (gv r n c m d == 0) = true) : gV r n m c d = true := by unfold gV; rw [pB_true hc, h]; rfl
/-- both return the same -/
theorem both (r : Int) {n m : Nat} {c : Bt} (d : Dd) (hn : n ≤ few) (hm : m ≤ few) (hc : NmOk n c) : ∃ a b e g, SumOk Try.prog 33 (runRf r n m c d a b e g) ∧ SumOk Try.prog 35 (runRf r n m c d a b e g) ∧ g = true := by
  cases h : (gv r n c m d == 0) with
  | false => exact ⟨_, _, _, _, sX r n m c d, iX r n m c d, gX_true hn hm hc h⟩
  | true =>
    obtain ⟨⟨R, h1, h2, rfl⟩, _⟩ := gv_zero (show gv r n c m d = 0 by simpa using h)
    have hR : R = 1 ∨ R = 2 ∨ R = 3 ∨ R = 4 := by omega
    rcases hR with rfl | rfl | rfl | rfl
    · exact ⟨_, _, _, _, sV1 c d, iV1 c d, gV_true hc h⟩
    · exact ⟨_, _, _, _, sV2 c d, iV2 c d, gV_true hc h⟩
    · exact ⟨_, _, _, _, sV3 c d, iV3 c d, gV_true hc h⟩
    · exact ⟨_, _, _, _, sV4 c d, iV4 c d, gV_true hc h⟩
end Go.Proofs.Ytllonddgbjgmdaa.P14
set_option linter.unusedVariables false
set_option linter.unusedSimpArgs false
set_option maxRecDepth 100000
namespace Go.Proofs.Ytllonddgbjgmdaa.P17
open Go.Sx Go.Sx.R0 Go.RowKit Go.Proofs.Ytllonddgbjgmdaa.W1 Go.Proofs.Ytllonddgbjgmdaa.W3 Go.Proofs.Ytllonddgbjgmdaa.W5 Go.Proofs.Ytllonddgbjgmdaa.W9 Go.Proofs.Ytllonddgbjgmdaa.W10 Go.Proofs.Ytllonddgbjgmdaa.P1 Go.Proofs.Ytllonddgbjgmdaa.P2 Go.Proofs.Ytllonddgbjgmdaa.P3 Go.Proofs.Ytllonddgbjgmdaa.P4 Go.Proofs.Ytllonddgbjgmdaa.P5 Go.Proofs.Ytllonddgbjgmdaa.P6 Go.Proofs.Ytllonddgbjgmdaa.P7 Go.Proofs.Ytllonddgbjgmdaa.P8 Go.Proofs.Ytllonddgbjgmdaa.P9 Go.Proofs.Ytllonddgbjgmdaa.P10 Go.Proofs.Ytllonddgbjgmdaa.P11 Go.Proofs.Ytllonddgbjgmdaa.P12 Go.Proofs.Ytllonddgbjgmdaa.P13 Go.Proofs.Ytllonddgbjgmdaa.P14 Go.Proofs.Ytllonddgbjgmdaa.P15

def inR (b : Int) (n : Nat) : Bool := cond (decide (0 ≤ b)) (decide (b ≤ IntKind.i64.wrap ((n : Int) - 1))) false
noncomputable def vc (r : Int) (n m : Nat) (c : Bt) (d : Dd) (b : Int) : Int := cond (cond (gv r n c m d == 0) (!inR b n) false) 2 (gv r n c m d)
theorem vc_z (r : Int) (n m : Nat) (c : Bt) (d : Dd) (b : Int) : (vc r n m c d b == 0) = ((gv r n c m d == 0) && inR b n) := by
  unfold vc
  cases hg : (gv r n c m d == 0) with
  | true =>
    cases inR b n with
    | true => simp only [Bool.not_true, cond_true, cond_false, hg]; rfl
    | false => rfl
  | false => simp only [cond_false, hg]; rfl
def v8 (v : Nat → Int) : List AV := [.int .i64 (v 0), .int .i64 (v 1), .int .i64 (v 2), .int .i64 (v 3), .int .i64 (v 4), .int .i64 (v 5), .int .i64 (v 6), .int .i64 (v 7)]
def lfV (v : Nat → Int) (e : Int) : AV × Option (List Blk) := (.tup [.agg (v8 v), .int .i64 e], none)
noncomputable def vtA (R n m : Nat) (c : Bt) (d : Dd) (b : Int) (j : Nat) : Int := (sq (enS R n c) R d m).vt j (b.toNat + 0)
def A3 (r : Int) (n m : Nat) (b : Int) : List AV := A2 r n m ++ [.int .i64 b]
noncomputable def KVI (r : Int) (R n m : Nat) (c : Bt) (d : Dd) : CallerT := addK 68 (runC r n m c d) (addK 73 (runAf R n m c d) extK)
noncomputable def okAf' (r : Int) (R n m : Nat) (c : Bt) (d : Dd) : Bool := andB (deq (A2 r n m) (A2 (Int.ofNat R) n m)) (andB (deqH (H2 n m c d) (H2 n m c d)) (Nat.ble n 1000 && pB (P10.okD m d)))
def obV (b : Int) (n : Nat) : Bool := andB (inB b n) (andB (Nat.blt (b.toNat + 0) n) true)
noncomputable def TVS (r : Int) (R n m : Nat) (c : Bt) (d : Dd) (b : Int) : Tr (AV × Option (List Blk)) := .node (!(vc r n m c d b == 0)) (.leaf (lfV (fun _ => 0) (vc r n m c d b))) (.leaf (.tup [.agg (v8 (vtA R n m c d b)), z0], none))
noncomputable def oVS (r : Int) (R n m : Nat) (c : Bt) (d : Dd) (b : Int) : Bool := andB (okG r n m c d) (impB (!!(vc r n m c d b == 0)) (andB (okP' r R n m c d) (obV b n)))
noncomputable def TVI (r : Int) (R n m : Nat) (c : Bt) (d : Dd) (b : Int) : Tr (AV × Option (List Blk)) := .node (!(gv r n c m d == 0)) (.leaf (lfV (fun _ => 0) (gv r n c m d))) (.node (!inR b n) (.leaf (.tup [.agg (v8 fun _ => 0), .lit (.int .i64 2)], none)) (.leaf (.tup [.agg (v8 (vtA R n m c d b)), z0], none)))
noncomputable def oVI (r : Int) (R n m : Nat) (c : Bt) (d : Dd) (b : Int) : Bool := andB (W10.okC r n m c d) (impB (!!(gv r n c m d == 0)) (impB (!!inR b n) (andB (okAf' r R n m c d) (obV b n))))
theorem vS1 (r : Int) (n m : Nat) (c : Bt) (d : Dd) (b : Int) : evF Try.prog (KRS r 1 n m c d) noL 20 8 37 (A3 r n m b) (H2 n m c d) = some (TVS r 1 n m c d b, oVS r 1 n m c d b) := by kernel_rfl
theorem vI1 (r : Int) (n m : Nat) (c : Bt) (d : Dd) (b : Int) : evF Try.prog (KVI r 1 n m c d) noL 20 8 38 (A3 r n m b) (H2 n m c d) = some (TVI r 1 n m c d b, oVI r 1 n m c d b) := by kernel_rfl
theorem vS2 (r : Int) (n m : Nat) (c : Bt) (d : Dd) (b : Int) : evF Try.prog (KRS r 2 n m c d) noL 20 8 37 (A3 r n m b) (H2 n m c d) = some (TVS r 2 n m c d b, oVS r 2 n m c d b) := by kernel_rfl
theorem vI2 (r : Int) (n m : Nat) (c : Bt) (d : Dd) (b : Int) : evF Try.prog (KVI r 2 n m c d) noL 20 8 38 (A3 r n m b) (H2 n m c d) = some (TVI r 2 n m c d b, oVI r 2 n m c d b) := by kernel_rfl
theorem vS3 (r : Int) (n m : Nat) (c : Bt) (d : Dd) (b : Int) : evF Try.prog (KRS r 3 n m c d) noL 20 8 37 (A3 r n m b) (H2 n m c d) = some (TVS r 3 n m c d b, oVS r 3 n m c d b) := by kernel_rfl
theorem vI3 (r : Int) (n m : Nat) (c : Bt) (d : Dd) (b : Int) : evF Try.prog (KVI r 3 n m c d) noL 20 8 38 (A3 r n m b) (H2 n m c d) = some (TVI r 3 n m c d b, oVI r 3 n m c d b) := by kernel_rfl
theorem vS4 (r : Int) (n m : Nat) (c : Bt) (d : Dd) (b : Int) : evF Try.prog (KRS r 4 n m c d) noL 20 8 37 (A3 r n m b) (H2 n m c d) = some (TVS r 4 n m c d b, oVS r 4 n m c d b) := by kernel_rfl
theorem vI4 (r : Int) (n m : Nat) (c : Bt) (d : Dd) (b : Int) : evF Try.prog (KVI r 4 n m c d) noL 20 8 38 (A3 r n m b) (H2 n m c d) = some (TVI r 4 n m c d b, oVI r 4 n m c d b) := by kernel_rfl
noncomputable def runVt (r : Int) (n m : Nat) (c : Bt) (d : Dd) (b : Int) (v : Nat → Int) (e : Int) (g : Bool) : List AV → List Blk → Option Lf := selRun (runAtH (A3 r n m b) (H2 n m c d) (.leaf (lfV v e)) g)
noncomputable def okVt (r : Int) (n m : Nat) (c : Bt) (d : Dd) (b : Int) (g : Bool) : Bool := andB (deq (A3 r n m b) (A3 r n m b)) (andB (deqH (H2 n m c d) (H2 n m c d)) g)
theorem okVt_true (r : Int) (n m : Nat) (c : Bt) (d : Dd) (b : Int) {g : Bool} (h : g = true) : okVt r n m c d b g = true := by unfold okVt; rw [deq_self, deqH_self, h]; rfl
noncomputable def gVX (r : Int) (n m : Nat) (c : Bt) (d : Dd) (b : Int) : Bool := andB (Nat.ble n few) (andB (Nat.ble m few) (andB (pB (NmOk n c)) (!(vc r n m c d b == 0))))
noncomputable def gVV (r : Int) (n m : Nat) (c : Bt) (d : Dd) (b : Int) : Bool := andB (pB (NmOk n c)) (vc r n m c d b == 0)
theorem inR_lt {b : Int} {n : Nat} (hn : n ≤ 1000) (h : inR b n = true) : 0 ≤ b ∧ b < (n : Int) := by
  unfold inR at h
  rw [wrap_i64 (by omega) (by omega)] at h
  cases h1 : decide (0 ≤ b) with
  | false => rw [h1] at h; cases h
  | true =>
    rw [h1] at h
    have := of_decide_eq_true h1
    have := of_decide_eq_true (show decide (b ≤ (n : Int) - 1) = true from h)
    omega
theorem obV_true {b : Int} {n : Nat} (h : 0 ≤ b ∧ b < (n : Int)) : obV b n = true := by
  unfold obV
  rw [blt_lt (show b.toNat + 0 < n by omega)]
  simp [inB, h.1, h.2, andB]
theorem vSX (r : Int) (n m : Nat) (c : Bt) (d : Dd) (b : Int) : SumOk Try.prog 37 (runVt r n m c d b (fun _ => 0) (vc r n m c d b) (gVX r n m c d b)) := sum_atH sxApart sxMixed (addK_ok (gS r n m c d) (addK_ok (playS (R := 1) (by omega) (by omega) n m c d) extK_ok)) noL (N := 20) (d := 8) fun hg => by
  obtain ⟨h1, hg⟩ := andB_true hg
  obtain ⟨h2, hg⟩ := andB_true hg
  obtain ⟨h3, h4⟩ := andB_true hg
  have h := vS1 r n m c d b
  have ho : oVS r 1 n m c d b = true := by
    unfold oVS
    rw [okG_true r (Nat.le_of_ble_eq_true h1) (Nat.le_of_ble_eq_true h2) (pB_of h3), h4]
    cases (andB (okP' r 1 n m c d) (obV b n)) <;> rfl
  rw [ho] at h
  refine ⟨noL_all, _, h, ?_⟩
  unfold TVS
  rw [h4]
  exact LLe.refl _
theorem vIX (r : Int) (n m : Nat) (c : Bt) (d : Dd) (b : Int) : SumOk Try.prog 38 (runVt r n m c d b (fun _ => 0) (vc r n m c d b) (gVX r n m c d b)) := sum_atH sxApart sxMixed (addK_ok (cI r n m c d) (addK_ok (afI (R := 1) (by omega) (by omega) n m c d) extK_ok)) noL (N := 20) (d := 8) fun hg => by
  obtain ⟨h1, hg⟩ := andB_true hg
  obtain ⟨h2, hg⟩ := andB_true hg
  obtain ⟨h3, h4⟩ := andB_true hg
  have h := vI1 r n m c d b
  rw [vc_z] at h4
  have ho : oVI r 1 n m c d b = true := by
    unfold oVI
    rw [W10.okC_true r (Nat.le_of_ble_eq_true h1) (Nat.le_of_ble_eq_true h2) (pB_of h3)]
    cases hz : (gv r n c m d == 0) with
    | false => cases (impB (!!inR b n) (andB (okAf' r 1 n m c d) (obV b n))) <;> rfl
    | true =>
      rw [hz, Bool.true_and] at h4
      rw [h4]
      cases (andB (okAf' r 1 n m c d) (obV b n)) <;> rfl
  rw [ho] at h
  refine ⟨noL_all, _, h, ?_⟩
  unfold TVI vc
  cases hz : (gv r n c m d == 0) with
  | false => exact LLe.refl _
  | true =>
    rw [hz, Bool.true_and] at h4
    rw [h4]
    exact LLe.of rfl rfl rfl
theorem vSV1 {n m : Nat} (c : Bt) (d : Dd) (b : Int) : SumOk Try.prog 37 (runVt (Int.ofNat 1) n m c d b (vtA 1 n m c d b) 0 (gVV (Int.ofNat 1) n m c d b)) := sum_atH sxApart sxMixed (addK_ok (gS (Int.ofNat 1) n m c d) (addK_ok (playS (R := 1) (by omega) (by omega) n m c d) extK_ok)) noL (N := 20) (d := 8) fun hg => by
  obtain ⟨h3, h4⟩ := andB_true hg
  have h5 := h4
  rw [vc_z, Bool.and_eq_true] at h5
  have h0 : gv (Int.ofNat 1) n c m d = 0 := by simpa using h5.1
  obtain ⟨_, hn, hd, hm⟩ := gv_zero h0
  have hf := few_eq
  have hb := inR_lt (by omega) h5.2
  have h := vS1 (Int.ofNat 1) n m c d b
  have ho : oVS (Int.ofNat 1) 1 n m c d b = true := by
    unfold oVS okP'
    rw [okG_true _ (by omega) (by omega) (pB_of h3), h4, deq_self, show deqH (W10.hg (Int.ofNat 1) n m c d) (hP 1 n m c d) = true from deqH_self _, Nat.ble_eq_true_of_le (show n ≤ 1000 by omega), pB_true hd, obV_true hb]
    rfl
  rw [ho] at h
  refine ⟨noL_all, _, h, ?_⟩
  unfold TVS
  rw [h4]
  exact LLe.of rfl rfl rfl
theorem vIV1 {n m : Nat} (c : Bt) (d : Dd) (b : Int) : SumOk Try.prog 38 (runVt (Int.ofNat 1) n m c d b (vtA 1 n m c d b) 0 (gVV (Int.ofNat 1) n m c d b)) := sum_atH sxApart sxMixed (addK_ok (cI (Int.ofNat 1) n m c d) (addK_ok (afI (R := 1) (by omega) (by omega) n m c d) extK_ok)) noL (N := 20) (d := 8) fun hg => by
  obtain ⟨h3, h4⟩ := andB_true hg
  have h5 := h4
  rw [vc_z, Bool.and_eq_true] at h5
  have h0 : gv (Int.ofNat 1) n c m d = 0 := by simpa using h5.1
  obtain ⟨_, hn, hd, hm⟩ := gv_zero h0
  have hf := few_eq
  have hb := inR_lt (by omega) h5.2
  have h := vI1 (Int.ofNat 1) n m c d b
  have ho : oVI (Int.ofNat 1) 1 n m c d b = true := by
    unfold oVI okAf'
    rw [W10.okC_true _ (by omega) (by omega) (pB_of h3), h5.1, h5.2, deq_self, deqH_self, Nat.ble_eq_true_of_le (show n ≤ 1000 by omega), pB_true hd, obV_true hb]
    rfl
  rw [ho] at h
  refine ⟨noL_all, _, h, ?_⟩
  unfold TVI
  rw [h5.1, h5.2]
  exact LLe.of rfl rfl rfl
theorem vSV2 {n m : Nat} (c : Bt) (d : Dd) (b : Int) : SumOk Try.prog 37 (runVt (Int.ofNat 2) n m c d b (vtA 2 n m c d b) 0 (gVV (Int.ofNat 2) n m c d b)) := sum_atH sxApart sxMixed (addK_ok (gS (Int.ofNat 2) n m c d) (addK_ok (playS (R := 2) (by omega) (by omega) n m c d) extK_ok)) noL (N := 20) (d := 8) fun hg => by
  obtain ⟨h3, h4⟩ := andB_true hg
  have h5 := h4
  rw [vc_z, Bool.and_eq_true] at h5
  have h0 : gv (Int.ofNat 2) n c m d = 0 := by simpa using h5.1
  obtain ⟨_, hn, hd, hm⟩ := gv_zero h0
  have hf := few_eq
  have hb := inR_lt (by omega) h5.2
  have h := vS2 (Int.ofNat 2) n m c d b
  have ho : oVS (Int.ofNat 2) 2 n m c d b = true := by
    unfold oVS okP'
    rw [okG_true _ (by omega) (by omega) (pB_of h3), h4, deq_self, show deqH (W10.hg (Int.ofNat 2) n m c d) (hP 2 n m c d) = true from deqH_self _, Nat.ble_eq_true_of_le (show n ≤ 1000 by omega), pB_true hd, obV_true hb]
    rfl
  rw [ho] at h
  refine ⟨noL_all, _, h, ?_⟩
  unfold TVS
  rw [h4]
  exact LLe.of rfl rfl rfl
theorem vIV2 {n m : Nat} (c : Bt) (d : Dd) (b : Int) : SumOk Try.prog 38 (runVt (Int.ofNat 2) n m c d b (vtA 2 n m c d b) 0 (gVV (Int.ofNat 2) n m c d b)) := sum_atH sxApart sxMixed (addK_ok (cI (Int.ofNat 2) n m c d) (addK_ok (afI (R := 2) (by omega) (by omega) n m c d) extK_ok)) noL (N := 20) (d := 8) fun hg => by
  obtain ⟨h3, h4⟩ := andB_true hg
  have h5 := h4
  rw [vc_z, Bool.and_eq_true] at h5
  have h0 : gv (Int.ofNat 2) n c m d = 0 := by simpa using h5.1
  obtain ⟨_, hn, hd, hm⟩ := gv_zero h0
  have hf := few_eq
  have hb := inR_lt (by omega) h5.2
  have h := vI2 (Int.ofNat 2) n m c d b
  have ho : oVI (Int.ofNat 2) 2 n m c d b = true := by
    unfold oVI okAf'
    rw [W10.okC_true _ (by omega) (by omega) (pB_of h3), h5.1, h5.2, deq_self, deqH_self, Nat.ble_eq_true_of_le (show n ≤ 1000 by omega), pB_true hd, obV_true hb]
    rfl
  rw [ho] at h
  refine ⟨noL_all, _, h, ?_⟩
  unfold TVI
  rw [h5.1, h5.2]
  exact LLe.of rfl rfl rfl
theorem vSV3 {n m : Nat} (c : Bt) (d : Dd) (b : Int) : SumOk Try.prog 37 (runVt (Int.ofNat 3) n m c d b (vtA 3 n m c d b) 0 (gVV (Int.ofNat 3) n m c d b)) := sum_atH sxApart sxMixed (addK_ok (gS (Int.ofNat 3) n m c d) (addK_ok (playS (R := 3) (by omega) (by omega) n m c d) extK_ok)) noL (N := 20) (d := 8) fun hg => by
  obtain ⟨h3, h4⟩ := andB_true hg
  have h5 := h4
  rw [vc_z, Bool.and_eq_true] at h5
  have h0 : gv (Int.ofNat 3) n c m d = 0 := by simpa using h5.1
  obtain ⟨_, hn, hd, hm⟩ := gv_zero h0
  have hf := few_eq
  have hb := inR_lt (by omega) h5.2
  have h := vS3 (Int.ofNat 3) n m c d b
  have ho : oVS (Int.ofNat 3) 3 n m c d b = true := by
    unfold oVS okP'
    rw [okG_true _ (by omega) (by omega) (pB_of h3), h4, deq_self, show deqH (W10.hg (Int.ofNat 3) n m c d) (hP 3 n m c d) = true from deqH_self _, Nat.ble_eq_true_of_le (show n ≤ 1000 by omega), pB_true hd, obV_true hb]
    rfl
  rw [ho] at h
  refine ⟨noL_all, _, h, ?_⟩
  unfold TVS
  rw [h4]
  exact LLe.of rfl rfl rfl
theorem vIV3 {n m : Nat} (c : Bt) (d : Dd) (b : Int) : SumOk Try.prog 38 (runVt (Int.ofNat 3) n m c d b (vtA 3 n m c d b) 0 (gVV (Int.ofNat 3) n m c d b)) := sum_atH sxApart sxMixed (addK_ok (cI (Int.ofNat 3) n m c d) (addK_ok (afI (R := 3) (by omega) (by omega) n m c d) extK_ok)) noL (N := 20) (d := 8) fun hg => by
  obtain ⟨h3, h4⟩ := andB_true hg
  have h5 := h4
  rw [vc_z, Bool.and_eq_true] at h5
  have h0 : gv (Int.ofNat 3) n c m d = 0 := by simpa using h5.1
  obtain ⟨_, hn, hd, hm⟩ := gv_zero h0
  have hf := few_eq
  have hb := inR_lt (by omega) h5.2
  have h := vI3 (Int.ofNat 3) n m c d b
  have ho : oVI (Int.ofNat 3) 3 n m c d b = true := by
    unfold oVI okAf'
    rw [W10.okC_true _ (by omega) (by omega) (pB_of h3), h5.1, h5.2, deq_self, deqH_self, Nat.ble_eq_true_of_le (show n ≤ 1000 by omega), pB_true hd, obV_true hb]
    rfl
  rw [ho] at h
  refine ⟨noL_all, _, h, ?_⟩
  unfold TVI
  rw [h5.1, h5.2]
  exact LLe.of rfl rfl rfl
theorem vSV4 {n m : Nat} (c : Bt) (d : Dd) (b : Int) : SumOk Try.prog 37 (runVt (Int.ofNat 4) n m c d b (vtA 4 n m c d b) 0 (gVV (Int.ofNat 4) n m c d b)) := sum_atH sxApart sxMixed (addK_ok (gS (Int.ofNat 4) n m c d) (addK_ok (playS (R := 4) (by omega) (by omega) n m c d) extK_ok)) noL (N := 20) (d := 8) fun hg => by
  obtain ⟨h3, h4⟩ := andB_true hg
  have h5 := h4
  rw [vc_z, Bool.and_eq_true] at h5
  have h0 : gv (Int.ofNat 4) n c m d = 0 := by simpa using h5.1
  obtain ⟨_, hn, hd, hm⟩ := gv_zero h0
  have hf := few_eq
  have hb := inR_lt (by omega) h5.2
  have h := vS4 (Int.ofNat 4) n m c d b
  have ho : oVS (Int.ofNat 4) 4 n m c d b = true := by
    unfold oVS okP'
    rw [okG_true _ (by omega) (by omega) (pB_of h3), h4, deq_self, show deqH (W10.hg (Int.ofNat 4) n m c d) (hP 4 n m c d) = true from deqH_self _, Nat.ble_eq_true_of_le (show n ≤ 1000 by omega), pB_true hd, obV_true hb]
    rfl
  rw [ho] at h
  refine ⟨noL_all, _, h, ?_⟩
  unfold TVS
  rw [h4]
  exact LLe.of rfl rfl rfl
theorem vIV4 {n m : Nat} (c : Bt) (d : Dd) (b : Int) : SumOk Try.prog 38 (runVt (Int.ofNat 4) n m c d b (vtA 4 n m c d b) 0 (gVV (Int.ofNat 4) n m c d b)) := sum_atH sxApart sxMixed (addK_ok (cI (Int.ofNat 4) n m c d) (addK_ok (afI (R := 4) (by omega) (by omega) n m c d) extK_ok)) noL (N := 20) (d := 8) fun hg => by
  obtain ⟨h3, h4⟩ := andB_true hg
  have h5 := h4
  rw [vc_z, Bool.and_eq_true] at h5
  have h0 : gv (Int.ofNat 4) n c m d = 0 := by simpa using h5.1
  obtain ⟨_, hn, hd, hm⟩ := gv_zero h0
  have hf := few_eq
  have hb := inR_lt (by omega) h5.2
  have h := vI4 (Int.ofNat 4) n m c d b
  have ho : oVI (Int.ofNat 4) 4 n m c d b = true := by
    unfold oVI okAf'
    rw [W10.okC_true _ (by omega) (by omega) (pB_of h3), h5.1, h5.2, deq_self, deqH_self, Nat.ble_eq_true_of_le (show n ≤ 1000 by omega), pB_true hd, obV_true hb]
    rfl
  rw [ho] at h
  refine ⟨noL_all, _, h, ?_⟩
  unfold TVI
  rw [h5.1, h5.2]
  exact LLe.of rfl rfl rfl
theorem both (r : Int) {n m : Nat} {c : Bt} (d : Dd) (b : Int) (hn : n ≤ few) (hm : m ≤ few) (hc : NmOk n c) : ∃ v e g, SumOk Try.prog 37 (runVt r n m c d b v e g) ∧ SumOk Try.prog 38 (runVt r n m c d b v e g) ∧ g = true := by
  cases h : (vc r n m c d b == 0) with
  | false => exact ⟨_, _, _, vSX r n m c d b, vIX r n m c d b, by unfold gVX; rw [Nat.ble_eq_true_of_le hn, Nat.ble_eq_true_of_le hm, pB_true hc, h]; rfl⟩
  | true =>
    have h5 := h
    rw [vc_z, Bool.and_eq_true] at h5
    obtain ⟨⟨R, h1, h2, rfl⟩, _⟩ := gv_zero (show gv r n c m d = 0 by simpa using h5.1)
    have hg : gVV (Int.ofNat R) n m c d b = true := by unfold gVV; rw [pB_true hc, h]; rfl
    have hR : R = 1 ∨ R = 2 ∨ R = 3 ∨ R = 4 := by omega
    rcases hR with rfl | rfl | rfl | rfl
    · exact ⟨_, _, _, vSV1 c d b, vIV1 c d b, hg⟩
    · exact ⟨_, _, _, vSV2 c d b, vIV2 c d b, hg⟩
    · exact ⟨_, _, _, vSV3 c d b, vIV3 c d b, hg⟩
    · exact ⟨_, _, _, vSV4 c d b, vIV4 c d b, hg⟩
end Go.Proofs.Ytllonddgbjgmdaa.P17
