/- Texts of one claim, put together. -/
import Derived.Test.YtllonddgbjgmdaaXSxP19
import Derived.Test.YtllonddgbjgmdaaXSxP23
set_option linter.unusedVariables false
set_option linter.unusedSimpArgs false
set_option maxRecDepth 100000
namespace Go.Proofs.Ytllonddgbjgmdaa.P24
open Go.Sx Go.Sx.R0 Go.RowKit Go.Proofs.Ytllonddgbjgmdaa.W1 Go.Proofs.Ytllonddgbjgmdaa.W3 Go.Proofs.Ytllonddgbjgmdaa.W5 Go.Proofs.Ytllonddgbjgmdaa.W9 Go.Proofs.Ytllonddgbjgmdaa.W10 Go.Proofs.Ytllonddgbjgmdaa.P1 Go.Proofs.Ytllonddgbjgmdaa.P2 Go.Proofs.Ytllonddgbjgmdaa.P3 Go.Proofs.Ytllonddgbjgmdaa.P4 Go.Proofs.Ytllonddgbjgmdaa.P5 Go.Proofs.Ytllonddgbjgmdaa.P6 Go.Proofs.Ytllonddgbjgmdaa.P7 Go.Proofs.Ytllonddgbjgmdaa.P8 Go.Proofs.Ytllonddgbjgmdaa.P9 Go.Proofs.Ytllonddgbjgmdaa.P10 Go.Proofs.Ytllonddgbjgmdaa.P11 Go.Proofs.Ytllonddgbjgmdaa.P12 Go.Proofs.Ytllonddgbjgmdaa.P13 Go.Proofs.Ytllonddgbjgmdaa.P14 Go.Proofs.Ytllonddgbjgmdaa.P15 Go.Proofs.Ytllonddgbjgmdaa.P17 Go.Proofs.Ytllonddgbjgmdaa.P19

/-- blocks told as dead -/
def kl : Nat → Nat → List Blk → List Blk
  | s + 1, k, x :: t => x :: kl s k t
  | 0, k + 1, _ :: t => .dead :: kl 0 k t
  | _, _, l => l
theorem kl_le : ∀ (s k : Nat) (H : List Blk), HLe H (kl s k H)
  | s + 1, k, x :: t => ⟨BLe.refl x, kl_le s k t⟩
  | 0, k + 1, x :: t => ⟨BLe.dead x, kl_le 0 k t⟩
  | s + 1, k, [] => trivial
  | 0, k + 1, [] => trivial
  | 0, 0, H => by unfold kl; exact HLe.refl H
def klX (R s k : Nat) (x : AV × Option (List Blk)) : AV × Option (List Blk) := match x with
  | (v, some H) => (v, some (cutA R (s + k + 1) (kl s k H)))
  | (v, none) => (v, none)
theorem klX_le (R s k : Nat) (x : AV × Option (List Blk)) : LLe x (klX R s k x) := by
  obtain ⟨v, H⟩ := x
  cases H with
  | none => exact LLe.refl _
  | some H => exact LLe.ofH (HLe.tr (kl_le s k H) (cutA_le R _ _))
theorem kl_of {e : Option (Tr (AV × Option (List Blk)) × Bool)} {R s k : Nat} {T : Tr (AV × Option (List Blk))} (h : e.map (fun x => (mapTr (klX R s k) x.1, x.2)) = some (T, true)) : ∃ T', e = some (T', true) ∧ LLe T'.get T.get := by
  obtain ⟨T', h1, h2⟩ := map_some h
  refine ⟨T', h1, ?_⟩
  rw [← h2, mapTr_get]
  exact klX_le R s k _
-- the floor that is given back
def flV (b n R M w : Nat) : AV := .agg [.slc b 0 n, .slc (b + 1) 0 R, .slc (b + 2) 0 M, .slc (b + 3) 0 M, .slc (b + 4) 0 w]
def flB (b n R M : Nat) (F : Fl) : List Blk := [.rows true n 8 F.vrow, .rows true R 1 (canT (b + 5) M R), .rows true M 1 F.krow, .rows true M 1 F.srow, .rows true F.w 2 F.wrow] ++ bks M F R
def dds : Nat → List Blk
  | 0 => []
  | k + 1 => .dead :: dds k
def lfF (j n R m : Nat) (c : Bt) (d : Dd) (F : Fl) (dn : Int) : AV × Option (List Blk) := (.tup [flV (2 + j) n R (mOf c n) F.w, .int .i64 dn, z0], some (H2 n m c d ++ (dds j ++ flB (2 + j) n R (mOf c n) F)))
def lfX (e : Int) : AV × Option (List Blk) := (.tup [.agg [.nils, .nils, .nils, .nils, .nils], z0, .int .i64 e], none)
noncomputable def TFX (j : Nat) (r : Int) (R n m : Nat) (c : Bt) (d : Dd) (F : Fl) (dn : Int) : Tr (AV × Option (List Blk)) := .node (!(gv r n c m d == 0)) (.leaf (lfX (gv r n c m d))) (.leaf (lfF j n R m c d F dn))
noncomputable def LFS (r : Int) (R n m : Nat) (c : Bt) (d : Dd) (C : Nat → Int) (F : Fl) : LoopOr := loopGc 8 [4, 8, 9, 10, 11] R 2 (autoR R 2 8) 8 (Fc r R n m c d C F 0 0) (.leaf (.ext 0, FcE r R n m c d C F (cnt C m))) noL
noncomputable def oFS (r : Int) (R n m : Nat) (c : Bt) (d : Dd) (s : St) : Bool := andB (okG r n m c d) (impB (!!(gv r n c m d == 0)) (andB (okP' r R n m c d) (andB (deqS s s) true)))
noncomputable def oFI (r : Int) (R n m : Nat) (c : Bt) (d : Dd) : Bool := andB (W10.okC r n m c d) (impB (!!(gv r n c m d == 0)) (andB (okAf' r R n m c d) true))
theorem fS1 (r : Int) (n m : Nat) (c : Bt) (d : Dd) : (evF Try.prog (KRS r 1 n m c d) (LFS r 1 n m c d (sc (enS 1 n c) 1 d) (sq (enS 1 n c) 1 d m)) 20 8 45 (A2 r n m) (H2 n m c d)).map (fun x => (mapTr (klX 1 2 5) x.1, x.2)) = some (TFX 5 r 1 n m c d (sq (enS 1 n c) 1 d m) (cnt (sc (enS 1 n c) 1 d) m), oFS r 1 n m c d (Fc r 1 n m c d (sc (enS 1 n c) 1 d) (sq (enS 1 n c) 1 d m) 0 0)) := by kernel_rfl
theorem fI1 (r : Int) (n m : Nat) (c : Bt) (d : Dd) : (evF Try.prog (KVI r 1 n m c d) noL 20 8 46 (A2 r n m) (H2 n m c d)).map (fun x => (mapTr (klX 1 2 4) x.1, x.2)) = some (TFX 4 r 1 n m c d (sq (enS 1 n c) 1 d m) (dnc (enS 1 n c) 1 d m), oFI r 1 n m c d) := by kernel_rfl
theorem fS2 (r : Int) (n m : Nat) (c : Bt) (d : Dd) : (evF Try.prog (KRS r 2 n m c d) (LFS r 2 n m c d (sc (enS 2 n c) 2 d) (sq (enS 2 n c) 2 d m)) 20 8 45 (A2 r n m) (H2 n m c d)).map (fun x => (mapTr (klX 2 2 5) x.1, x.2)) = some (TFX 5 r 2 n m c d (sq (enS 2 n c) 2 d m) (cnt (sc (enS 2 n c) 2 d) m), oFS r 2 n m c d (Fc r 2 n m c d (sc (enS 2 n c) 2 d) (sq (enS 2 n c) 2 d m) 0 0)) := by kernel_rfl
theorem fI2 (r : Int) (n m : Nat) (c : Bt) (d : Dd) : (evF Try.prog (KVI r 2 n m c d) noL 20 8 46 (A2 r n m) (H2 n m c d)).map (fun x => (mapTr (klX 2 2 4) x.1, x.2)) = some (TFX 4 r 2 n m c d (sq (enS 2 n c) 2 d m) (dnc (enS 2 n c) 2 d m), oFI r 2 n m c d) := by kernel_rfl
theorem fS3 (r : Int) (n m : Nat) (c : Bt) (d : Dd) : (evF Try.prog (KRS r 3 n m c d) (LFS r 3 n m c d (sc (enS 3 n c) 3 d) (sq (enS 3 n c) 3 d m)) 20 8 45 (A2 r n m) (H2 n m c d)).map (fun x => (mapTr (klX 3 2 5) x.1, x.2)) = some (TFX 5 r 3 n m c d (sq (enS 3 n c) 3 d m) (cnt (sc (enS 3 n c) 3 d) m), oFS r 3 n m c d (Fc r 3 n m c d (sc (enS 3 n c) 3 d) (sq (enS 3 n c) 3 d m) 0 0)) := by kernel_rfl
theorem fI3 (r : Int) (n m : Nat) (c : Bt) (d : Dd) : (evF Try.prog (KVI r 3 n m c d) noL 20 8 46 (A2 r n m) (H2 n m c d)).map (fun x => (mapTr (klX 3 2 4) x.1, x.2)) = some (TFX 4 r 3 n m c d (sq (enS 3 n c) 3 d m) (dnc (enS 3 n c) 3 d m), oFI r 3 n m c d) := by kernel_rfl
theorem fS4 (r : Int) (n m : Nat) (c : Bt) (d : Dd) : (evF Try.prog (KRS r 4 n m c d) (LFS r 4 n m c d (sc (enS 4 n c) 4 d) (sq (enS 4 n c) 4 d m)) 20 8 45 (A2 r n m) (H2 n m c d)).map (fun x => (mapTr (klX 4 2 5) x.1, x.2)) = some (TFX 5 r 4 n m c d (sq (enS 4 n c) 4 d m) (cnt (sc (enS 4 n c) 4 d) m), oFS r 4 n m c d (Fc r 4 n m c d (sc (enS 4 n c) 4 d) (sq (enS 4 n c) 4 d m) 0 0)) := by kernel_rfl
theorem fI4 (r : Int) (n m : Nat) (c : Bt) (d : Dd) : (evF Try.prog (KVI r 4 n m c d) noL 20 8 46 (A2 r n m) (H2 n m c d)).map (fun x => (mapTr (klX 4 2 4) x.1, x.2)) = some (TFX 4 r 4 n m c d (sq (enS 4 n c) 4 d m) (dnc (enS 4 n c) 4 d m), oFI r 4 n m c d) := by kernel_rfl
noncomputable def runFl (r : Int) (n m : Nat) (c : Bt) (d : Dd) (x : AV × Option (List Blk)) (g : Bool) : List AV → List Blk → Option Lf := selRun (runAtH (A2 r n m) (H2 n m c d) (.leaf x) g)
-- wrong what is given
theorem qFS (q : Bool) (r : Int) (n m : Nat) (c : Bt) (d : Dd) : (evF Try.prog (KRS r 1 n m c d) (fun body _ => bif Nat.beq (loopId body) 8 then some (.leaf (.ext 0, FcE r 1 n m c d (sc (enS 1 n c) 1 d) F0 0), q) else none) 20 8 45 (A2 r n m) (H2 n m c d)).map (fun x => (mapTr (klX 1 2 5) x.1, x.2)) = some (TFX 5 r 1 n m c d F0 0, andB (okG r n m c d) (impB (!!(gv r n c m d == 0)) (andB (okP' r 1 n m c d) (andB q true)))) := by kernel_rfl
theorem noQ_ok (B : Nat) (f : Nat) (t : Tr (AX × St)) : LOk Try.prog B f (fun body _ => bif Nat.beq (loopId body) 8 then some (t, false) else none) := fun _ _ _ _ body _ _ _ h => by
  simp only at h
  cases hb : Nat.beq (loopId body) 8 <;> rw [hb] at h <;> simp at h
theorem fSX (r : Int) (n m : Nat) (c : Bt) (d : Dd) : SumOk Try.prog 45 (runFl r n m c d (lfX (gv r n c m d)) (gX r n m c d)) := sum_atH sxApart sxMixed (addK_ok (gS r n m c d) (addK_ok (playS (R := 1) (by omega) (by omega) n m c d) extK_ok)) (fun body _ => bif Nat.beq (loopId body) 8 then some (.leaf (.ext 0, FcE r 1 n m c d (sc (enS 1 n c) 1 d) F0 0), false) else none) (N := 20) (d := 8) fun hg => by
  obtain ⟨h1, hg⟩ := andB_true hg
  obtain ⟨h2, hg⟩ := andB_true hg
  obtain ⟨h3, h4⟩ := andB_true hg
  have h := qFS false r n m c d
  rw [okG_true r (Nat.le_of_ble_eq_true h1) (Nat.le_of_ble_eq_true h2) (pB_of h3), h4, show andB true (impB (!true) (andB (okP' r 1 n m c d) (andB false true))) = true from by rw [Bool.not_true, Go.Sx.R0.imp_f]; rfl] at h
  obtain ⟨T', hT, hl⟩ := kl_of h
  refine ⟨noQ_ok _ _ _, T', hT, ?_⟩
  unfold TFX at hl
  rw [h4] at hl
  exact hl
theorem fIX (r : Int) (n m : Nat) (c : Bt) (d : Dd) : SumOk Try.prog 46 (runFl r n m c d (lfX (gv r n c m d)) (gX r n m c d)) := sum_atH sxApart sxMixed (addK_ok (cI r n m c d) (addK_ok (afI (R := 1) (by omega) (by omega) n m c d) extK_ok)) noL (N := 20) (d := 8) fun hg => by
  obtain ⟨h1, hg⟩ := andB_true hg
  obtain ⟨h2, hg⟩ := andB_true hg
  obtain ⟨h3, h4⟩ := andB_true hg
  have h := fI1 r n m c d
  have ho : oFI r 1 n m c d = true := by
    unfold oFI
    rw [W10.okC_true r (Nat.le_of_ble_eq_true h1) (Nat.le_of_ble_eq_true h2) (pB_of h3), h4]
    cases (andB (okAf' r 1 n m c d) true) <;> rfl
  rw [ho] at h
  obtain ⟨T', hT, hl⟩ := kl_of h
  refine ⟨noL_all, T', hT, ?_⟩
  unfold TFX at hl
  rw [h4] at hl
  exact hl
theorem fSV1 {n m : Nat} (c : Bt) (d : Dd) : SumOk Try.prog 45 (runFl (Int.ofNat 1) n m c d (lfF 5 n 1 m c d (sq (enS 1 n c) 1 d m) (dnc (enS 1 n c) 1 d m)) (gV (Int.ofNat 1) n m c d)) := sum_atH sxApart sxMixed (addK_ok (gS (Int.ofNat 1) n m c d) (addK_ok (playS (R := 1) (by omega) (by omega) n m c d) extK_ok)) (LFS (Int.ofNat 1) 1 n m c d (sc (enS 1 n c) 1 d) (sq (enS 1 n c) 1 d m)) (N := 20) (d := 8) fun hg => by
  obtain ⟨h3, h4⟩ := andB_true hg
  have h0 : gv (Int.ofNat 1) n c m d = 0 := by simpa using h4
  obtain ⟨_, hn, hd, hm⟩ := gv_zero h0
  have hf := few_eq
  have h := fS1 (Int.ofNat 1) n m c d
  have ho : oFS (Int.ofNat 1) 1 n m c d (Fc (Int.ofNat 1) 1 n m c d (sc (enS 1 n c) 1 d) (sq (enS 1 n c) 1 d m) 0 0) = true := by
    unfold oFS okP'
    rw [okG_true _ (by omega) (by omega) (pB_of h3), h4, deqS_self, deq_self, show deqH (W10.hg (Int.ofNat 1) n m c d) (hP 1 n m c d) = true from deqH_self _, Nat.ble_eq_true_of_le (show n ≤ 1000 by omega), pB_true hd]
    rfl
  rw [ho] at h
  obtain ⟨T', hT, hl⟩ := kl_of h
  refine ⟨loopGc_all (B := 2) (by decide +kernel) (loopFc 2 _ (by omega) (by omega) n (by omega) c d _ _) noL_all, T', hT, ?_⟩
  unfold TFX at hl
  rw [h4, cnt_dnc] at hl
  exact hl
theorem fIV1 {n m : Nat} (c : Bt) (d : Dd) : SumOk Try.prog 46 (runFl (Int.ofNat 1) n m c d (lfF 4 n 1 m c d (sq (enS 1 n c) 1 d m) (dnc (enS 1 n c) 1 d m)) (gV (Int.ofNat 1) n m c d)) := sum_atH sxApart sxMixed (addK_ok (cI (Int.ofNat 1) n m c d) (addK_ok (afI (R := 1) (by omega) (by omega) n m c d) extK_ok)) noL (N := 20) (d := 8) fun hg => by
  obtain ⟨h3, h4⟩ := andB_true hg
  have h0 : gv (Int.ofNat 1) n c m d = 0 := by simpa using h4
  obtain ⟨_, hn, hd, hm⟩ := gv_zero h0
  have hf := few_eq
  have h := fI1 (Int.ofNat 1) n m c d
  have ho : oFI (Int.ofNat 1) 1 n m c d = true := by
    unfold oFI okAf'
    rw [W10.okC_true _ (by omega) (by omega) (pB_of h3), h4, deq_self, deqH_self, Nat.ble_eq_true_of_le (show n ≤ 1000 by omega), pB_true hd]
    rfl
  rw [ho] at h
  obtain ⟨T', hT, hl⟩ := kl_of h
  refine ⟨noL_all, T', hT, ?_⟩
  unfold TFX at hl
  rw [h4] at hl
  exact hl
theorem fSV2 {n m : Nat} (c : Bt) (d : Dd) : SumOk Try.prog 45 (runFl (Int.ofNat 2) n m c d (lfF 5 n 2 m c d (sq (enS 2 n c) 2 d m) (dnc (enS 2 n c) 2 d m)) (gV (Int.ofNat 2) n m c d)) := sum_atH sxApart sxMixed (addK_ok (gS (Int.ofNat 2) n m c d) (addK_ok (playS (R := 2) (by omega) (by omega) n m c d) extK_ok)) (LFS (Int.ofNat 2) 2 n m c d (sc (enS 2 n c) 2 d) (sq (enS 2 n c) 2 d m)) (N := 20) (d := 8) fun hg => by
  obtain ⟨h3, h4⟩ := andB_true hg
  have h0 : gv (Int.ofNat 2) n c m d = 0 := by simpa using h4
  obtain ⟨_, hn, hd, hm⟩ := gv_zero h0
  have hf := few_eq
  have h := fS2 (Int.ofNat 2) n m c d
  have ho : oFS (Int.ofNat 2) 2 n m c d (Fc (Int.ofNat 2) 2 n m c d (sc (enS 2 n c) 2 d) (sq (enS 2 n c) 2 d m) 0 0) = true := by
    unfold oFS okP'
    rw [okG_true _ (by omega) (by omega) (pB_of h3), h4, deqS_self, deq_self, show deqH (W10.hg (Int.ofNat 2) n m c d) (hP 2 n m c d) = true from deqH_self _, Nat.ble_eq_true_of_le (show n ≤ 1000 by omega), pB_true hd]
    rfl
  rw [ho] at h
  obtain ⟨T', hT, hl⟩ := kl_of h
  refine ⟨loopGc_all (B := 2) (by decide +kernel) (loopFc 2 _ (by omega) (by omega) n (by omega) c d _ _) noL_all, T', hT, ?_⟩
  unfold TFX at hl
  rw [h4, cnt_dnc] at hl
  exact hl
theorem fIV2 {n m : Nat} (c : Bt) (d : Dd) : SumOk Try.prog 46 (runFl (Int.ofNat 2) n m c d (lfF 4 n 2 m c d (sq (enS 2 n c) 2 d m) (dnc (enS 2 n c) 2 d m)) (gV (Int.ofNat 2) n m c d)) := sum_atH sxApart sxMixed (addK_ok (cI (Int.ofNat 2) n m c d) (addK_ok (afI (R := 2) (by omega) (by omega) n m c d) extK_ok)) noL (N := 20) (d := 8) fun hg => by
  obtain ⟨h3, h4⟩ := andB_true hg
  have h0 : gv (Int.ofNat 2) n c m d = 0 := by simpa using h4
  obtain ⟨_, hn, hd, hm⟩ := gv_zero h0
  have hf := few_eq
  have h := fI2 (Int.ofNat 2) n m c d
  have ho : oFI (Int.ofNat 2) 2 n m c d = true := by
    unfold oFI okAf'
    rw [W10.okC_true _ (by omega) (by omega) (pB_of h3), h4, deq_self, deqH_self, Nat.ble_eq_true_of_le (show n ≤ 1000 by omega), pB_true hd]
    rfl
  rw [ho] at h
  obtain ⟨T', hT, hl⟩ := kl_of h
  refine ⟨noL_all, T', hT, ?_⟩
  unfold TFX at hl
  rw [h4] at hl
  exact hl
theorem fSV3 {n m : Nat} (c : Bt) (d : Dd) : SumOk Try.prog 45 (runFl (Int.ofNat 3) n m c d (lfF 5 n 3 m c d (sq (enS 3 n c) 3 d m) (dnc (enS 3 n c) 3 d m)) (gV (Int.ofNat 3) n m c d)) := sum_atH sxApart sxMixed (addK_ok (gS (Int.ofNat 3) n m c d) (addK_ok (playS (R := 3) (by omega) (by omega) n m c d) extK_ok)) (LFS (Int.ofNat 3) 3 n m c d (sc (enS 3 n c) 3 d) (sq (enS 3 n c) 3 d m)) (N := 20) (d := 8) fun hg => by
  obtain ⟨h3, h4⟩ := andB_true hg
  have h0 : gv (Int.ofNat 3) n c m d = 0 := by simpa using h4
  obtain ⟨_, hn, hd, hm⟩ := gv_zero h0
  have hf := few_eq
  have h := fS3 (Int.ofNat 3) n m c d
  have ho : oFS (Int.ofNat 3) 3 n m c d (Fc (Int.ofNat 3) 3 n m c d (sc (enS 3 n c) 3 d) (sq (enS 3 n c) 3 d m) 0 0) = true := by
    unfold oFS okP'
    rw [okG_true _ (by omega) (by omega) (pB_of h3), h4, deqS_self, deq_self, show deqH (W10.hg (Int.ofNat 3) n m c d) (hP 3 n m c d) = true from deqH_self _, Nat.ble_eq_true_of_le (show n ≤ 1000 by omega), pB_true hd]
    rfl
  rw [ho] at h
  obtain ⟨T', hT, hl⟩ := kl_of h
  refine ⟨loopGc_all (B := 2) (by decide +kernel) (loopFc 2 _ (by omega) (by omega) n (by omega) c d _ _) noL_all, T', hT, ?_⟩
  unfold TFX at hl
  rw [h4, cnt_dnc] at hl
  exact hl
theorem fIV3 {n m : Nat} (c : Bt) (d : Dd) : SumOk Try.prog 46 (runFl (Int.ofNat 3) n m c d (lfF 4 n 3 m c d (sq (enS 3 n c) 3 d m) (dnc (enS 3 n c) 3 d m)) (gV (Int.ofNat 3) n m c d)) := sum_atH sxApart sxMixed (addK_ok (cI (Int.ofNat 3) n m c d) (addK_ok (afI (R := 3) (by omega) (by omega) n m c d) extK_ok)) noL (N := 20) (d := 8) fun hg => by
  obtain ⟨h3, h4⟩ := andB_true hg
  have h0 : gv (Int.ofNat 3) n c m d = 0 := by simpa using h4
  obtain ⟨_, hn, hd, hm⟩ := gv_zero h0
  have hf := few_eq
  have h := fI3 (Int.ofNat 3) n m c d
  have ho : oFI (Int.ofNat 3) 3 n m c d = true := by
    unfold oFI okAf'
    rw [W10.okC_true _ (by omega) (by omega) (pB_of h3), h4, deq_self, deqH_self, Nat.ble_eq_true_of_le (show n ≤ 1000 by omega), pB_true hd]
    rfl
  rw [ho] at h
  obtain ⟨T', hT, hl⟩ := kl_of h
  refine ⟨noL_all, T', hT, ?_⟩
  unfold TFX at hl
  rw [h4] at hl
  exact hl
theorem fSV4 {n m : Nat} (c : Bt) (d : Dd) : SumOk Try.prog 45 (runFl (Int.ofNat 4) n m c d (lfF 5 n 4 m c d (sq (enS 4 n c) 4 d m) (dnc (enS 4 n c) 4 d m)) (gV (Int.ofNat 4) n m c d)) := sum_atH sxApart sxMixed (addK_ok (gS (Int.ofNat 4) n m c d) (addK_ok (playS (R := 4) (by omega) (by omega) n m c d) extK_ok)) (LFS (Int.ofNat 4) 4 n m c d (sc (enS 4 n c) 4 d) (sq (enS 4 n c) 4 d m)) (N := 20) (d := 8) fun hg => by
  obtain ⟨h3, h4⟩ := andB_true hg
  have h0 : gv (Int.ofNat 4) n c m d = 0 := by simpa using h4
  obtain ⟨_, hn, hd, hm⟩ := gv_zero h0
  have hf := few_eq
  have h := fS4 (Int.ofNat 4) n m c d
  have ho : oFS (Int.ofNat 4) 4 n m c d (Fc (Int.ofNat 4) 4 n m c d (sc (enS 4 n c) 4 d) (sq (enS 4 n c) 4 d m) 0 0) = true := by
    unfold oFS okP'
    rw [okG_true _ (by omega) (by omega) (pB_of h3), h4, deqS_self, deq_self, show deqH (W10.hg (Int.ofNat 4) n m c d) (hP 4 n m c d) = true from deqH_self _, Nat.ble_eq_true_of_le (show n ≤ 1000 by omega), pB_true hd]
    rfl
  rw [ho] at h
  obtain ⟨T', hT, hl⟩ := kl_of h
  refine ⟨loopGc_all (B := 2) (by decide +kernel) (loopFc 2 _ (by omega) (by omega) n (by omega) c d _ _) noL_all, T', hT, ?_⟩
  unfold TFX at hl
  rw [h4, cnt_dnc] at hl
  exact hl
theorem fIV4 {n m : Nat} (c : Bt) (d : Dd) : SumOk Try.prog 46 (runFl (Int.ofNat 4) n m c d (lfF 4 n 4 m c d (sq (enS 4 n c) 4 d m) (dnc (enS 4 n c) 4 d m)) (gV (Int.ofNat 4) n m c d)) := sum_atH sxApart sxMixed (addK_ok (cI (Int.ofNat 4) n m c d) (addK_ok (afI (R := 4) (by omega) (by omega) n m c d) extK_ok)) noL (N := 20) (d := 8) fun hg => by
  obtain ⟨h3, h4⟩ := andB_true hg
  have h0 : gv (Int.ofNat 4) n c m d = 0 := by simpa using h4
  obtain ⟨_, hn, hd, hm⟩ := gv_zero h0
  have hf := few_eq
  have h := fI4 (Int.ofNat 4) n m c d
  have ho : oFI (Int.ofNat 4) 4 n m c d = true := by
    unfold oFI okAf'
    rw [W10.okC_true _ (by omega) (by omega) (pB_of h3), h4, deq_self, deqH_self, Nat.ble_eq_true_of_le (show n ≤ 1000 by omega), pB_true hd]
    rfl
  rw [ho] at h
  obtain ⟨T', hT, hl⟩ := kl_of h
  refine ⟨noL_all, T', hT, ?_⟩
  unfold TFX at hl
  rw [h4] at hl
  exact hl
end Go.Proofs.Ytllonddgbjgmdaa.P24
