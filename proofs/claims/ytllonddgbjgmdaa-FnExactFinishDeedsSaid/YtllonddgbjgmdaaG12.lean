/- Texts of one claim, put together. -/
import Derived.Test.YtllonddgbjgmdaaG11
import Derived.Test.YtllonddgbjgmdaaG10
import Derived.Test.YtllonddgbjgmdaaG2
import Derived.Test.YtllonddgbjgmdaaG9
set_option linter.unusedVariables false
set_option linter.unusedSimpArgs false
set_option maxRecDepth 100000
namespace Go.Proofs.Ytllonddgbjgmdaa.P29
open Go.Sx Go.Sx.R0 Go.RowKit Go.Proofs.Ytllonddgbjgmdaa.W1 Go.Proofs.Ytllonddgbjgmdaa.W3 Go.Proofs.Ytllonddgbjgmdaa.W5 Go.Proofs.Ytllonddgbjgmdaa.W9 Go.Proofs.Ytllonddgbjgmdaa.W10 Go.Proofs.Ytllonddgbjgmdaa.P1 Go.Proofs.Ytllonddgbjgmdaa.P2 Go.Proofs.Ytllonddgbjgmdaa.P3 Go.Proofs.Ytllonddgbjgmdaa.P4 Go.Proofs.Ytllonddgbjgmdaa.P5 Go.Proofs.Ytllonddgbjgmdaa.P6 Go.Proofs.Ytllonddgbjgmdaa.P7 Go.Proofs.Ytllonddgbjgmdaa.P8 Go.Proofs.Ytllonddgbjgmdaa.P9 Go.Proofs.Ytllonddgbjgmdaa.P10 Go.Proofs.Ytllonddgbjgmdaa.P13 Go.Proofs.Ytllonddgbjgmdaa.P14 Go.Proofs.Ytllonddgbjgmdaa.P16 Go.Proofs.Ytllonddgbjgmdaa.P25 Go.Proofs.Ytllonddgbjgmdaa.P26 Go.Proofs.Ytllonddgbjgmdaa.P27 Go.Proofs.Ytllonddgbjgmdaa.P28

-- the list
def dls (F : Fl) : Nat → List (Int × Int)
  | 0 => List.replicate F.w (4, 0)
  | t + 1 => bif F.kn t then dls F t else dls F t ++ [(1, (t : Int)), (2, 0), (2, 0)]
def Dof (L : List (Int × Int)) : Dd := ⟨fun i => (L.getD i (0, 0)).1, fun i => (L.getD i (0, 0)).2⟩
def fin (F : Fl) (M : Nat) : Dd := Dof (dls F M ++ [(5, 0)])
theorem dls_len (F : Fl) : ∀ t, (dls F t).length = F.w + 3 * unk F t
  | 0 => by show (List.replicate F.w _).length = _; simp [unk]
  | t + 1 => by
    have := dls_len F t
    unfold dls unk
    cases F.kn t with
    | true => simpa using this
    | false => simp only [cond_false, List.length_append, this, List.length_cons, List.length_nil]; omega
theorem dls_pre (F : Fl) (t : Nat) : ∀ k, ∃ s, dls F (t + k) = dls F t ++ s
  | 0 => ⟨[], by simp⟩
  | k + 1 => by
    obtain ⟨s, hs⟩ := dls_pre F t k
    show ∃ s, (bif F.kn (t + k) then dls F (t + k) else dls F (t + k) ++ _) = _
    cases F.kn (t + k) with
    | true => exact ⟨s, hs⟩
    | false => exact ⟨s ++ [(1, ((t + k : Nat) : Int)), (2, 0), (2, 0)], by simp only [cond_false]; rw [hs, List.append_assoc]; rfl⟩
theorem dls_pre' (F : Fl) {t M : Nat} (h : t ≤ M) (x : List (Int × Int)) : ∃ s, dls F M ++ x = dls F t ++ s := by
  obtain ⟨s, hs⟩ := dls_pre F t (M - t)
  rw [show t + (M - t) = M by omega] at hs
  exact ⟨s ++ x, by rw [hs, List.append_assoc]⟩
theorem getD_l {L s : List (Int × Int)} {i : Nat} (h : i < L.length) : (L ++ s).getD i (0, 0) = L[i] := by
  simp [List.getD, List.getElem?_append_left h, h]
theorem getD_r {L s : List (Int × Int)} {j : Nat} : (L ++ s).getD (L.length + j) (0, 0) = s.getD j (0, 0) := by
  simp [List.getD, List.getElem?_append_right (show L.length ≤ L.length + j by omega)]
theorem fin_ok (F : Fl) (M : Nat) : P28.LOk (fin F M) F M := by
  refine ⟨fun i hi => ?_, fun t ht hk j hj => ?_⟩
  · obtain ⟨s, hs⟩ := dls_pre' F (Nat.zero_le M) [(5, 0)]
    have e : (dls F M ++ [(5, 0)]).getD i (0, 0) = (4, 0) := by
      rw [hs]
      show (List.replicate F.w (4, 0) ++ s).getD i (0, 0) = _
      rw [getD_l (by simpa using hi)]
      simp
    unfold fin Dof
    simp only [e]
    exact ⟨trivial, trivial⟩
  · obtain ⟨s, hs⟩ := dls_pre' F (show t + 1 ≤ M by omega) [(5, 0)]
    have e : (dls F M ++ [(5, 0)]).getD (F.w + 3 * unk F t + j) (0, 0) = [(1, (t : Int)), (2, 0), (2, 0)].getD j (0, 0) := by
      rw [hs, ← dls_len F t, show dls F (t + 1) = dls F t ++ [(1, (t : Int)), (2, 0), (2, 0)] from by show (bif F.kn t then _ else _) = _; rw [hk]; rfl, List.append_assoc, getD_r]
      have hj' : j = 0 ∨ j = 1 ∨ j = 2 := by omega
      rcases hj' with rfl | rfl | rfl <;> rfl
    unfold fin Dof
    simp only [e]
    have hj' : j = 0 ∨ j = 1 ∨ j = 2 := by omega
    rcases hj' with rfl | rfl | rfl <;> exact ⟨rfl, rfl⟩
theorem fin_end (F : Fl) (M : Nat) : (fin F M).k (F.w + 3 * unk F M) = 5 ∧ (fin F M).a (F.w + 3 * unk F M) = 0 := by
  have e : (dls F M ++ [(5, 0)]).getD (F.w + 3 * unk F M) (0, 0) = (5, 0) := by
    have := getD_r (L := dls F M) (s := [(5, 0)]) (j := 0)
    rw [dls_len] at this
    exact this
  unfold fin Dof
  simp only [e]
  exact ⟨trivial, trivial⟩
-- the reference
def zD (i : Nat) : List AV := bif Nat.blt i 0 then List.take 2 (List.drop (i * 2) ([] : List AV)) else [.int .i64 0, .int .i64 0]
noncomputable def KFS (r : Int) (R n m : Nat) (c : Bt) (d : Dd) : CallerT := addK 66 (runG r n m c d) (addK 67 (runPS R n m c d) (KL R))
noncomputable def LF (R n m : Nat) (c : Bt) (d : Dd) (F : Fl) (s1 s2 : St) (t1 t2 : Tr (AX × St)) : LoopOr := loopGc 7 [1, 7, 9] R 2 (autoR R 2 7) 7 s1 t1 (loopGc 10 [1, 7, 9, 10] R 2 (autoR R 2 7) 7 s2 t2 noL)
/-- all but the result told as dead -/
def klV (x : AV × Option (List Blk)) : AV × Option (List Blk) := match x with
  | (.tup (.slc b o l :: t), some H) => (.tup (.slc b o l :: t), some (kl 2 (b - 2) H))
  | x => x
theorem klV_le (x : AV × Option (List Blk)) : LLe x (klV x) := by
  unfold klV
  split
  · exact LLe.ofH (kl_le _ _ _)
  · exact LLe.refl _
theorem klV_of {e : Option (Tr (AV × Option (List Blk)) × Bool)} {T : Tr (AV × Option (List Blk))} {b : Bool} (hb : b = true) (h : e.map (fun x => (mapTr klV x.1, x.2)) = some (T, b)) : ∃ T', e = some (T', true) ∧ LLe T'.get T.get := by
  subst hb
  obtain ⟨T', h1, h2⟩ := map_some h
  refine ⟨T', h1, ?_⟩
  rw [← h2, mapTr_get]
  exact klV_le _
def dds : Nat → List Blk
  | 0 => []
  | k + 1 => .dead :: dds k
def lfL (j n m : Nat) (c : Bt) (d : Dd) (l : Nat) (o : Nat → List AV) (e : Int) : AV × Option (List Blk) := (.tup [.slc (2 + j) 0 l, .int .i64 e], some (H2 n m c d ++ dds j ++ [.rows true l 2 o]))
def dR5 (R l : Nat) (o : Nat → List AV) (i : Nat) : List AV := renVL (fwd (m1D R) (11 + R)) (catF l o (dNew 5 0) i)
def big (m l : Nat) : Bool := decide (IntKind.i64.wrap ((m : Int) + ((l + 1 : Nat) : Int)) > 300)
noncomputable def TLS (r : Int) (R n m : Nat) (c : Bt) (d D : Dd) (l : Nat) : Tr (AV × Option (List Blk)) := .node (!(gv r n c m d == 0)) (.leaf (lfL 1 n m c d 0 zD (gv r n c m d))) (.node (big m l) (.leaf (.tup [.slc (15 + R) 0 0, .lit (.int .i64 3)], some (H2 n m c d ++ dds (13 + R) ++ [.rows true 0 2 zD]))) (.leaf (.tup [.slc (14 + R) 0 (l + 1), z0], some (H2 n m c d ++ dds (12 + R) ++ [.rows true (l + 1) 2 (dR5 R l D.row)]))))
noncomputable def oLS (r : Int) (R n m : Nat) (c : Bt) (d D : Dd) (G : Fl) (l : Nat) (q1 q2 : Bool) : Bool := andB (okG r n m c d) (impB (!!(gv r n c m d == 0)) (andB (okP' r R n m c d) (andB q1 (andB q2 (andB (qD R n c G l D.row 5 0) true)))))
theorem fs1 (r : Int) (n m : Nat) (c : Bt) (d D : Dd) (F G : Fl) (q1 q2 : Bool) (w l : Nat) : (evF Try.prog (KFS r 1 n m c d) (fun body _ => bif Nat.beq (loopId body) 7 then some (.leaf (.ext 0, FA 1 n m c d w D.row F), q1) else bif Nat.beq (loopId body) 10 then some (.leaf (.ext 2, FA 1 n m c d l D.row G), q2) else none) 20 8 41 (A2 r n m) (H2 n m c d)).map (fun x => (mapTr klV x.1, x.2)) = some (TLS r 1 n m c d D l, oLS r 1 n m c d D G l q1 q2) := by kernel_rfl
theorem fv1 (n m : Nat) (c : Bt) (d D : Dd) (F G : Fl) (w l : Nat) : (evF Try.prog (KFS (Int.ofNat 1) 1 n m c d) (LF 1 n m c d (sq (enS 1 n c) 1 d m) (FA 1 n m c d 0 zD (sq (enS 1 n c) 1 d m)) (FB 1 n m c d w D.row F 0) (.leaf (.ext 0, FA 1 n m c d w D.row F)) (.leaf (.ext 2, FA 1 n m c d l D.row G))) 20 8 41 (A2 (Int.ofNat 1) n m) (H2 n m c d)).map (fun x => (mapTr klV x.1, x.2)) = some (TLS (Int.ofNat 1) 1 n m c d D l, oLS (Int.ofNat 1) 1 n m c d D G l (deqS (FA 1 n m c d 0 zD (sq (enS 1 n c) 1 d m)) (FA 1 n m c d 0 zD (sq (enS 1 n c) 1 d m))) (deqS (FB 1 n m c d w D.row F 0) (FB 1 n m c d w D.row F 0))) := by kernel_rfl
theorem fv2 (n m : Nat) (c : Bt) (d D : Dd) (F G : Fl) (w l : Nat) : (evF Try.prog (KFS (Int.ofNat 2) 2 n m c d) (LF 2 n m c d (sq (enS 2 n c) 2 d m) (FA 2 n m c d 0 zD (sq (enS 2 n c) 2 d m)) (FB 2 n m c d w D.row F 0) (.leaf (.ext 0, FA 2 n m c d w D.row F)) (.leaf (.ext 2, FA 2 n m c d l D.row G))) 20 8 41 (A2 (Int.ofNat 2) n m) (H2 n m c d)).map (fun x => (mapTr klV x.1, x.2)) = some (TLS (Int.ofNat 2) 2 n m c d D l, oLS (Int.ofNat 2) 2 n m c d D G l (deqS (FA 2 n m c d 0 zD (sq (enS 2 n c) 2 d m)) (FA 2 n m c d 0 zD (sq (enS 2 n c) 2 d m))) (deqS (FB 2 n m c d w D.row F 0) (FB 2 n m c d w D.row F 0))) := by kernel_rfl
theorem fv3 (n m : Nat) (c : Bt) (d D : Dd) (F G : Fl) (w l : Nat) : (evF Try.prog (KFS (Int.ofNat 3) 3 n m c d) (LF 3 n m c d (sq (enS 3 n c) 3 d m) (FA 3 n m c d 0 zD (sq (enS 3 n c) 3 d m)) (FB 3 n m c d w D.row F 0) (.leaf (.ext 0, FA 3 n m c d w D.row F)) (.leaf (.ext 2, FA 3 n m c d l D.row G))) 20 8 41 (A2 (Int.ofNat 3) n m) (H2 n m c d)).map (fun x => (mapTr klV x.1, x.2)) = some (TLS (Int.ofNat 3) 3 n m c d D l, oLS (Int.ofNat 3) 3 n m c d D G l (deqS (FA 3 n m c d 0 zD (sq (enS 3 n c) 3 d m)) (FA 3 n m c d 0 zD (sq (enS 3 n c) 3 d m))) (deqS (FB 3 n m c d w D.row F 0) (FB 3 n m c d w D.row F 0))) := by kernel_rfl
theorem fv4 (n m : Nat) (c : Bt) (d D : Dd) (F G : Fl) (w l : Nat) : (evF Try.prog (KFS (Int.ofNat 4) 4 n m c d) (LF 4 n m c d (sq (enS 4 n c) 4 d m) (FA 4 n m c d 0 zD (sq (enS 4 n c) 4 d m)) (FB 4 n m c d w D.row F 0) (.leaf (.ext 0, FA 4 n m c d w D.row F)) (.leaf (.ext 2, FA 4 n m c d l D.row G))) 20 8 41 (A2 (Int.ofNat 4) n m) (H2 n m c d)).map (fun x => (mapTr klV x.1, x.2)) = some (TLS (Int.ofNat 4) 4 n m c d D l, oLS (Int.ofNat 4) 4 n m c d D G l (deqS (FA 4 n m c d 0 zD (sq (enS 4 n c) 4 d m)) (FA 4 n m c d 0 zD (sq (enS 4 n c) 4 d m))) (deqS (FB 4 n m c d w D.row F 0) (FB 4 n m c d w D.row F 0))) := by kernel_rfl
-- what comes of the deeds
noncomputable def Fd (R n m : Nat) (c : Bt) (d : Dd) : Fl := sq (enS R n c) R d m
noncomputable def ld (R n m : Nat) (c : Bt) (d : Dd) : Nat := (Fd R n m c d).w + 3 * unk (Fd R n m c d) (mOf c n)
noncomputable def Df (R n m : Nat) (c : Bt) (d : Dd) : Dd := fin (Fd R n m c d) (mOf c n)
noncomputable def Gd (R n m : Nat) (c : Bt) (d : Dd) : Fl := P28.gA (enT R n c) R (Fd R n m c d) (mOf c n)
theorem Fd_ok {R n m : Nat} {c : Bt} {d : Dd} (h1 : 1 ≤ R) (hd : P10.okD m d) : FlOk (enT R n c) R (Fd R n m c d) := sq_ok (tsOf_ok R n c) h1 hd.2 m (Nat.le_refl _)
theorem Gd_ok {R n m : Nat} {c : Bt} {d : Dd} (h1 : 1 ≤ R) (hd : P10.okD m d) : FlOk (enT R n c) R (Gd R n m c d) := (P28.gA_ok (tsT_ok R n c) h1 (Fd_ok h1 hd) (mOf c n) (Nat.le_refl _)).1
theorem LLe_tr {x : AV × Option (List Blk)} {v : AV} {H H' : List Blk} (h : LLe x (v, some H)) (k : HLe H H') : LLe x (v, some H') := by
  obtain ⟨u, G⟩ := x
  cases G with
  | none => exact h.2.elim
  | some G => exact ⟨h.1, HLe.tr' h.2 k⟩
theorem KFS_ok (r : Int) {R : Nat} (h1 : 1 ≤ R) (h2 : R ≤ 4) (n m : Nat) (c : Bt) (d : Dd) : CallerTOk Try.prog (KFS r R n m c d) := addK_ok (gS r n m c d) (addK_ok (playS h1 h2 n m c d) (KL_ok h1 h2))
theorem LF_ok {R n m : Nat} {c : Bt} {d : Dd} (h1 : 1 ≤ R) (h2 : R ≤ 4) (hn : n ≤ 100) (hd : P10.okD m d) : Go.Sx.LOk Try.prog 2 41 (LF R n m c d (sq (enS R n c) R d m) (FA R n m c d 0 zD (sq (enS R n c) R d m)) (FB R n m c d (Fd R n m c d).w (Df R n m c d).row (dl (Fd R n m c d) (Fd R n m c d).w) 0) (.leaf (.ext 0, FA R n m c d (Fd R n m c d).w (Df R n m c d).row (dl (Fd R n m c d) (Fd R n m c d).w))) (.leaf (.ext 2, FA R n m c d (ld R n m c d) (Df R n m c d).row (Gd R n m c d)))) :=
  loopGc_all (B := 2) (by decide +kernel) ((loopA h1 h2 (by omega) (Fd_ok h1 hd) (fin_ok _ _).1).from ⟨rfl, pmD_le R n m c d 0 _ fun i hi => absurd hi (Nat.not_lt_zero i)⟩)
    (loopGc_all (B := 2) (by decide +kernel) (loopB h1 h2 hn (Fd_ok h1 hd) (fin_ok _ _)) noL_all)
noncomputable def runFd (r : Int) (n m : Nat) (c : Bt) (d : Dd) (x : AV × Option (List Blk)) (g : Bool) : List AV → List Blk → Option Lf := selRun (runAtH (A2 r n m) (H2 n m c d) (.leaf x) g)
theorem noQ_ok (B : Nat) (f : Nat) (t1 t2 : Tr (AX × St)) : Go.Sx.LOk Try.prog B f (fun body _ => bif Nat.beq (loopId body) 7 then some (t1, false) else bif Nat.beq (loopId body) 10 then some (t2, false) else none) := fun _ _ _ _ body _ _ _ h => by
  simp only at h
  cases hb : Nat.beq (loopId body) 7 <;> rw [hb] at h
  · cases hc : Nat.beq (loopId body) 10 <;> rw [hc] at h <;> simp at h
  · simp at h
theorem fdSX (r : Int) (n m : Nat) (c : Bt) (d : Dd) : SumOk Try.prog 41 (runFd r n m c d (lfL 1 n m c d 0 zD (gv r n c m d)) (gX r n m c d)) := sum_atH sxApart sxMixed (KFS_ok r (R := 1) (by omega) (by omega) n m c d) (fun body _ => bif Nat.beq (loopId body) 7 then some (.leaf (.ext 0, FA 1 n m c d 0 d.row F0), false) else bif Nat.beq (loopId body) 10 then some (.leaf (.ext 2, FA 1 n m c d 0 d.row F0), false) else none) (N := 20) (d := 8) fun hg => by
  obtain ⟨h1, hg⟩ := andB_true hg
  obtain ⟨h2, hg⟩ := andB_true hg
  obtain ⟨h3, h4⟩ := andB_true hg
  have h := fs1 r n m c d d F0 F0 false false 0 0
  have ho : oLS r 1 n m c d d F0 0 false false = true := by
    unfold oLS
    rw [okG_true r (Nat.le_of_ble_eq_true h1) (Nat.le_of_ble_eq_true h2) (pB_of h3), h4, Bool.not_true, Go.Sx.R0.imp_f]; rfl
  obtain ⟨T', hT, hl⟩ := klV_of ho h
  refine ⟨noQ_ok _ _ _ _, T', hT, ?_⟩
  unfold TLS at hl
  rw [h4] at hl
  exact hl
theorem dR5_D (R : Nat) (D : Dd) {l : Nat} (hk : D.k l = 5) (ha : D.a l = 0) {i : Nat} (hi : i < l + 1) : D.row i = dR5 R l D.row i :=
  of_D D (f := dR5 R l D.row) (ren_D _ D _ (cat_D D _ (row_D D l) hk ha)) hi
theorem g3 {r : Int} {n m : Nat} {c : Bt} {d : Dd} {b : Bool} (h : andB (gV r n m c d) b = true) : NmOk n c ∧ gv r n c m d = 0 ∧ (!(gv r n c m d == 0)) = false ∧ b = true := by
  obtain ⟨h, hb⟩ := andB_true h
  obtain ⟨h3, h4⟩ := andB_true h
  exact ⟨pB_of h3, by simpa using h4, by rw [h4]; rfl, hb⟩
theorem ld_le {R n m : Nat} {c : Bt} {d : Dd} (h1 : 1 ≤ R) (hd : P10.okD m d) (hn : n ≤ 6) : ld R n m c d ≤ 154 := by
  have := (Fd_ok (n := n) (c := c) h1 hd).2.1
  have := unk_le (Fd R n m c d) (mOf c n)
  have := mOf_le c n
  unfold ld
  omega
theorem fdS1 {n m : Nat} {c : Bt} {d : Dd} (h3 : NmOk n c) (h0 : gv (Int.ofNat 1) n c m d = 0) : Go.Sx.LOk Try.prog 2 41 (LF 1 n m c d (sq (enS 1 n c) 1 d m) (FA 1 n m c d 0 zD (sq (enS 1 n c) 1 d m)) (FB 1 n m c d (Fd 1 n m c d).w (Df 1 n m c d).row (dl (Fd 1 n m c d) (Fd 1 n m c d).w) 0) (.leaf (.ext 0, FA 1 n m c d (Fd 1 n m c d).w (Df 1 n m c d).row (dl (Fd 1 n m c d) (Fd 1 n m c d).w))) (.leaf (.ext 2, FA 1 n m c d (ld 1 n m c d) (Df 1 n m c d).row (Gd 1 n m c d)))) ∧
    ∃ T', evF Try.prog (KFS (Int.ofNat 1) 1 n m c d) (LF 1 n m c d (sq (enS 1 n c) 1 d m) (FA 1 n m c d 0 zD (sq (enS 1 n c) 1 d m)) (FB 1 n m c d (Fd 1 n m c d).w (Df 1 n m c d).row (dl (Fd 1 n m c d) (Fd 1 n m c d).w) 0) (.leaf (.ext 0, FA 1 n m c d (Fd 1 n m c d).w (Df 1 n m c d).row (dl (Fd 1 n m c d) (Fd 1 n m c d).w))) (.leaf (.ext 2, FA 1 n m c d (ld 1 n m c d) (Df 1 n m c d).row (Gd 1 n m c d)))) 20 8 41 (A2 (Int.ofNat 1) n m) (H2 n m c d) = some (T', true) ∧ LLe T'.get (TLS (Int.ofNat 1) 1 n m c d (Df 1 n m c d) (ld 1 n m c d)).get := by
  obtain ⟨_, hn, hd, hm⟩ := gv_zero h0
  have hf := few_eq
  have hl := ld_le (R := 1) (n := n) (m := m) (c := c) (d := d) (by omega) hd hn
  refine ⟨LF_ok (by omega) (by omega) (by omega) hd, ?_⟩
  have h := fv1 n m c d (Df 1 n m c d) (dl (Fd 1 n m c d) (Fd 1 n m c d).w) (Gd 1 n m c d) (Fd 1 n m c d).w (ld 1 n m c d)
  refine klV_of ?_ h
  unfold oLS okP'
  rw [okG_true _ (by omega) (by omega) h3, h0, deqS_self, deqS_self, deq_self, show deqH (W10.hg (Int.ofNat 1) n m c d) (hP 1 n m c d) = true from deqH_self _, Nat.ble_eq_true_of_le (show n ≤ 1000 by omega), pB_true hd, qD_true (by omega) (by omega) (by omega) (Gd_ok (by omega) hd) (by omega) (Int.le_refl 0) (by omega) (.inl rfl)]
  rfl
theorem fdSL1 {n m : Nat} (c : Bt) (d : Dd) : SumOk Try.prog 41 (runFd (Int.ofNat 1) n m c d (lfL (13 + 1) n m c d 0 zD 3) (andB (gV (Int.ofNat 1) n m c d) (big m (ld 1 n m c d)))) := sum_atH sxApart sxMixed (KFS_ok (Int.ofNat 1) (R := 1) (by omega) (by omega) n m c d) _ (N := 20) (d := 8) fun hg => by
  obtain ⟨h3, h0, h4, hb⟩ := g3 hg
  obtain ⟨q1, T', hT, hl⟩ := fdS1 h3 h0
  refine ⟨q1, T', hT, ?_⟩
  unfold TLS at hl
  rw [h4, hb] at hl
  exact ⟨hl.1, hl.2⟩
theorem fdSV1 {n m : Nat} (c : Bt) (d : Dd) : SumOk Try.prog 41 (runFd (Int.ofNat 1) n m c d (lfL (12 + 1) n m c d (ld 1 n m c d + 1) (Df 1 n m c d).row 0) (andB (gV (Int.ofNat 1) n m c d) (!big m (ld 1 n m c d)))) := sum_atH sxApart sxMixed (KFS_ok (Int.ofNat 1) (R := 1) (by omega) (by omega) n m c d) _ (N := 20) (d := 8) fun hg => by
  obtain ⟨h3, h0, h4, hb⟩ := g3 hg
  obtain ⟨q1, T', hT, hl⟩ := fdS1 h3 h0
  refine ⟨q1, T', hT, ?_⟩
  have hb : big m (ld 1 n m c d) = false := by simpa using hb
  unfold TLS at hl
  rw [h4, hb] at hl
  have hr : BLe (.rows true (ld 1 n m c d + 1) 2 (dR5 1 (ld 1 n m c d) (Df 1 n m c d).row)) (.rows true (ld 1 n m c d + 1) 2 (Df 1 n m c d).row) := BLe.rows fun i hi => dR5_D 1 _ (fin_end _ _).1 (fin_end _ _).2 hi
  exact LLe_tr hl (HLe.app (HLe.refl _) ⟨hr, trivial⟩)
theorem fdS2 {n m : Nat} {c : Bt} {d : Dd} (h3 : NmOk n c) (h0 : gv (Int.ofNat 2) n c m d = 0) : Go.Sx.LOk Try.prog 2 41 (LF 2 n m c d (sq (enS 2 n c) 2 d m) (FA 2 n m c d 0 zD (sq (enS 2 n c) 2 d m)) (FB 2 n m c d (Fd 2 n m c d).w (Df 2 n m c d).row (dl (Fd 2 n m c d) (Fd 2 n m c d).w) 0) (.leaf (.ext 0, FA 2 n m c d (Fd 2 n m c d).w (Df 2 n m c d).row (dl (Fd 2 n m c d) (Fd 2 n m c d).w))) (.leaf (.ext 2, FA 2 n m c d (ld 2 n m c d) (Df 2 n m c d).row (Gd 2 n m c d)))) ∧
    ∃ T', evF Try.prog (KFS (Int.ofNat 2) 2 n m c d) (LF 2 n m c d (sq (enS 2 n c) 2 d m) (FA 2 n m c d 0 zD (sq (enS 2 n c) 2 d m)) (FB 2 n m c d (Fd 2 n m c d).w (Df 2 n m c d).row (dl (Fd 2 n m c d) (Fd 2 n m c d).w) 0) (.leaf (.ext 0, FA 2 n m c d (Fd 2 n m c d).w (Df 2 n m c d).row (dl (Fd 2 n m c d) (Fd 2 n m c d).w))) (.leaf (.ext 2, FA 2 n m c d (ld 2 n m c d) (Df 2 n m c d).row (Gd 2 n m c d)))) 20 8 41 (A2 (Int.ofNat 2) n m) (H2 n m c d) = some (T', true) ∧ LLe T'.get (TLS (Int.ofNat 2) 2 n m c d (Df 2 n m c d) (ld 2 n m c d)).get := by
  obtain ⟨_, hn, hd, hm⟩ := gv_zero h0
  have hf := few_eq
  have hl := ld_le (R := 2) (n := n) (m := m) (c := c) (d := d) (by omega) hd hn
  refine ⟨LF_ok (by omega) (by omega) (by omega) hd, ?_⟩
  have h := fv2 n m c d (Df 2 n m c d) (dl (Fd 2 n m c d) (Fd 2 n m c d).w) (Gd 2 n m c d) (Fd 2 n m c d).w (ld 2 n m c d)
  refine klV_of ?_ h
  unfold oLS okP'
  rw [okG_true _ (by omega) (by omega) h3, h0, deqS_self, deqS_self, deq_self, show deqH (W10.hg (Int.ofNat 2) n m c d) (hP 2 n m c d) = true from deqH_self _, Nat.ble_eq_true_of_le (show n ≤ 1000 by omega), pB_true hd, qD_true (by omega) (by omega) (by omega) (Gd_ok (by omega) hd) (by omega) (Int.le_refl 0) (by omega) (.inl rfl)]
  rfl
theorem fdSL2 {n m : Nat} (c : Bt) (d : Dd) : SumOk Try.prog 41 (runFd (Int.ofNat 2) n m c d (lfL (13 + 2) n m c d 0 zD 3) (andB (gV (Int.ofNat 2) n m c d) (big m (ld 2 n m c d)))) := sum_atH sxApart sxMixed (KFS_ok (Int.ofNat 2) (R := 2) (by omega) (by omega) n m c d) _ (N := 20) (d := 8) fun hg => by
  obtain ⟨h3, h0, h4, hb⟩ := g3 hg
  obtain ⟨q1, T', hT, hl⟩ := fdS2 h3 h0
  refine ⟨q1, T', hT, ?_⟩
  unfold TLS at hl
  rw [h4, hb] at hl
  exact ⟨hl.1, hl.2⟩
theorem fdSV2 {n m : Nat} (c : Bt) (d : Dd) : SumOk Try.prog 41 (runFd (Int.ofNat 2) n m c d (lfL (12 + 2) n m c d (ld 2 n m c d + 1) (Df 2 n m c d).row 0) (andB (gV (Int.ofNat 2) n m c d) (!big m (ld 2 n m c d)))) := sum_atH sxApart sxMixed (KFS_ok (Int.ofNat 2) (R := 2) (by omega) (by omega) n m c d) _ (N := 20) (d := 8) fun hg => by
  obtain ⟨h3, h0, h4, hb⟩ := g3 hg
  obtain ⟨q1, T', hT, hl⟩ := fdS2 h3 h0
  refine ⟨q1, T', hT, ?_⟩
  have hb : big m (ld 2 n m c d) = false := by simpa using hb
  unfold TLS at hl
  rw [h4, hb] at hl
  have hr : BLe (.rows true (ld 2 n m c d + 1) 2 (dR5 2 (ld 2 n m c d) (Df 2 n m c d).row)) (.rows true (ld 2 n m c d + 1) 2 (Df 2 n m c d).row) := BLe.rows fun i hi => dR5_D 2 _ (fin_end _ _).1 (fin_end _ _).2 hi
  exact LLe_tr hl (HLe.app (HLe.refl _) ⟨hr, trivial⟩)
theorem fdS3 {n m : Nat} {c : Bt} {d : Dd} (h3 : NmOk n c) (h0 : gv (Int.ofNat 3) n c m d = 0) : Go.Sx.LOk Try.prog 2 41 (LF 3 n m c d (sq (enS 3 n c) 3 d m) (FA 3 n m c d 0 zD (sq (enS 3 n c) 3 d m)) (FB 3 n m c d (Fd 3 n m c d).w (Df 3 n m c d).row (dl (Fd 3 n m c d) (Fd 3 n m c d).w) 0) (.leaf (.ext 0, FA 3 n m c d (Fd 3 n m c d).w (Df 3 n m c d).row (dl (Fd 3 n m c d) (Fd 3 n m c d).w))) (.leaf (.ext 2, FA 3 n m c d (ld 3 n m c d) (Df 3 n m c d).row (Gd 3 n m c d)))) ∧
    ∃ T', evF Try.prog (KFS (Int.ofNat 3) 3 n m c d) (LF 3 n m c d (sq (enS 3 n c) 3 d m) (FA 3 n m c d 0 zD (sq (enS 3 n c) 3 d m)) (FB 3 n m c d (Fd 3 n m c d).w (Df 3 n m c d).row (dl (Fd 3 n m c d) (Fd 3 n m c d).w) 0) (.leaf (.ext 0, FA 3 n m c d (Fd 3 n m c d).w (Df 3 n m c d).row (dl (Fd 3 n m c d) (Fd 3 n m c d).w))) (.leaf (.ext 2, FA 3 n m c d (ld 3 n m c d) (Df 3 n m c d).row (Gd 3 n m c d)))) 20 8 41 (A2 (Int.ofNat 3) n m) (H2 n m c d) = some (T', true) ∧ LLe T'.get (TLS (Int.ofNat 3) 3 n m c d (Df 3 n m c d) (ld 3 n m c d)).get := by
  obtain ⟨_, hn, hd, hm⟩ := gv_zero h0
  have hf := few_eq
  have hl := ld_le (R := 3) (n := n) (m := m) (c := c) (d := d) (by omega) hd hn
  refine ⟨LF_ok (by omega) (by omega) (by omega) hd, ?_⟩
  have h := fv3 n m c d (Df 3 n m c d) (dl (Fd 3 n m c d) (Fd 3 n m c d).w) (Gd 3 n m c d) (Fd 3 n m c d).w (ld 3 n m c d)
  refine klV_of ?_ h
  unfold oLS okP'
  rw [okG_true _ (by omega) (by omega) h3, h0, deqS_self, deqS_self, deq_self, show deqH (W10.hg (Int.ofNat 3) n m c d) (hP 3 n m c d) = true from deqH_self _, Nat.ble_eq_true_of_le (show n ≤ 1000 by omega), pB_true hd, qD_true (by omega) (by omega) (by omega) (Gd_ok (by omega) hd) (by omega) (Int.le_refl 0) (by omega) (.inl rfl)]
  rfl
theorem fdSL3 {n m : Nat} (c : Bt) (d : Dd) : SumOk Try.prog 41 (runFd (Int.ofNat 3) n m c d (lfL (13 + 3) n m c d 0 zD 3) (andB (gV (Int.ofNat 3) n m c d) (big m (ld 3 n m c d)))) := sum_atH sxApart sxMixed (KFS_ok (Int.ofNat 3) (R := 3) (by omega) (by omega) n m c d) _ (N := 20) (d := 8) fun hg => by
  obtain ⟨h3, h0, h4, hb⟩ := g3 hg
  obtain ⟨q1, T', hT, hl⟩ := fdS3 h3 h0
  refine ⟨q1, T', hT, ?_⟩
  unfold TLS at hl
  rw [h4, hb] at hl
  exact ⟨hl.1, hl.2⟩
theorem fdSV3 {n m : Nat} (c : Bt) (d : Dd) : SumOk Try.prog 41 (runFd (Int.ofNat 3) n m c d (lfL (12 + 3) n m c d (ld 3 n m c d + 1) (Df 3 n m c d).row 0) (andB (gV (Int.ofNat 3) n m c d) (!big m (ld 3 n m c d)))) := sum_atH sxApart sxMixed (KFS_ok (Int.ofNat 3) (R := 3) (by omega) (by omega) n m c d) _ (N := 20) (d := 8) fun hg => by
  obtain ⟨h3, h0, h4, hb⟩ := g3 hg
  obtain ⟨q1, T', hT, hl⟩ := fdS3 h3 h0
  refine ⟨q1, T', hT, ?_⟩
  have hb : big m (ld 3 n m c d) = false := by simpa using hb
  unfold TLS at hl
  rw [h4, hb] at hl
  have hr : BLe (.rows true (ld 3 n m c d + 1) 2 (dR5 3 (ld 3 n m c d) (Df 3 n m c d).row)) (.rows true (ld 3 n m c d + 1) 2 (Df 3 n m c d).row) := BLe.rows fun i hi => dR5_D 3 _ (fin_end _ _).1 (fin_end _ _).2 hi
  exact LLe_tr hl (HLe.app (HLe.refl _) ⟨hr, trivial⟩)
theorem fdS4 {n m : Nat} {c : Bt} {d : Dd} (h3 : NmOk n c) (h0 : gv (Int.ofNat 4) n c m d = 0) : Go.Sx.LOk Try.prog 2 41 (LF 4 n m c d (sq (enS 4 n c) 4 d m) (FA 4 n m c d 0 zD (sq (enS 4 n c) 4 d m)) (FB 4 n m c d (Fd 4 n m c d).w (Df 4 n m c d).row (dl (Fd 4 n m c d) (Fd 4 n m c d).w) 0) (.leaf (.ext 0, FA 4 n m c d (Fd 4 n m c d).w (Df 4 n m c d).row (dl (Fd 4 n m c d) (Fd 4 n m c d).w))) (.leaf (.ext 2, FA 4 n m c d (ld 4 n m c d) (Df 4 n m c d).row (Gd 4 n m c d)))) ∧
    ∃ T', evF Try.prog (KFS (Int.ofNat 4) 4 n m c d) (LF 4 n m c d (sq (enS 4 n c) 4 d m) (FA 4 n m c d 0 zD (sq (enS 4 n c) 4 d m)) (FB 4 n m c d (Fd 4 n m c d).w (Df 4 n m c d).row (dl (Fd 4 n m c d) (Fd 4 n m c d).w) 0) (.leaf (.ext 0, FA 4 n m c d (Fd 4 n m c d).w (Df 4 n m c d).row (dl (Fd 4 n m c d) (Fd 4 n m c d).w))) (.leaf (.ext 2, FA 4 n m c d (ld 4 n m c d) (Df 4 n m c d).row (Gd 4 n m c d)))) 20 8 41 (A2 (Int.ofNat 4) n m) (H2 n m c d) = some (T', true) ∧ LLe T'.get (TLS (Int.ofNat 4) 4 n m c d (Df 4 n m c d) (ld 4 n m c d)).get := by
  obtain ⟨_, hn, hd, hm⟩ := gv_zero h0
  have hf := few_eq
  have hl := ld_le (R := 4) (n := n) (m := m) (c := c) (d := d) (by omega) hd hn
  refine ⟨LF_ok (by omega) (by omega) (by omega) hd, ?_⟩
  have h := fv4 n m c d (Df 4 n m c d) (dl (Fd 4 n m c d) (Fd 4 n m c d).w) (Gd 4 n m c d) (Fd 4 n m c d).w (ld 4 n m c d)
  refine klV_of ?_ h
  unfold oLS okP'
  rw [okG_true _ (by omega) (by omega) h3, h0, deqS_self, deqS_self, deq_self, show deqH (W10.hg (Int.ofNat 4) n m c d) (hP 4 n m c d) = true from deqH_self _, Nat.ble_eq_true_of_le (show n ≤ 1000 by omega), pB_true hd, qD_true (by omega) (by omega) (by omega) (Gd_ok (by omega) hd) (by omega) (Int.le_refl 0) (by omega) (.inl rfl)]
  rfl
theorem fdSL4 {n m : Nat} (c : Bt) (d : Dd) : SumOk Try.prog 41 (runFd (Int.ofNat 4) n m c d (lfL (13 + 4) n m c d 0 zD 3) (andB (gV (Int.ofNat 4) n m c d) (big m (ld 4 n m c d)))) := sum_atH sxApart sxMixed (KFS_ok (Int.ofNat 4) (R := 4) (by omega) (by omega) n m c d) _ (N := 20) (d := 8) fun hg => by
  obtain ⟨h3, h0, h4, hb⟩ := g3 hg
  obtain ⟨q1, T', hT, hl⟩ := fdS4 h3 h0
  refine ⟨q1, T', hT, ?_⟩
  unfold TLS at hl
  rw [h4, hb] at hl
  exact ⟨hl.1, hl.2⟩
theorem fdSV4 {n m : Nat} (c : Bt) (d : Dd) : SumOk Try.prog 41 (runFd (Int.ofNat 4) n m c d (lfL (12 + 4) n m c d (ld 4 n m c d + 1) (Df 4 n m c d).row 0) (andB (gV (Int.ofNat 4) n m c d) (!big m (ld 4 n m c d)))) := sum_atH sxApart sxMixed (KFS_ok (Int.ofNat 4) (R := 4) (by omega) (by omega) n m c d) _ (N := 20) (d := 8) fun hg => by
  obtain ⟨h3, h0, h4, hb⟩ := g3 hg
  obtain ⟨q1, T', hT, hl⟩ := fdS4 h3 h0
  refine ⟨q1, T', hT, ?_⟩
  have hb : big m (ld 4 n m c d) = false := by simpa using hb
  unfold TLS at hl
  rw [h4, hb] at hl
  have hr : BLe (.rows true (ld 4 n m c d + 1) 2 (dR5 4 (ld 4 n m c d) (Df 4 n m c d).row)) (.rows true (ld 4 n m c d + 1) 2 (Df 4 n m c d).row) := BLe.rows fun i hi => dR5_D 4 _ (fin_end _ _).1 (fin_end _ _).2 hi
  exact LLe_tr hl (HLe.app (HLe.refl _) ⟨hr, trivial⟩)
end Go.Proofs.Ytllonddgbjgmdaa.P29
set_option linter.unusedVariables false
set_option linter.unusedSimpArgs false
set_option maxRecDepth 100000
namespace Go.Proofs.Ytllonddgbjgmdaa.P30
open Go.Sx Go.Sx.R0 Go.RowKit Go.Proofs.Ytllonddgbjgmdaa.W9 Go.Proofs.Ytllonddgbjgmdaa.P1

def RpS (w n : Nat) (f : Dd) (o : Nat → List AV) : St := ⟨junks 7 ++ [.slc 1 0 w, .int .i64 (Int.ofNat n)] ++ junks 39, [.rows false 1 2 f.row, .rows true w 2 o]⟩
def RpE (w : Nat) (f : Dd) (o : Nat → List AV) : St := ⟨junks 7 ++ [.slc 1 0 w] ++ junks 40, [.rows false 1 2 f.row, .rows true w 2 o]⟩
def cn (w n : Nat) : Nat := bif Nat.ble n (w - n) then n else w - n
def RpM (w n : Nat) (f o : Dd) : St := ⟨junks 7 ++ [.slc 1 0 w, .int .i64 (IntKind.i64.wrap (Int.ofNat n + ((cn w n : Nat) : Int)))] ++ junks 39, [.rows false 1 2 f.row, .rows true w 2 (overF (n + 0) (cn w n) (shF o.row 0) o.row)]⟩
def obR (w n : Nat) : Bool := andB (andB (decide (0 ≤ Int.ofNat n) && decide (Int.ofNat n ≤ (w : Int)) && (decide ((w : Int) ≤ (w : Int)) || decide (((0 : Nat) : Int) + (w : Int) ≤ (w : Int)))) (andB (decide ((0 : Int) ≤ 0) && decide (0 ≤ Int.ofNat n) && (decide (Int.ofNat n ≤ (w : Int)) || decide (((0 : Nat) : Int) + Int.ofNat n ≤ (w : Int)))) (andB (Nat.ble (n + 0 + (w - n)) w && Nat.ble (0 + n) w) true))) true
theorem stR (w n : Nat) (f o : Dd) : evC JS Try.prog (callF Try.prog extK 20 8) noL 20 (loopN Try.prog 77 9) (RpS w n f o.row) (kG 1 [7, 8] [7] none none) =
    some (.node (decide (Int.ofNat n < (w : Int))) (.leaf (.nrm, RpM w n f o)) (.leaf (.ext 0, RpE w f o.row)), andB (impB (decide (Int.ofNat n < (w : Int))) (obR w n)) true) := by kernel_rfl
theorem obR_true {w n : Nat} (h : n ≤ w) : obR w n = true := by
  unfold obR
  rw [decide_eq_true (show 0 ≤ Int.ofNat n from Int.natCast_nonneg n), decide_eq_true (show Int.ofNat n ≤ (w : Int) by simp only [Int.ofNat_eq_natCast]; omega), decide_eq_true (Int.le_refl (w : Int)), Nat.ble_eq_true_of_le (show n + 0 + (w - n) ≤ w by omega), Nat.ble_eq_true_of_le (show 0 + n ≤ w by omega)]
  rfl
def nxt (w n : Nat) (o : Dd) : Dd := ⟨fun i => cond (Nat.ble (n + 0) i && Nat.blt i (n + 0 + cn w n)) (o.k (i - (n + 0))) (o.k i), fun i => cond (Nat.ble (n + 0) i && Nat.blt i (n + 0 + cn w n)) (o.a (i - (n + 0))) (o.a i)⟩
theorem nxt_row (w n : Nat) (o : Dd) (i : Nat) : (nxt w n o).row i = overF (n + 0) (cn w n) (shF o.row 0) o.row i := by
  show [AV.int .i64 (cond (Nat.ble (n + 0) i && Nat.blt i (n + 0 + cn w n)) (o.k (i - (n + 0))) (o.k i)), AV.int .i64 (cond (Nat.ble (n + 0) i && Nat.blt i (n + 0 + cn w n)) (o.a (i - (n + 0))) (o.a i))] = mRow (Nat.ble (n + 0) i && Nat.blt i (n + 0 + cn w n)) [.int .i64 (o.k (i - (n + 0))), .int .i64 (o.a (i - (n + 0)))] [.int .i64 (o.k i), .int .i64 (o.a i)]
  cases (Nat.ble (n + 0) i && Nat.blt i (n + 0 + cn w n)) <;> rfl
def one (f : Dd) : Dd := ⟨fun _ => f.k 0, fun _ => f.a 0⟩
theorem cn_le {w n : Nat} (h : n ≤ w) : n + cn w n ≤ w ∧ cn w n ≤ n ∧ (1 ≤ n → n < w → 1 ≤ cn w n) := by
  unfold cn
  cases hb : Nat.ble n (w - n) with
  | true => have := Nat.le_of_ble_eq_true hb; simp only [cond_true]; omega
  | false =>
    have : ¬ n ≤ w - n := fun h => by rw [Nat.ble_eq_true_of_le h] at hb; cases hb
    simp only [cond_false]; omega
theorem loopR {w : Nat} (hw : w ≤ few) (f : Dd) {n : Nat} {o : Dd} (h1 : n ≤ w) (h2 : 1 ≤ n ∨ w = 0) (h3 : ∀ i, i < n → o.k i = f.k 0 ∧ o.a i = f.a 0) : LoopOk Try.prog 1 (loopN Try.prog 77 9) (RpS w n f o.row) (.leaf (.ext 0, RpE w f (one f).row)) := by
  have hf := few_eq
  exact loop_ind (callF_ok sxApart sxMixed extK_ok (N := 20) 8) sxMixed (N := 20) (L := noL) (B := 1) (body := loopN Try.prog 77 9) (fun _ _ _ _ h => by cases h) [7, 8] [7] none none (fun x : Nat × Dd => RpS w x.1 f x.2.row) (fun x => x.1 ≤ w ∧ (1 ≤ x.1 ∨ w = 0) ∧ ∀ i, i < x.1 → x.2.k i = f.k 0 ∧ x.2.a i = f.a 0) (fun x => w - x.1) (fun _ => (.ext 0, RpE w f (one f).row))
    (fun ⟨n, o⟩ ⟨g1, g2, g3⟩ => by
      simp only at g1 g2 g3
      obtain ⟨c1, c2, c3⟩ := cn_le g1
      refine ⟨_, by rw [stR, obR_true g1, show andB (impB (decide (Int.ofNat n < (w : Int))) true) true = true from by cases decide (Int.ofNat n < (w : Int)) <;> rfl], ?_⟩
      rw [ofNat_lt]
      by_cases hn : n < w
      · left
        have c3 := c3 (by omega) hn
        refine ⟨(n + cn w n, nxt w n o), ?_, ⟨c1, .inl (by simp only; omega), fun i hi => ?_⟩, by simp only; omega, rfl⟩
        · rw [decide_eq_true hn]
          refine ⟨rfl, ?_, BLe.refl _, BLe.rows fun i hi => nxt_row w n o i, trivial⟩
          show (RpM w n f o).slots.map delit = (RpS w (n + cn w n) f (nxt w n o).row).slots.map delit
          unfold RpM RpS
          rw [wrap_i64 (n := Int.ofNat n + ((cn w n : Nat) : Int)) (by simp only [Int.ofNat_eq_natCast]; omega) (by simp only [Int.ofNat_eq_natCast]; omega), show Int.ofNat n + ((cn w n : Nat) : Int) = Int.ofNat (n + cn w n) by simp only [Int.ofNat_eq_natCast]; omega]
        · simp only at hi
          unfold nxt
          simp only [Nat.add_zero]
          by_cases hi2 : n ≤ i
          · rw [Nat.ble_eq_true_of_le hi2, blt_lt (show i < n + cn w n by omega)]
            exact g3 (i - n) (by omega)
          · rw [show Nat.ble n i = false from by cases hb : Nat.ble n i with | false => rfl | true => exact absurd (Nat.le_of_ble_eq_true hb) hi2]
            exact g3 i (by omega)
      · right
        rw [decide_eq_false hn]
        refine ⟨⟨rfl, rfl, BLe.refl _, BLe.rows fun i hi => ?_, trivial⟩, by simp⟩
        obtain ⟨e1, e2⟩ := g3 i (by omega)
        show [_, _] = [_, _]
        rw [e1, e2]; rfl) (n, o) ⟨h1, h2, h3⟩
-- the whole, for few
def D4 : Dd := ⟨fun _ => 4, fun _ => 0⟩
def zR : Nat → List AV := fun _ => [.int .i64 0, .int .i64 0]
def mn (w : Nat) : Nat := bif Nat.ble 1 w then 1 else w
def S0 (w : Nat) : St := RpS w (mn w) D4 (overF 0 (mn w) (shF D4.row 0) zR)
noncomputable def LR (w : Nat) : LoopOr := rwL (fun id => match id with | 3 => some [.int .i64 5, .lit (.int .u64 0), .int .i64 6, .lit (.int .u64 (Int.ofNat w))] | _ => none) (loopAt 9 [7, 8] (S0 w) (.leaf (.ext 0, RpE w D4 D4.row)) noL)
noncomputable def oR (w : Nat) : Bool := andB (andB (deqA (.int .u64 0) (.int .u64 0)) (andB (deqA (.int .u64 (Int.ofNat w)) (.int .u64 (Int.ofNat w))) true)) (andB (deqS (S0 w) (S0 w)) true)
theorem oR_true (w : Nat) : oR w = true := by unfold oR; rw [deqA_self, deqA_self, deqS_self]; rfl
theorem rp0 : evF Try.prog extK (LR 0) 20 8 77 [.slc 0 0 1, .lit (.int .i64 (Int.ofNat 0))] [.rows false 1 2 D4.row] = some (.leaf (.slc 1 0 0, some [.rows false 1 2 D4.row, .rows true 0 2 D4.row]), oR 0) := by kernel_rfl
theorem rp1 : evF Try.prog extK (LR 1) 20 8 77 [.slc 0 0 1, .lit (.int .i64 (Int.ofNat 1))] [.rows false 1 2 D4.row] = some (.leaf (.slc 1 0 1, some [.rows false 1 2 D4.row, .rows true 1 2 D4.row]), oR 1) := by kernel_rfl
theorem rp2 : evF Try.prog extK (LR 2) 20 8 77 [.slc 0 0 1, .lit (.int .i64 (Int.ofNat 2))] [.rows false 1 2 D4.row] = some (.leaf (.slc 1 0 2, some [.rows false 1 2 D4.row, .rows true 2 2 D4.row]), oR 2) := by kernel_rfl
theorem rp3 : evF Try.prog extK (LR 3) 20 8 77 [.slc 0 0 1, .lit (.int .i64 (Int.ofNat 3))] [.rows false 1 2 D4.row] = some (.leaf (.slc 1 0 3, some [.rows false 1 2 D4.row, .rows true 3 2 D4.row]), oR 3) := by kernel_rfl
theorem rp4 : evF Try.prog extK (LR 4) 20 8 77 [.slc 0 0 1, .lit (.int .i64 (Int.ofNat 4))] [.rows false 1 2 D4.row] = some (.leaf (.slc 1 0 4, some [.rows false 1 2 D4.row, .rows true 4 2 D4.row]), oR 4) := by kernel_rfl
theorem rp5 : evF Try.prog extK (LR 5) 20 8 77 [.slc 0 0 1, .lit (.int .i64 (Int.ofNat 5))] [.rows false 1 2 D4.row] = some (.leaf (.slc 1 0 5, some [.rows false 1 2 D4.row, .rows true 5 2 D4.row]), oR 5) := by kernel_rfl
theorem rp6 : evF Try.prog extK (LR 6) 20 8 77 [.slc 0 0 1, .lit (.int .i64 (Int.ofNat 6))] [.rows false 1 2 D4.row] = some (.leaf (.slc 1 0 6, some [.rows false 1 2 D4.row, .rows true 6 2 D4.row]), oR 6) := by kernel_rfl
theorem rp7 : evF Try.prog extK (LR 7) 20 8 77 [.slc 0 0 1, .lit (.int .i64 (Int.ofNat 7))] [.rows false 1 2 D4.row] = some (.leaf (.slc 1 0 7, some [.rows false 1 2 D4.row, .rows true 7 2 D4.row]), oR 7) := by kernel_rfl
theorem rp8 : evF Try.prog extK (LR 8) 20 8 77 [.slc 0 0 1, .lit (.int .i64 (Int.ofNat 8))] [.rows false 1 2 D4.row] = some (.leaf (.slc 1 0 8, some [.rows false 1 2 D4.row, .rows true 8 2 D4.row]), oR 8) := by kernel_rfl
theorem rp9 : evF Try.prog extK (LR 9) 20 8 77 [.slc 0 0 1, .lit (.int .i64 (Int.ofNat 9))] [.rows false 1 2 D4.row] = some (.leaf (.slc 1 0 9, some [.rows false 1 2 D4.row, .rows true 9 2 D4.row]), oR 9) := by kernel_rfl
theorem rp10 : evF Try.prog extK (LR 10) 20 8 77 [.slc 0 0 1, .lit (.int .i64 (Int.ofNat 10))] [.rows false 1 2 D4.row] = some (.leaf (.slc 1 0 10, some [.rows false 1 2 D4.row, .rows true 10 2 D4.row]), oR 10) := by kernel_rfl
theorem rp {w : Nat} (h : w ≤ 10) : evF Try.prog extK (LR w) 20 8 77 [.slc 0 0 1, .lit (.int .i64 (Int.ofNat w))] [.rows false 1 2 D4.row] = some (.leaf (.slc 1 0 w, some [.rows false 1 2 D4.row, .rows true w 2 D4.row]), oR w) := by
  have hw : w = 0 ∨ w = 1 ∨ w = 2 ∨ w = 3 ∨ w = 4 ∨ w = 5 ∨ w = 6 ∨ w = 7 ∨ w = 8 ∨ w = 9 ∨ w = 10 := by omega
  rcases hw with rfl | rfl | rfl | rfl | rfl | rfl | rfl | rfl | rfl | rfl | rfl
  · exact rp0
  · exact rp1
  · exact rp2
  · exact rp3
  · exact rp4
  · exact rp5
  · exact rp6
  · exact rp7
  · exact rp8
  · exact rp9
  · exact rp10
theorem S0_ok {w : Nat} (h : w ≤ 10) : LoopOk Try.prog 1 (loopN Try.prog 77 9) (S0 w) (.leaf (.ext 0, RpE w D4 D4.row)) := by
  have hf := few_eq
  have hm : mn w ≤ w ∧ (1 ≤ mn w ∨ w = 0) ∧ (mn w = 0 ∨ mn w = 1) := by
    unfold mn
    cases hb : Nat.ble 1 w with
    | true => have := Nat.le_of_ble_eq_true hb; exact ⟨this, .inl (Nat.le_refl 1), .inr rfl⟩
    | false =>
      have : ¬ 1 ≤ w := fun h => by rw [Nat.ble_eq_true_of_le h] at hb; cases hb
      exact ⟨Nat.le_refl w, .inr (by omega), .inl (show w = 0 by omega)⟩
  have key := loopR (w := w) (by omega) D4 (n := mn w) (o := ⟨fun i => cond (Nat.blt i (mn w)) 4 0, fun _ => 0⟩) hm.1 hm.2.1 (fun i hi => ⟨by show cond (Nat.blt i (mn w)) 4 0 = 4; rw [blt_lt hi]; rfl, rfl⟩)
  refine key.from ⟨rfl, BLe.refl _, BLe.rows fun i hi => ?_, trivial⟩
  show [AV.int .i64 (cond (Nat.blt i (mn w)) 4 0), AV.int .i64 0] = mRow (Nat.ble 0 i && Nat.blt i (0 + mn w)) [.int .i64 4, .int .i64 0] [.int .i64 0, .int .i64 0]
  rw [Nat.ble_eq_true_of_le (Nat.zero_le i), Bool.true_and, Nat.zero_add]
  cases Nat.blt i (mn w) <;> rfl
def bF0 (H : List Blk) : Nat → List AV := match H with | .rows _ _ _ f :: _ => f | _ => fun _ => []
def shp1 (H : List Blk) : Bool := match H with | [.rows false 1 2 _] => true | _ => false
theorem shp1_of {H : List Blk} (h : shp1 H = true) : ∃ f, H = [.rows false 1 2 f] := by
  unfold shp1 at h
  split at h
  · exact ⟨_, rfl⟩
  · cases h
noncomputable def okRp (H : List Blk) (z : Int) : Bool := andB (deq (bF0 H 0) [.int .i64 4, .int .i64 0]) (andB (shp1 H) (andB (decide (0 ≤ z)) (decide (z ≤ 10))))
noncomputable def runRp : List AV → List Blk → Option Lf := fun args H => match args.map delit with
  | [.slc 0 0 1, .int .i64 z] => some (.leaf (.slc 1 0 z.toNat, some [.rows false 1 2 D4.row, .rows true z.toNat 2 D4.row]), okRp H z)
  | _ => none
theorem undel {ρ : List Sx.Place} : ∀ {l : List AV} {vs : List Value}, VRels ρ (l.map delit) vs → VRels ρ l vs
  | [], vs, h => h
  | x :: t, vs, h => by
    simp only [List.map_cons, VRels] at h ⊢
    obtain ⟨v, u, rfl, h1, h2⟩ := h
    exact ⟨v, u, rfl, delit_iff.1 h1, undel h2⟩
theorem rpI : SumOk Try.prog 77 (selRunF refC runRp) := sum_selF sxApart sxMixed fun args H t hr _ => by
  unfold runRp at hr
  split at hr
  case h_2 => cases hr
  rename_i z hargs
  simp only [Option.some.injEq, Prod.mk.injEq] at hr
  obtain ⟨rfl, hr⟩ := hr
  obtain ⟨g1, hr⟩ := andB_true hr
  obtain ⟨g2, hr⟩ := andB_true hr
  obtain ⟨g3, g4⟩ := andB_true hr
  obtain ⟨f, rfl⟩ := shp1_of g2
  have g1 : f 0 = [.int .i64 4, .int .i64 0] := deq_eq g1
  have g3 := of_decide_eq_true g3
  have g4 := of_decide_eq_true g4
  obtain ⟨w, rfl⟩ : ∃ w : Nat, z = (w : Int) := ⟨z.toNat, by omega⟩
  have hw : w ≤ 10 := by omega
  have h := rp hw
  rw [oR_true] at h
  refine ⟨extK, LR w, 20, 8, .leaf (.slc 1 0 w, some [.rows false 1 2 D4.row, .rows true w 2 D4.row]), [.slc 0 0 1, .lit (.int .i64 (Int.ofNat w))], [.rows false 1 2 D4.row], ⟨BLe.rows fun i hi => ?_, trivial⟩, extK_ok, rwL_all _ (by decide +kernel) (loopAt_all (B := 1) (by decide +kernel) (S0_ok hw) noL_all), fun ρ vals hv => ?_, h, ?_⟩
  · have : i = 0 := by omega
    subst this
    rw [g1]; rfl
  · have := delits_rel hv
    rw [hargs] at this
    have e : [AV.slc 0 0 1, AV.lit (.int .i64 (Int.ofNat w))].map delit = [.slc 0 0 1, .int .i64 (w : Int)] := rfl
    rw [← e] at this
    exact undel this
  · exact LLe.refl _
end Go.Proofs.Ytllonddgbjgmdaa.P30
set_option linter.unusedVariables false
set_option linter.unusedSimpArgs false
set_option maxRecDepth 100000
namespace Go.Proofs.Ytllonddgbjgmdaa.P31
open Go.Sx Go.Sx.R0 Go.RowKit Go.Proofs.Ytllonddgbjgmdaa.W1 Go.Proofs.Ytllonddgbjgmdaa.W3 Go.Proofs.Ytllonddgbjgmdaa.W5 Go.Proofs.Ytllonddgbjgmdaa.W9 Go.Proofs.Ytllonddgbjgmdaa.W10 Go.Proofs.Ytllonddgbjgmdaa.P1 Go.Proofs.Ytllonddgbjgmdaa.P2 Go.Proofs.Ytllonddgbjgmdaa.P3 Go.Proofs.Ytllonddgbjgmdaa.P4 Go.Proofs.Ytllonddgbjgmdaa.P5 Go.Proofs.Ytllonddgbjgmdaa.P6 Go.Proofs.Ytllonddgbjgmdaa.P7 Go.Proofs.Ytllonddgbjgmdaa.P8 Go.Proofs.Ytllonddgbjgmdaa.P9 Go.Proofs.Ytllonddgbjgmdaa.P10 Go.Proofs.Ytllonddgbjgmdaa.P12 Go.Proofs.Ytllonddgbjgmdaa.P13 Go.Proofs.Ytllonddgbjgmdaa.P14 Go.Proofs.Ytllonddgbjgmdaa.P15 Go.Proofs.Ytllonddgbjgmdaa.P17 Go.Proofs.Ytllonddgbjgmdaa.P25 Go.Proofs.Ytllonddgbjgmdaa.P26 Go.Proofs.Ytllonddgbjgmdaa.P27 Go.Proofs.Ytllonddgbjgmdaa.P28 Go.Proofs.Ytllonddgbjgmdaa.P29 Go.Proofs.Ytllonddgbjgmdaa.P30

def PI (n m : Nat) (c : Bt) (d : Dd) (l : Nat) (o : Nat → List AV) (M : Nat) (g : Nat → Bool) (t : Int) : St :=
  ⟨[.junk, .slc 1 0 m] ++ junks 7 ++ [.slc 2 0 l] ++ junks 27 ++ [.slc 3 0 M, .int .i64 (M : Int), .int .i64 t] ++ junks 25, [.rows false n 9 c.row, .rows false m 2 d.row, .rows true l 2 o, .rows true M 1 (bRow g)]⟩
def PIE (n m : Nat) (c : Bt) (d : Dd) (l : Nat) (o : Nat → List AV) : St :=
  ⟨[.junk, .slc 1 0 m] ++ junks 7 ++ [.slc 2 0 l] ++ junks 55, [.rows false n 9 c.row, .rows false m 2 d.row, .rows true l 2 o]⟩
def d3 (t : Nat) (i : Nat) : List AV := bif Nat.blt i 3 then List.take 2 (List.drop (i * 2) [.int .i64 1, .int .i64 (Int.ofNat t), .int .i64 2, .int .i64 0, .int .i64 2, .int .i64 0]) else [.int .i64 0, .int .i64 0]
def oI3 (l : Nat) (o : Nat → List AV) (t i : Nat) : List AV := renVL (idxP [0, 1, 5, 3]) (catF l o (d3 t) i)
def obA3 (l : Nat) : Bool := andB (Nat.ble (0 + l) l && Nat.ble (0 + 3) 3 && Nat.ble (l + 3) few) true
def obI (l M : Nat) (g : Nat → Bool) (t : Nat) : Bool := andB (inB (Int.ofNat t) M) (andB (Nat.blt t M) (andB (impB (!g t) (obA3 l)) true))
theorem stI (n m : Nat) (c : Bt) (d D : Dd) (l M : Nat) (g : Nat → Bool) (t : Nat) : evC JS Try.prog (callF Try.prog extK 20 8) noL 20 (loopN Try.prog 42 8) (PI n m c d l D.row M g (Int.ofNat t)) (kA 2 [1, 9, 37, 38, 39] [1, 9]) =
    some (.node (decide (Int.ofNat t < (M : Int))) (.node (!g t) (.leaf (.nrm, PI n m c d (l + 3) (oI3 l D.row t) M g (IntKind.i64.wrap (Int.ofNat t + 1)))) (.leaf (.nrm, PI n m c d l D.row M g (IntKind.i64.wrap (Int.ofNat t + 1))))) (.leaf (.ext 0, PIE n m c d l D.row)), andB (impB (decide (Int.ofNat t < (M : Int))) (obI l M g t)) true) := by kernel_rfl
theorem d3_row (t i : Nat) : ∃ x y, d3 t i = [.int .i64 x, .int .i64 y] ∧ (i < 3 → x = kB i ∧ y = aB t i) := by
  unfold d3
  by_cases h : i < 3
  · have hi : i = 0 ∨ i = 1 ∨ i = 2 := by omega
    rcases hi with rfl | rfl | rfl
    · exact ⟨1, Int.ofNat t, rfl, fun _ => ⟨rfl, rfl⟩⟩
    · exact ⟨2, 0, rfl, fun _ => ⟨rfl, rfl⟩⟩
    · exact ⟨2, 0, rfl, fun _ => ⟨rfl, rfl⟩⟩
  · rw [blt_ge (by omega)]
    exact ⟨0, 0, rfl, fun h' => absurd h' h⟩
theorem oI3_D (D : Dd) {l t : Nat} (h : ∀ j, j < 3 → D.k (l + j) = kB j ∧ D.a (l + j) = aB t j) {i : Nat} (hi : i < l + 3) : D.row i = oI3 l D.row t i := by
  refine of_D D (f := oI3 l D.row t) (l := l + 3) (ren_D _ D _ fun i => ?_) hi
  obtain ⟨x, y, e, g⟩ := d3_row t (i - l)
  by_cases hl : i < l
  · rw [catF_lt _ _ hl, e]
    exact ⟨D.k i, D.a i, rfl, fun _ => ⟨rfl, rfl⟩⟩
  · rw [catF_ge _ _ (by omega), e]
    refine ⟨x, y, rfl, fun h3 => ?_⟩
    obtain ⟨g1, g2⟩ := g (by omega)
    obtain ⟨h1, h2⟩ := h (i - l) (by omega)
    rw [show l + (i - l) = i by omega] at h1 h2
    rw [g1, g2, h1, h2]; exact ⟨rfl, rfl⟩
theorem PI_le (n m : Nat) (c : Bt) (d : Dd) (l : Nat) {o o' : Nat → List AV} (M : Nat) (g : Nat → Bool) (t : Int) (h : ∀ i, i < l → o' i = o i) : SLe (PI n m c d l o M g t) (PI n m c d l o' M g t) := ⟨rfl, BLe.refl _, BLe.refl _, BLe.rows fun i hi => h i hi, BLe.refl _, trivial⟩
theorem obI_true {l M : Nat} (g : Nat → Bool) {t : Nat} (ht : t < M) (hl : l + 3 ≤ few) : obI l M g t = true := by
  unfold obI obA3
  rw [inB_nat ht, blt_lt ht, Nat.ble_eq_true_of_le (show 0 + l ≤ l by omega), Nat.ble_eq_true_of_le (show 0 + 3 ≤ 3 by omega), Nat.ble_eq_true_of_le hl]
  cases g t <;> rfl
theorem loopI {n m : Nat} {c : Bt} {d D : Dd} {F : Fl} {M : Nat} (hM : M ≤ 1000) (hw : F.w ≤ 10) (hD : P28.LOk D F M) : LoopOk Try.prog 2 (loopN Try.prog 42 8) (PI n m c d F.w D.row M F.kn 0) (.leaf (.ext 0, PIE n m c d (F.w + 3 * unk F M) D.row)) :=
  loop_allH (callF_ok sxApart sxMixed extK_ok (N := 20) 8) sxMixed (N := 20) (L := noL) (fun _ _ _ _ h => by cases h) [1, 9, 37, 38, 39] [1, 9] (gA 2 [1, 9, 37, 38, 39] [1, 9]) (fun t => PI n m c d (F.w + 3 * unk F t) D.row M F.kn (Int.ofNat t)) M _ (fun h => by cases h)
    (fun t ht => by
      have hf := few_eq
      have hu := unk_le F t
      refine ⟨_, by rw [show kH 2 [1, 9, 37, 38, 39] [1, 9] (gA 2 [1, 9, 37, 38, 39] [1, 9]) = kA 2 [1, 9, 37, 38, 39] [1, 9] from rfl, stI, obI_true F.kn ht (by omega), ofNat_lt, decide_eq_true ht]; rfl, ?_⟩
      have hwr : IntKind.i64.wrap (Int.ofNat t + 1) = Int.ofNat (t + 1) := wrap_i64 (n := Int.ofNat t + 1) (by simp only [Int.ofNat_eq_natCast]; omega) (by simp only [Int.ofNat_eq_natCast]; omega)
      rw [hwr]
      cases hk : F.kn t with
      | true =>
        have eu : unk F (t + 1) = unk F t := by show (bif F.kn t then _ else _) = _; rw [hk]; rfl
        rw [eu]
        exact XLe.refl _
      | false =>
        have eu : unk F (t + 1) = unk F t + 1 := by show (bif F.kn t then _ else _) = _; rw [hk]; rfl
        rw [eu, show F.w + 3 * (unk F t + 1) = F.w + 3 * unk F t + 3 by omega]
        exact ⟨rfl, PI_le n m c d _ M F.kn _ fun i hi => oI3_D D (hD.2 t ht hk) hi⟩)
    (by
      refine ⟨_, by rw [show kH 2 [1, 9, 37, 38, 39] [1, 9] (gA 2 [1, 9, 37, 38, 39] [1, 9]) = kA 2 [1, 9, 37, 38, 39] [1, 9] from rfl, stI, ofNat_lt, decide_eq_false (Nat.lt_irrefl M), imp_ff], XLe.refl _⟩)
-- the function
noncomputable def KFI (r : Int) (R n m : Nat) (c : Bt) (d : Dd) : CallerT := addK 68 (runC r n m c d) (addK 73 (runAf R n m c d) (addK 77 (selRunF refC runRp) extK))
theorem KFI_ok (r : Int) {R : Nat} (h1 : 1 ≤ R) (h2 : R ≤ 4) (n m : Nat) (c : Bt) (d : Dd) : CallerTOk Try.prog (KFI r R n m c d) := addK_ok (cI r n m c d) (addK_ok (afI h1 h2 n m c d) (addK_ok rpI extK_ok))
noncomputable def LFI (n m : Nat) (c : Bt) (d D : Dd) (F : Fl) (M l : Nat) : LoopOr := loopGc 8 [1, 9, 37, 38, 39] 1 2 (autoP 2) 9 (PI n m c d F.w D4.row M F.kn 0) (.leaf (.ext 0, PIE n m c d l D.row)) noL
def dR5I (l : Nat) (o : Nat → List AV) : Nat → List AV := catF l o (dNew 5 0)
noncomputable def TLI (r : Int) (n m : Nat) (c : Bt) (d D : Dd) (l : Nat) : Tr (AV × Option (List Blk)) := .node (!(gv r n c m d == 0)) (.leaf (.tup [.nils, .int .i64 (gv r n c m d)], none)) (.node (big m l) (.leaf (.tup [.nils, .lit (.int .i64 3)], none)) (.leaf (.tup [.slc 4 0 (l + 1), z0], some (H2 n m c d ++ dds 2 ++ [.rows true (l + 1) 2 (dR5I l D.row)]))))
noncomputable def qRp (w : Nat) : Bool := andB (deq [.int .i64 4, .int .i64 0] [.int .i64 4, .int .i64 0]) (andB true (andB (decide (0 ≤ (w : Int))) (decide ((w : Int) ≤ 10))))
noncomputable def oLI (r : Int) (R n m : Nat) (c : Bt) (d : Dd) (w l : Nat) (q : Bool) : Bool := andB (W10.okC r n m c d) (impB (!!(gv r n c m d == 0)) (andB (okAf' r R n m c d) (andB (qRp w) (andB q (andB (andB (andB (Nat.ble (0 + l) l) true) (Nat.ble (l + 1) few)) true)))))
theorem fi1 (r : Int) (n m : Nat) (c : Bt) (d D : Dd) (l : Nat) (q : Bool) : (evF Try.prog (KFI r 1 n m c d) (fun body _ => bif Nat.beq (loopId body) 8 then some (.leaf (.ext 0, PIE n m c d l D.row), q) else none) 20 8 42 (A2 r n m) (H2 n m c d)).map (fun x => (mapTr klV x.1, x.2)) = some (TLI r n m c d D l, oLI r 1 n m c d (sq (enS 1 n c) 1 d m).w l q) := by kernel_rfl
theorem fj1 (r : Int) (n m : Nat) (c : Bt) (d D : Dd) (l : Nat) : (evF Try.prog (KFI r 1 n m c d) (LFI n m c d D (sq (enS 1 n c) 1 d m) (mOf c n) l) 20 8 42 (A2 r n m) (H2 n m c d)).map (fun x => (mapTr klV x.1, x.2)) = some (TLI r n m c d D l, oLI r 1 n m c d (sq (enS 1 n c) 1 d m).w l (deqS (PI n m c d (sq (enS 1 n c) 1 d m).w D4.row (mOf c n) (sq (enS 1 n c) 1 d m).kn 0) (PI n m c d (sq (enS 1 n c) 1 d m).w D4.row (mOf c n) (sq (enS 1 n c) 1 d m).kn 0))) := by kernel_rfl
theorem fj2 (r : Int) (n m : Nat) (c : Bt) (d D : Dd) (l : Nat) : (evF Try.prog (KFI r 2 n m c d) (LFI n m c d D (sq (enS 2 n c) 2 d m) (mOf c n) l) 20 8 42 (A2 r n m) (H2 n m c d)).map (fun x => (mapTr klV x.1, x.2)) = some (TLI r n m c d D l, oLI r 2 n m c d (sq (enS 2 n c) 2 d m).w l (deqS (PI n m c d (sq (enS 2 n c) 2 d m).w D4.row (mOf c n) (sq (enS 2 n c) 2 d m).kn 0) (PI n m c d (sq (enS 2 n c) 2 d m).w D4.row (mOf c n) (sq (enS 2 n c) 2 d m).kn 0))) := by kernel_rfl
theorem fj3 (r : Int) (n m : Nat) (c : Bt) (d D : Dd) (l : Nat) : (evF Try.prog (KFI r 3 n m c d) (LFI n m c d D (sq (enS 3 n c) 3 d m) (mOf c n) l) 20 8 42 (A2 r n m) (H2 n m c d)).map (fun x => (mapTr klV x.1, x.2)) = some (TLI r n m c d D l, oLI r 3 n m c d (sq (enS 3 n c) 3 d m).w l (deqS (PI n m c d (sq (enS 3 n c) 3 d m).w D4.row (mOf c n) (sq (enS 3 n c) 3 d m).kn 0) (PI n m c d (sq (enS 3 n c) 3 d m).w D4.row (mOf c n) (sq (enS 3 n c) 3 d m).kn 0))) := by kernel_rfl
theorem fj4 (r : Int) (n m : Nat) (c : Bt) (d D : Dd) (l : Nat) : (evF Try.prog (KFI r 4 n m c d) (LFI n m c d D (sq (enS 4 n c) 4 d m) (mOf c n) l) 20 8 42 (A2 r n m) (H2 n m c d)).map (fun x => (mapTr klV x.1, x.2)) = some (TLI r n m c d D l, oLI r 4 n m c d (sq (enS 4 n c) 4 d m).w l (deqS (PI n m c d (sq (enS 4 n c) 4 d m).w D4.row (mOf c n) (sq (enS 4 n c) 4 d m).kn 0) (PI n m c d (sq (enS 4 n c) 4 d m).w D4.row (mOf c n) (sq (enS 4 n c) 4 d m).kn 0))) := by kernel_rfl
def lfE (e : Int) : AV × Option (List Blk) := (.tup [.nils, .int .i64 e], none)
theorem noQI (B : Nat) (f : Nat) (t : Tr (AX × St)) : Go.Sx.LOk Try.prog B f (fun body _ => bif Nat.beq (loopId body) 8 then some (t, false) else none) := fun _ _ _ _ body _ _ _ h => by
  simp only at h
  cases hb : Nat.beq (loopId body) 8 <;> rw [hb] at h <;> simp at h
theorem fdIX (r : Int) (n m : Nat) (c : Bt) (d : Dd) : SumOk Try.prog 42 (runFd r n m c d (lfE (gv r n c m d)) (gX r n m c d)) := sum_atH sxApart sxMixed (KFI_ok r (R := 1) (by omega) (by omega) n m c d) (fun body _ => bif Nat.beq (loopId body) 8 then some (.leaf (.ext 0, PIE n m c d 0 d.row), false) else none) (N := 20) (d := 8) fun hg => by
  obtain ⟨h1, hg⟩ := andB_true hg
  obtain ⟨h2, hg⟩ := andB_true hg
  obtain ⟨h3, h4⟩ := andB_true hg
  have h := fi1 r n m c d d 0 false
  have ho : oLI r 1 n m c d (sq (enS 1 n c) 1 d m).w 0 false = true := by
    unfold oLI
    rw [W10.okC_true r (Nat.le_of_ble_eq_true h1) (Nat.le_of_ble_eq_true h2) (pB_of h3), h4, Bool.not_true, Go.Sx.R0.imp_f]; rfl
  obtain ⟨T', hT, hl⟩ := klV_of ho h
  refine ⟨noQI _ _ _, T', hT, ?_⟩
  unfold TLI at hl
  rw [h4] at hl
  exact hl
theorem dR5I_D (D : Dd) {l : Nat} (hk : D.k l = 5) (ha : D.a l = 0) {i : Nat} (hi : i < l + 1) : D.row i = dR5I l D.row i :=
  of_D D (f := dR5I l D.row) (cat_D D _ (row_D D l) hk ha) hi
theorem LFI_ok {R n m : Nat} {c : Bt} {d : Dd} (h1 : 1 ≤ R) (hn : n ≤ 6) (hd : P10.okD m d) : Go.Sx.LOk Try.prog 2 42 (LFI n m c d (Df R n m c d) (sq (enS R n c) R d m) (mOf c n) (ld R n m c d)) := by
  have hM := mOf_le c n
  have hF := Fd_ok (n := n) (c := c) h1 hd
  have hD := fin_ok (P29.Fd R n m c d) (mOf c n)
  have key := loopI (n := n) (m := m) (c := c) (d := d) (D := Df R n m c d) (F := P29.Fd R n m c d) (M := mOf c n) (by omega) hF.2.1 hD
  refine loopGc_all (B := 2) (by decide +kernel) (key.from ?_) noL_all
  refine PI_le n m c d _ _ _ _ fun i hi => ?_
  obtain ⟨e1, e2⟩ := hD.1 i hi
  show [AV.int .i64 ((fin (P29.Fd R n m c d) (mOf c n)).k i), AV.int .i64 ((fin (P29.Fd R n m c d) (mOf c n)).a i)] = _
  rw [e1, e2]; rfl
theorem fdI1 {n m : Nat} {c : Bt} {d : Dd} (h3 : NmOk n c) (h0 : gv (Int.ofNat 1) n c m d = 0) : ∃ T', evF Try.prog (KFI (Int.ofNat 1) 1 n m c d) (LFI n m c d (Df 1 n m c d) (sq (enS 1 n c) 1 d m) (mOf c n) (ld 1 n m c d)) 20 8 42 (A2 (Int.ofNat 1) n m) (H2 n m c d) = some (T', true) ∧ LLe T'.get (TLI (Int.ofNat 1) n m c d (Df 1 n m c d) (ld 1 n m c d)).get := by
  obtain ⟨_, hn, hd, hm⟩ := gv_zero h0
  have hf := few_eq
  have hl := ld_le (R := 1) (n := n) (m := m) (c := c) (d := d) (by omega) hd hn
  have hw : (sq (enS 1 n c) 1 d m).w ≤ 10 := (Fd_ok (R := 1) (n := n) (c := c) (by omega) hd).2.1
  have h := fj1 (Int.ofNat 1) n m c d (Df 1 n m c d) (ld 1 n m c d)
  refine klV_of ?_ h
  have e1 : qRp (sq (enS 1 n c) 1 d m).w = true := by
    unfold qRp
    rw [deq_self, decide_eq_true (show (0 : Int) ≤ ((sq (enS 1 n c) 1 d m).w : Int) by omega), decide_eq_true (show ((sq (enS 1 n c) 1 d m).w : Int) ≤ 10 by omega)]; rfl
  have e2 : okAf' (Int.ofNat 1) 1 n m c d = true := by
    unfold okAf'
    rw [deq_self, deqH_self, Nat.ble_eq_true_of_le (show n ≤ 1000 by omega), pB_true hd]; rfl
  unfold oLI
  rw [W10.okC_true _ (by omega) (by omega) h3, h0, e1, e2, deqS_self, Nat.ble_eq_true_of_le (show 0 + ld 1 n m c d ≤ ld 1 n m c d by omega), Nat.ble_eq_true_of_le (show ld 1 n m c d + 1 ≤ few by omega)]
  rfl
theorem fdIL1 {n m : Nat} (c : Bt) (d : Dd) : SumOk Try.prog 42 (runFd (Int.ofNat 1) n m c d (lfE 3) (andB (gV (Int.ofNat 1) n m c d) (big m (ld 1 n m c d)))) := sum_atH sxApart sxMixed (KFI_ok (Int.ofNat 1) (R := 1) (by omega) (by omega) n m c d) _ (N := 20) (d := 8) fun hg => by
  obtain ⟨h3, h0, h4, hb⟩ := g3 hg
  obtain ⟨_, hn, hd, hm⟩ := gv_zero h0
  obtain ⟨T', hT, hl⟩ := fdI1 h3 h0
  refine ⟨LFI_ok (by omega) hn hd, T', hT, ?_⟩
  unfold TLI at hl
  rw [h4, hb] at hl
  exact ⟨hl.1, hl.2⟩
theorem fdIV1 {n m : Nat} (c : Bt) (d : Dd) : SumOk Try.prog 42 (runFd (Int.ofNat 1) n m c d (lfL 2 n m c d (ld 1 n m c d + 1) (Df 1 n m c d).row 0) (andB (gV (Int.ofNat 1) n m c d) (!big m (ld 1 n m c d)))) := sum_atH sxApart sxMixed (KFI_ok (Int.ofNat 1) (R := 1) (by omega) (by omega) n m c d) _ (N := 20) (d := 8) fun hg => by
  obtain ⟨h3, h0, h4, hb⟩ := g3 hg
  obtain ⟨_, hn, hd, hm⟩ := gv_zero h0
  obtain ⟨T', hT, hl⟩ := fdI1 h3 h0
  refine ⟨LFI_ok (by omega) hn hd, T', hT, ?_⟩
  have hb : big m (ld 1 n m c d) = false := by simpa using hb
  unfold TLI at hl
  rw [h4, hb] at hl
  have hr : BLe (.rows true (ld 1 n m c d + 1) 2 (dR5I (ld 1 n m c d) (Df 1 n m c d).row)) (.rows true (ld 1 n m c d + 1) 2 (Df 1 n m c d).row) := BLe.rows fun i hi => dR5I_D _ (fin_end _ _).1 (fin_end _ _).2 hi
  exact LLe_tr hl (HLe.app (HLe.refl _) ⟨hr, trivial⟩)
theorem fdI2 {n m : Nat} {c : Bt} {d : Dd} (h3 : NmOk n c) (h0 : gv (Int.ofNat 2) n c m d = 0) : ∃ T', evF Try.prog (KFI (Int.ofNat 2) 2 n m c d) (LFI n m c d (Df 2 n m c d) (sq (enS 2 n c) 2 d m) (mOf c n) (ld 2 n m c d)) 20 8 42 (A2 (Int.ofNat 2) n m) (H2 n m c d) = some (T', true) ∧ LLe T'.get (TLI (Int.ofNat 2) n m c d (Df 2 n m c d) (ld 2 n m c d)).get := by
  obtain ⟨_, hn, hd, hm⟩ := gv_zero h0
  have hf := few_eq
  have hl := ld_le (R := 2) (n := n) (m := m) (c := c) (d := d) (by omega) hd hn
  have hw : (sq (enS 2 n c) 2 d m).w ≤ 10 := (Fd_ok (R := 2) (n := n) (c := c) (by omega) hd).2.1
  have h := fj2 (Int.ofNat 2) n m c d (Df 2 n m c d) (ld 2 n m c d)
  refine klV_of ?_ h
  have e1 : qRp (sq (enS 2 n c) 2 d m).w = true := by
    unfold qRp
    rw [deq_self, decide_eq_true (show (0 : Int) ≤ ((sq (enS 2 n c) 2 d m).w : Int) by omega), decide_eq_true (show ((sq (enS 2 n c) 2 d m).w : Int) ≤ 10 by omega)]; rfl
  have e2 : okAf' (Int.ofNat 2) 2 n m c d = true := by
    unfold okAf'
    rw [deq_self, deqH_self, Nat.ble_eq_true_of_le (show n ≤ 1000 by omega), pB_true hd]; rfl
  unfold oLI
  rw [W10.okC_true _ (by omega) (by omega) h3, h0, e1, e2, deqS_self, Nat.ble_eq_true_of_le (show 0 + ld 2 n m c d ≤ ld 2 n m c d by omega), Nat.ble_eq_true_of_le (show ld 2 n m c d + 1 ≤ few by omega)]
  rfl
theorem fdIL2 {n m : Nat} (c : Bt) (d : Dd) : SumOk Try.prog 42 (runFd (Int.ofNat 2) n m c d (lfE 3) (andB (gV (Int.ofNat 2) n m c d) (big m (ld 2 n m c d)))) := sum_atH sxApart sxMixed (KFI_ok (Int.ofNat 2) (R := 2) (by omega) (by omega) n m c d) _ (N := 20) (d := 8) fun hg => by
  obtain ⟨h3, h0, h4, hb⟩ := g3 hg
  obtain ⟨_, hn, hd, hm⟩ := gv_zero h0
  obtain ⟨T', hT, hl⟩ := fdI2 h3 h0
  refine ⟨LFI_ok (by omega) hn hd, T', hT, ?_⟩
  unfold TLI at hl
  rw [h4, hb] at hl
  exact ⟨hl.1, hl.2⟩
theorem fdIV2 {n m : Nat} (c : Bt) (d : Dd) : SumOk Try.prog 42 (runFd (Int.ofNat 2) n m c d (lfL 2 n m c d (ld 2 n m c d + 1) (Df 2 n m c d).row 0) (andB (gV (Int.ofNat 2) n m c d) (!big m (ld 2 n m c d)))) := sum_atH sxApart sxMixed (KFI_ok (Int.ofNat 2) (R := 2) (by omega) (by omega) n m c d) _ (N := 20) (d := 8) fun hg => by
  obtain ⟨h3, h0, h4, hb⟩ := g3 hg
  obtain ⟨_, hn, hd, hm⟩ := gv_zero h0
  obtain ⟨T', hT, hl⟩ := fdI2 h3 h0
  refine ⟨LFI_ok (by omega) hn hd, T', hT, ?_⟩
  have hb : big m (ld 2 n m c d) = false := by simpa using hb
  unfold TLI at hl
  rw [h4, hb] at hl
  have hr : BLe (.rows true (ld 2 n m c d + 1) 2 (dR5I (ld 2 n m c d) (Df 2 n m c d).row)) (.rows true (ld 2 n m c d + 1) 2 (Df 2 n m c d).row) := BLe.rows fun i hi => dR5I_D _ (fin_end _ _).1 (fin_end _ _).2 hi
  exact LLe_tr hl (HLe.app (HLe.refl _) ⟨hr, trivial⟩)
theorem fdI3 {n m : Nat} {c : Bt} {d : Dd} (h3 : NmOk n c) (h0 : gv (Int.ofNat 3) n c m d = 0) : ∃ T', evF Try.prog (KFI (Int.ofNat 3) 3 n m c d) (LFI n m c d (Df 3 n m c d) (sq (enS 3 n c) 3 d m) (mOf c n) (ld 3 n m c d)) 20 8 42 (A2 (Int.ofNat 3) n m) (H2 n m c d) = some (T', true) ∧ LLe T'.get (TLI (Int.ofNat 3) n m c d (Df 3 n m c d) (ld 3 n m c d)).get := by
  obtain ⟨_, hn, hd, hm⟩ := gv_zero h0
  have hf := few_eq
  have hl := ld_le (R := 3) (n := n) (m := m) (c := c) (d := d) (by omega) hd hn
  have hw : (sq (enS 3 n c) 3 d m).w ≤ 10 := (Fd_ok (R := 3) (n := n) (c := c) (by omega) hd).2.1
  have h := fj3 (Int.ofNat 3) n m c d (Df 3 n m c d) (ld 3 n m c d)
  refine klV_of ?_ h
  have e1 : qRp (sq (enS 3 n c) 3 d m).w = true := by
    unfold qRp
    rw [deq_self, decide_eq_true (show (0 : Int) ≤ ((sq (enS 3 n c) 3 d m).w : Int) by omega), decide_eq_true (show ((sq (enS 3 n c) 3 d m).w : Int) ≤ 10 by omega)]; rfl
  have e2 : okAf' (Int.ofNat 3) 3 n m c d = true := by
    unfold okAf'
    rw [deq_self, deqH_self, Nat.ble_eq_true_of_le (show n ≤ 1000 by omega), pB_true hd]; rfl
  unfold oLI
  rw [W10.okC_true _ (by omega) (by omega) h3, h0, e1, e2, deqS_self, Nat.ble_eq_true_of_le (show 0 + ld 3 n m c d ≤ ld 3 n m c d by omega), Nat.ble_eq_true_of_le (show ld 3 n m c d + 1 ≤ few by omega)]
  rfl
theorem fdIL3 {n m : Nat} (c : Bt) (d : Dd) : SumOk Try.prog 42 (runFd (Int.ofNat 3) n m c d (lfE 3) (andB (gV (Int.ofNat 3) n m c d) (big m (ld 3 n m c d)))) := sum_atH sxApart sxMixed (KFI_ok (Int.ofNat 3) (R := 3) (by omega) (by omega) n m c d) _ (N := 20) (d := 8) fun hg => by
  obtain ⟨h3, h0, h4, hb⟩ := g3 hg
  obtain ⟨_, hn, hd, hm⟩ := gv_zero h0
  obtain ⟨T', hT, hl⟩ := fdI3 h3 h0
  refine ⟨LFI_ok (by omega) hn hd, T', hT, ?_⟩
  unfold TLI at hl
  rw [h4, hb] at hl
  exact ⟨hl.1, hl.2⟩
theorem fdIV3 {n m : Nat} (c : Bt) (d : Dd) : SumOk Try.prog 42 (runFd (Int.ofNat 3) n m c d (lfL 2 n m c d (ld 3 n m c d + 1) (Df 3 n m c d).row 0) (andB (gV (Int.ofNat 3) n m c d) (!big m (ld 3 n m c d)))) := sum_atH sxApart sxMixed (KFI_ok (Int.ofNat 3) (R := 3) (by omega) (by omega) n m c d) _ (N := 20) (d := 8) fun hg => by
  obtain ⟨h3, h0, h4, hb⟩ := g3 hg
  obtain ⟨_, hn, hd, hm⟩ := gv_zero h0
  obtain ⟨T', hT, hl⟩ := fdI3 h3 h0
  refine ⟨LFI_ok (by omega) hn hd, T', hT, ?_⟩
  have hb : big m (ld 3 n m c d) = false := by simpa using hb
  unfold TLI at hl
  rw [h4, hb] at hl
  have hr : BLe (.rows true (ld 3 n m c d + 1) 2 (dR5I (ld 3 n m c d) (Df 3 n m c d).row)) (.rows true (ld 3 n m c d + 1) 2 (Df 3 n m c d).row) := BLe.rows fun i hi => dR5I_D _ (fin_end _ _).1 (fin_end _ _).2 hi
  exact LLe_tr hl (HLe.app (HLe.refl _) ⟨hr, trivial⟩)
theorem fdI4 {n m : Nat} {c : Bt} {d : Dd} (h3 : NmOk n c) (h0 : gv (Int.ofNat 4) n c m d = 0) : ∃ T', evF Try.prog (KFI (Int.ofNat 4) 4 n m c d) (LFI n m c d (Df 4 n m c d) (sq (enS 4 n c) 4 d m) (mOf c n) (ld 4 n m c d)) 20 8 42 (A2 (Int.ofNat 4) n m) (H2 n m c d) = some (T', true) ∧ LLe T'.get (TLI (Int.ofNat 4) n m c d (Df 4 n m c d) (ld 4 n m c d)).get := by
  obtain ⟨_, hn, hd, hm⟩ := gv_zero h0
  have hf := few_eq
  have hl := ld_le (R := 4) (n := n) (m := m) (c := c) (d := d) (by omega) hd hn
  have hw : (sq (enS 4 n c) 4 d m).w ≤ 10 := (Fd_ok (R := 4) (n := n) (c := c) (by omega) hd).2.1
  have h := fj4 (Int.ofNat 4) n m c d (Df 4 n m c d) (ld 4 n m c d)
  refine klV_of ?_ h
  have e1 : qRp (sq (enS 4 n c) 4 d m).w = true := by
    unfold qRp
    rw [deq_self, decide_eq_true (show (0 : Int) ≤ ((sq (enS 4 n c) 4 d m).w : Int) by omega), decide_eq_true (show ((sq (enS 4 n c) 4 d m).w : Int) ≤ 10 by omega)]; rfl
  have e2 : okAf' (Int.ofNat 4) 4 n m c d = true := by
    unfold okAf'
    rw [deq_self, deqH_self, Nat.ble_eq_true_of_le (show n ≤ 1000 by omega), pB_true hd]; rfl
  unfold oLI
  rw [W10.okC_true _ (by omega) (by omega) h3, h0, e1, e2, deqS_self, Nat.ble_eq_true_of_le (show 0 + ld 4 n m c d ≤ ld 4 n m c d by omega), Nat.ble_eq_true_of_le (show ld 4 n m c d + 1 ≤ few by omega)]
  rfl
theorem fdIL4 {n m : Nat} (c : Bt) (d : Dd) : SumOk Try.prog 42 (runFd (Int.ofNat 4) n m c d (lfE 3) (andB (gV (Int.ofNat 4) n m c d) (big m (ld 4 n m c d)))) := sum_atH sxApart sxMixed (KFI_ok (Int.ofNat 4) (R := 4) (by omega) (by omega) n m c d) _ (N := 20) (d := 8) fun hg => by
  obtain ⟨h3, h0, h4, hb⟩ := g3 hg
  obtain ⟨_, hn, hd, hm⟩ := gv_zero h0
  obtain ⟨T', hT, hl⟩ := fdI4 h3 h0
  refine ⟨LFI_ok (by omega) hn hd, T', hT, ?_⟩
  unfold TLI at hl
  rw [h4, hb] at hl
  exact ⟨hl.1, hl.2⟩
theorem fdIV4 {n m : Nat} (c : Bt) (d : Dd) : SumOk Try.prog 42 (runFd (Int.ofNat 4) n m c d (lfL 2 n m c d (ld 4 n m c d + 1) (Df 4 n m c d).row 0) (andB (gV (Int.ofNat 4) n m c d) (!big m (ld 4 n m c d)))) := sum_atH sxApart sxMixed (KFI_ok (Int.ofNat 4) (R := 4) (by omega) (by omega) n m c d) _ (N := 20) (d := 8) fun hg => by
  obtain ⟨h3, h0, h4, hb⟩ := g3 hg
  obtain ⟨_, hn, hd, hm⟩ := gv_zero h0
  obtain ⟨T', hT, hl⟩ := fdI4 h3 h0
  refine ⟨LFI_ok (by omega) hn hd, T', hT, ?_⟩
  have hb : big m (ld 4 n m c d) = false := by simpa using hb
  unfold TLI at hl
  rw [h4, hb] at hl
  have hr : BLe (.rows true (ld 4 n m c d + 1) 2 (dR5I (ld 4 n m c d) (Df 4 n m c d).row)) (.rows true (ld 4 n m c d + 1) 2 (Df 4 n m c d).row) := BLe.rows fun i hi => dR5I_D _ (fin_end _ _).1 (fin_end _ _).2 hi
  exact LLe_tr hl (HLe.app (HLe.refl _) ⟨hr, trivial⟩)
end Go.Proofs.Ytllonddgbjgmdaa.P31
