/- Texts of one claim, put together. -/
import Derived.Test.YtllonddgbjgmdaaG10
set_option linter.unusedVariables false
set_option linter.unusedSimpArgs false
set_option maxRecDepth 100000
namespace Go.Proofs.Ytllonddgbjgmdaa.P25
open Go.Sx Go.Sx.R0 Go.RowKit Go.Proofs.Ytllonddgbjgmdaa.W9 Go.Proofs.Ytllonddgbjgmdaa.P1 Go.Proofs.Ytllonddgbjgmdaa.P2 Go.Proofs.Ytllonddgbjgmdaa.P3 Go.Proofs.Ytllonddgbjgmdaa.P4 Go.Proofs.Ytllonddgbjgmdaa.P5 Go.Proofs.Ytllonddgbjgmdaa.P6 Go.Proofs.Ytllonddgbjgmdaa.P8 Go.Proofs.Ytllonddgbjgmdaa.P16

theorem doT1 (n M : Nat) (ba : W1.Bt) (t : Ts) (F : Fl) (k a : Int) : (evM Try.prog (KS 1) noL 20 8 103 [.ptr 0 0 0, .agg [.int .i64 k, .int .i64 a]] (memS (eT n M ba t) 1 (can 9 M) F)).map (fun x => (mapTr (normL 1 10) x.1, x.2)) = some (rawDS (eT n M ba t) 1 F k a, owS (eT n M ba t) 1 F k a) := by kernel_rfl
theorem doT2 (n M : Nat) (ba : W1.Bt) (t : Ts) (F : Fl) (k a : Int) : (evM Try.prog (KS 2) noL 20 8 103 [.ptr 0 0 0, .agg [.int .i64 k, .int .i64 a]] (memS (eT n M ba t) 2 (can 9 M) F)).map (fun x => (mapTr (normL 2 11) x.1, x.2)) = some (rawDS (eT n M ba t) 2 F k a, owS (eT n M ba t) 2 F k a) := by kernel_rfl
theorem doT3 (n M : Nat) (ba : W1.Bt) (t : Ts) (F : Fl) (k a : Int) : (evM Try.prog (KS 3) noL 20 8 103 [.ptr 0 0 0, .agg [.int .i64 k, .int .i64 a]] (memS (eT n M ba t) 3 (can 9 M) F)).map (fun x => (mapTr (normL 3 12) x.1, x.2)) = some (rawDS (eT n M ba t) 3 F k a, owS (eT n M ba t) 3 F k a) := by kernel_rfl
theorem doT4 (n M : Nat) (ba : W1.Bt) (t : Ts) (F : Fl) (k a : Int) : (evM Try.prog (KS 4) noL 20 8 103 [.ptr 0 0 0, .agg [.int .i64 k, .int .i64 a]] (memS (eT n M ba t) 4 (can 9 M) F)).map (fun x => (mapTr (normL 4 13) x.1, x.2)) = some (rawDS (eT n M ba t) 4 F k a, owS (eT n M ba t) 4 F k a) := by kernel_rfl
theorem evT {R : Nat} (h1 : 1 ≤ R) (h2 : R ≤ 4) (n M : Nat) (ba : W1.Bt) (t : Ts) (F : Fl) (k a : Int) : (evM Try.prog (KS R) noL 20 8 103 [.ptr 0 0 0, .agg [.int .i64 k, .int .i64 a]] (memS (eT n M ba t) R (can 9 M) F)).map (fun x => (mapTr (normL R (9 + R)) x.1, x.2)) = some (rawDS (eT n M ba t) R F k a, owS (eT n M ba t) R F k a) := by
  have hR : R = 1 ∨ R = 2 ∨ R = 3 ∨ R = 4 := by omega
  rcases hR with rfl | rfl | rfl | rfl
  · exact doT1 n M ba t F k a
  · exact doT2 n M ba t F k a
  · exact doT3 n M ba t F k a
  · exact doT4 n M ba t F k a
def isDT (H : List Blk) (R : Nat) (a : Int) : Prop := ∃ n M c t F, H = memS (eT n M c t) R (bF H 4) F ∧ (∀ i, i < R → bF H 4 i = can 9 M i) ∧ DoOk (eT n M c t) R F a
noncomputable def runDT (R : Nat) : List AV → List Blk → Option Lf := fun args H => match args with
  | [.ptr 0 0 0, .agg [.int .i64 k, .int .i64 a]] => some (outS (toES H) R (toFS H) k a, pB (isDT H R a))
  | _ => none
theorem doT {R : Nat} (h1 : 1 ≤ R) (h2 : R ≤ 4) : SumOk Try.prog 103 (selRunR (refX R) (runDT R)) := sum_selN (R := R) (B := 9 + R) sxApart sxMixed fun args H t hr hex => by
  unfold runDT at hr
  split at hr
  case h_2 => cases hr
  rename_i k a
  simp only [Option.some.injEq, Prod.mk.injEq] at hr
  obtain ⟨rfl, hr⟩ := hr
  obtain ⟨n, M, c, t, F, hH, hb, hd⟩ := pB_of hr
  generalize bF H 4 = bf at *
  subst hH
  have he := evT h1 h2 n M c t F k a
  rw [owS_true h1 h2 hd] at he
  obtain ⟨T', hT, hn⟩ := norm_of he
  refine ⟨KS R, noL, 20, 8, T', _, memS (eT n M c t) R (can 9 M) F, ?_, KS_ok h1 h2, noL_all, fun _ _ h => h, hT, ?_, ?_⟩
  · exact HLe.app ⟨BLe.refl _, BLe.refl _, BLe.refl _, BLe.refl _, BLe.rows fun i hi => (hb i hi).symm, BLe.refl _, BLe.refl _, BLe.refl _, BLe.refl _, trivial⟩ (HLe.refl _)
  · show (hdS _ _ _ _ _ _ _ _ ++ bks _ _ _).length = _
    rw [List.length_append, bks_len h1 h2]; rfl
  · rw [hn, toFS_eq h1 h2 _ bf hd.2.1.1]
    exact leS hd
end Go.Proofs.Ytllonddgbjgmdaa.P25
set_option linter.unusedVariables false
set_option linter.unusedSimpArgs false
set_option maxRecDepth 100000
namespace Go.Proofs.Ytllonddgbjgmdaa.P26
open Go.Sx Go.Sx.R0 Go.RowKit Go.Proofs.Ytllonddgbjgmdaa.W9 Go.Proofs.Ytllonddgbjgmdaa.P1 Go.Proofs.Ytllonddgbjgmdaa.P2 Go.Proofs.Ytllonddgbjgmdaa.P3 Go.Proofs.Ytllonddgbjgmdaa.P4 Go.Proofs.Ytllonddgbjgmdaa.P5 Go.Proofs.Ytllonddgbjgmdaa.P6 Go.Proofs.Ytllonddgbjgmdaa.P8 Go.Proofs.Ytllonddgbjgmdaa.P16 Go.Proofs.Ytllonddgbjgmdaa.P25

/-- blocks told as dead -/
def kl : Nat → Nat → List Blk → List Blk
  | s + 1, k, x :: t => x :: kl s k t
  | 0, k + 1, _ :: t => .dead :: kl 0 k t
  | _, _, l => l
theorem kl_le : ∀ (s k : Nat) (H : List Blk), HLe H (kl s k H)
  | s + 1, k, x :: t => ⟨BLe.refl x, kl_le s k t⟩
  | 0, k + 1, x :: t => ⟨BLe.dead x, kl_le 0 k t⟩
  | s + 1, k, [] => trivial
  | 0, k + 1, [] => trivial
  | 0, 0, H => by unfold kl; exact HLe.refl H
theorem HLe.tr' : ∀ {x y z : List Blk}, HLe x y → HLe y z → HLe x z
  | [], [], [], _, _ => trivial
  | _ :: _, _ :: _, _ :: _, ⟨h1, h2⟩, ⟨k1, k2⟩ => ⟨BLe.tr h1 k1, HLe.tr' h2 k2⟩
def kD (R : Nat) (x : AV × Option (List Blk)) : AV × Option (List Blk) := match x with
  | (v, some H) => (v, some (cutA R 4 (kl (9 + R) 2 (kl (12 + R) 1 H))))
  | (v, none) => (v, none)
theorem kD_le (R : Nat) (x : AV × Option (List Blk)) : LLe x (kD R x) := by
  obtain ⟨v, H⟩ := x
  cases H with
  | none => exact LLe.refl _
  | some H => exact LLe.ofH (HLe.tr' (kl_le _ _ H) (HLe.tr' (kl_le _ _ _) (cutA_le R _ _)))
theorem kD_of {e : Option (Tr (AV × Option (List Blk)) × Bool)} {R : Nat} {T : Tr (AV × Option (List Blk))} (h : e.map (fun x => (mapTr (kD R) x.1, x.2)) = some (T, true)) : ∃ T', e = some (T', true) ∧ LLe T'.get T.get := by
  obtain ⟨T', h1, h2⟩ := map_some h
  refine ⟨T', h1, ?_⟩
  rw [← h2, mapTr_get]
  exact kD_le R _
def dNew (k a : Int) (i : Nat) : List AV := bif Nat.blt i 1 then List.take 2 (List.drop (i * 2) [.int .i64 k, .int .i64 a]) else [.int .i64 0, .int .i64 0]
def dB (l : Nat) (o : Nat → List AV) (k a : Int) : Blk := .rows true (l + 1) 2 (catF l o (dNew k a))
def FT (n M : Nat) (c : W1.Bt) (t : Ts) (R : Nat) (F : Fl) : Fl := toFS (memS (eT n M c t) R (bfx (io (9 + R) []) 9 M) F)
def rawST (n M : Nat) (c : W1.Bt) (t : Ts) (R : Nat) (F : Fl) (k a : Int) (l : Nat) (o : Nat → List AV) : Tr (AV × Option (List Blk)) :=
  let E := eT n M c t
  let G := P4.step E R (FT n M c t R F) k a
  let v := AV.slc (13 + R) 0 (l + 1)
  .node (k == 5) (.leaf (v, some (lfS E R F.vrow F.krow F.srow (wiR F) 5 M (11 + R) M 7 F.w (bks M F R) [.dead, .dead, .rows true M 1 F.krow, .dead, dB l o k a])))
  (.node (k == 6) (.leaf (v, some (lfS E R F.vrow F.krow F.srow (wiR F) (11 + R) M 6 M 7 F.w (bks M F R) [.dead, .dead, .rows true M 1 F.srow, .dead, dB l o k a])))
  (.node (wchS E F k a) (.leaf (v, some (lfS E R G.vrow G.krow G.srow .dead 5 M 6 M (11 + R) G.w (bks M G R) [.dead, .dead, wiR G, .dead, dB l o k a])))
    (.leaf (.slc (12 + R) 0 (l + 1), some (lfS E R G.vrow G.krow G.srow (wiR G) 5 M 6 M 7 G.w (bks M G R) [.dead, .dead, .rows true 1 2 (dNew k a), .dead])))))
noncomputable def qST (n M : Nat) (c : W1.Bt) (t : Ts) (R : Nat) (F : Fl) (a : Int) : Bool := pB (isDT (memS (eT n M c t) R (bfx (io (9 + R) []) 9 M) F) R a)
def oST (b5 b6 w q : Bool) (l : Nat) : Bool := andB q (andB (impB b5 (obA l)) (impB (!b5) (andB (impB b6 (obA l)) (impB (!b6) (andB (impB w (obA l)) (impB (!w) (obA l)))))))
noncomputable def KT (R : Nat) : CallerT := addK 103 (selRunR (refX R) (runDT R)) extK
theorem st1 (n M : Nat) (c : W1.Bt) (t : Ts) (F : Fl) (k a : Int) (l : Nat) (o : Nat → List AV) : (evM Try.prog (KT 1) noL 20 8 76 [.ptr 0 0 0, .slc (9 + 1) 0 l, .int .i64 k, .int .i64 a] (memS (eT n M c t) 1 (can 9 M) F ++ [.rows true l 2 o])).map (fun x => (mapTr (kD 1) x.1, x.2)) = some (rawST n M c t 1 F k a l o, oST (k == 5) (k == 6) (wchS (eT n M c t) F k a) (qST n M c t 1 F a) l) := by kernel_rfl
theorem st2 (n M : Nat) (c : W1.Bt) (t : Ts) (F : Fl) (k a : Int) (l : Nat) (o : Nat → List AV) : (evM Try.prog (KT 2) noL 20 8 76 [.ptr 0 0 0, .slc (9 + 2) 0 l, .int .i64 k, .int .i64 a] (memS (eT n M c t) 2 (can 9 M) F ++ [.rows true l 2 o])).map (fun x => (mapTr (kD 2) x.1, x.2)) = some (rawST n M c t 2 F k a l o, oST (k == 5) (k == 6) (wchS (eT n M c t) F k a) (qST n M c t 2 F a) l) := by kernel_rfl
theorem st3 (n M : Nat) (c : W1.Bt) (t : Ts) (F : Fl) (k a : Int) (l : Nat) (o : Nat → List AV) : (evM Try.prog (KT 3) noL 20 8 76 [.ptr 0 0 0, .slc (9 + 3) 0 l, .int .i64 k, .int .i64 a] (memS (eT n M c t) 3 (can 9 M) F ++ [.rows true l 2 o])).map (fun x => (mapTr (kD 3) x.1, x.2)) = some (rawST n M c t 3 F k a l o, oST (k == 5) (k == 6) (wchS (eT n M c t) F k a) (qST n M c t 3 F a) l) := by kernel_rfl
theorem st4 (n M : Nat) (c : W1.Bt) (t : Ts) (F : Fl) (k a : Int) (l : Nat) (o : Nat → List AV) : (evM Try.prog (KT 4) noL 20 8 76 [.ptr 0 0 0, .slc (9 + 4) 0 l, .int .i64 k, .int .i64 a] (memS (eT n M c t) 4 (can 9 M) F ++ [.rows true l 2 o])).map (fun x => (mapTr (kD 4) x.1, x.2)) = some (rawST n M c t 4 F k a l o, oST (k == 5) (k == 6) (wchS (eT n M c t) F k a) (qST n M c t 4 F a) l) := by kernel_rfl
theorem evST {R : Nat} (h1 : 1 ≤ R) (h2 : R ≤ 4) (n M : Nat) (c : W1.Bt) (t : Ts) (F : Fl) (k a : Int) (l : Nat) (o : Nat → List AV) : (evM Try.prog (KT R) noL 20 8 76 [.ptr 0 0 0, .slc (9 + R) 0 l, .int .i64 k, .int .i64 a] (memS (eT n M c t) R (can 9 M) F ++ [.rows true l 2 o])).map (fun x => (mapTr (kD R) x.1, x.2)) = some (rawST n M c t R F k a l o, oST (k == 5) (k == 6) (wchS (eT n M c t) F k a) (qST n M c t R F a) l) := by
  have hR : R = 1 ∨ R = 2 ∨ R = 3 ∨ R = 4 := by omega
  rcases hR with rfl | rfl | rfl | rfl
  · exact st1 n M c t F k a l o
  · exact st2 n M c t F k a l o
  · exact st3 n M c t F k a l o
  · exact st4 n M c t F k a l o
-- the contract
def refD (R : Nat) (args : List AV) (H : List Blk) : List Nat := match args with
  | x :: .slc b _ _ :: _ => appN (refX R [x] H) [b]
  | _ => []
def lfSv (E : En) (R : Nat) (F : Fl) (k a : Int) (l : Nat) (o : Nat → List AV) : AV × Option (List Blk) := (.slc (13 + R) 0 (l + 1), some (lfS E R F.vrow F.krow F.srow (wiR F) 5 E.M (11 + R) E.M 7 F.w (bks E.M F R) [.dead, .dead, .rows true E.M 1 F.krow, .dead, dB l o k a]))
def lfWi (E : En) (R : Nat) (G : Fl) (k a : Int) (l : Nat) (o : Nat → List AV) : AV × Option (List Blk) := (.slc (13 + R) 0 (l + 1), some (lfS E R G.vrow G.krow G.srow .dead 5 E.M 6 E.M (11 + R) G.w (bks E.M G R) [.dead, .dead, wiR G, .dead, dB l o k a]))
def lfSt (E : En) (R : Nat) (F : Fl) (k a : Int) (l : Nat) (o : Nat → List AV) : AV × Option (List Blk) := bif k == 5 then lfSv E R F k a l o else lfWi E R (P4.step E R F k a) k a l o
def isST (H : List Blk) (R b l : Nat) (k a : Int) : Prop := ∃ n M c t F o, b = 9 + R ∧ H = memS (eT n M c t) R (bF H 4) F ++ [.rows true l 2 o] ∧ (∀ i, i < R → bF H 4 i = can 9 M i) ∧ DoOk (eT n M c t) R F a ∧ l + 1 ≤ few ∧ ((k == 5) = true ∨ ((k == 5) = false ∧ (k == 6) = false ∧ wchS (eT n M c t) F k a = true))
noncomputable def runST (R : Nat) : List AV → List Blk → Option Lf := fun args H => match args.map delit with
  | [.ptr 0 0 0, .slc b 0 l, .int .i64 k, .int .i64 a] => some (.leaf (lfSt (toES (List.take (9 + R) H)) R (toFS (List.take (9 + R) H)) k a l (bF H (9 + R))), pB (isST H R b l k a))
  | _ => none
theorem memS_len {R : Nat} (h1 : 1 ≤ R) (h2 : R ≤ 4) (E : En) (bf : Nat → List AV) (F : Fl) : (memS E R bf F).length = 9 + R := by
  show (hdS _ _ _ _ _ _ _ _ ++ bks _ _ _).length = _
  rw [List.length_append, bks_len h1 h2]; rfl
theorem blkOf_app : ∀ (A : List Blk) (x : Blk), blkOf (A ++ [x]) A.length = some x
  | [], x => rfl
  | y :: t, x => blkOf_app t x
theorem bF_app (A : List Blk) {w : Bool} {n s : Nat} {f : Nat → List AV} : bF (A ++ [.rows w n s f]) A.length = f := by
  unfold bF
  rw [blkOf_app]
theorem pick {X : Type} (b5 b6 w : Bool) (A B C D : X) (h : b5 = true ∨ (b5 = false ∧ b6 = false ∧ w = true)) : Tr.get (.node b5 (.leaf A) (.node b6 (.leaf B) (.node w (.leaf C) (.leaf D)))) = bif b5 then A else C := by
  rcases h with rfl | ⟨rfl, rfl, rfl⟩ <;> rfl
theorem rawST_le {R : Nat} (h1 : 1 ≤ R) (h2 : R ≤ 4) {n M : Nat} {c : W1.Bt} {t : Ts} {F : Fl} {k a : Int} {l : Nat} {o : Nat → List AV} (hN : Nf F R) (h : (k == 5) = true ∨ ((k == 5) = false ∧ (k == 6) = false ∧ wchS (eT n M c t) F k a = true)) :
    (rawST n M c t R F k a l o).get = lfSt (eT n M c t) R F k a l o := by
  have hFT : FT n M c t R F = F := toFS_eq h1 h2 _ _ hN
  have e := pick (k == 5) (k == 6) (wchS (eT n M c t) F k a) (lfSv (eT n M c t) R F k a l o) (AV.slc (13 + R) 0 (l + 1), some (lfS (eT n M c t) R F.vrow F.krow F.srow (wiR F) (11 + R) M 6 M 7 F.w (bks M F R) [.dead, .dead, .rows true M 1 F.srow, .dead, dB l o k a])) (lfWi (eT n M c t) R (P4.step (eT n M c t) R (FT n M c t R F) k a) k a l o)
    (AV.slc (12 + R) 0 (l + 1), some (lfS (eT n M c t) R (P4.step (eT n M c t) R (FT n M c t R F) k a).vrow (P4.step (eT n M c t) R (FT n M c t R F) k a).krow (P4.step (eT n M c t) R (FT n M c t R F) k a).srow (wiR (P4.step (eT n M c t) R (FT n M c t R F) k a)) 5 M 6 M 7 (P4.step (eT n M c t) R (FT n M c t R F) k a).w (bks M (P4.step (eT n M c t) R (FT n M c t R F) k a) R) [.dead, .dead, .rows true 1 2 (dNew k a), .dead])) h
  refine Eq.trans ?_ (e.trans ?_)
  · rfl
  · unfold lfSt
    rw [hFT]
theorem oST_true {b5 b6 w q : Bool} {l : Nat} (hq : q = true) (hl : l + 1 ≤ few) : oST b5 b6 w q l = true := by
  unfold oST
  rw [P9.obA_true hl, hq]
  cases b5 <;> cases b6 <;> cases w <;> rfl
theorem KT_ok {R : Nat} (h1 : 1 ≤ R) (h2 : R ≤ 4) : CallerTOk Try.prog (KT R) := addK_ok (doT h1 h2) extK_ok
theorem toES_T (n M : Nat) (c : W1.Bt) (t : Ts) (R : Nat) (bf : Nat → List AV) (F : Fl) : toES (memS (eT n M c t) R bf F) = eT n M c t := rfl
theorem qST_true {R : Nat} (h1 : 1 ≤ R) (h2 : R ≤ 4) {n M : Nat} {c : W1.Bt} {t : Ts} {F : Fl} {a : Int} (hd : DoOk (eT n M c t) R F a) : qST n M c t R F a = true := pB_true ⟨n, M, c, t, F, rfl, bfxS h1 h2 M, hd⟩
theorem memST_le {R n M : Nat} {c : W1.Bt} {t : Ts} {F : Fl} {bf : Nat → List AV} (hb : ∀ i, i < R → bf i = can 9 M i) (x : List Blk) : HLe (memS (eT n M c t) R bf F ++ x) (memS (eT n M c t) R (can 9 M) F ++ x) :=
  HLe.app (HLe.app ⟨BLe.refl _, BLe.refl _, BLe.refl _, BLe.refl _, BLe.rows fun i hi => (hb i hi).symm, BLe.refl _, BLe.refl _, BLe.refl _, BLe.refl _, trivial⟩ (HLe.refl _)) (HLe.refl _)
theorem evT_of {R : Nat} (h1 : 1 ≤ R) (h2 : R ≤ 4) {n M : Nat} {c : W1.Bt} {t : Ts} {F : Fl} {k a : Int} {l : Nat} (o : Nat → List AV) (hd : DoOk (eT n M c t) R F a) (hl : l + 1 ≤ few) (hk : (k == 5) = true ∨ ((k == 5) = false ∧ (k == 6) = false ∧ wchS (eT n M c t) F k a = true)) :
    ∃ T', evM Try.prog (KT R) noL 20 8 76 [.ptr 0 0 0, .slc (9 + R) 0 l, .int .i64 k, .int .i64 a] (memS (eT n M c t) R (can 9 M) F ++ [.rows true l 2 o]) = some (T', true) ∧ LLe T'.get (lfSt (eT n M c t) R F k a l o) := by
  have he := evST h1 h2 n M c t F k a l o
  rw [oST_true (qST_true h1 h2 hd) hl] at he
  obtain ⟨T', hT, hle⟩ := kD_of he
  rw [rawST_le h1 h2 hd.2.1.1 hk] at hle
  exact ⟨T', hT, hle⟩
theorem isST_of {R : Nat} (h1 : 1 ≤ R) (h2 : R ≤ 4) {H : List Blk} {b l : Nat} {k a : Int} (h : isST H R b l k a) : ∃ n M c t F o, b = 9 + R ∧ H = memS (eT n M c t) R (bF H 4) F ++ [.rows true l 2 o] ∧ (∀ i, i < R → bF H 4 i = can 9 M i) ∧ DoOk (eT n M c t) R F a ∧ l + 1 ≤ few ∧ ((k == 5) = true ∨ ((k == 5) = false ∧ (k == 6) = false ∧ wchS (eT n M c t) F k a = true)) ∧
    lfSt (toES (List.take (9 + R) H)) R (toFS (List.take (9 + R) H)) k a l (bF H (9 + R)) = lfSt (eT n M c t) R F k a l o := by
  obtain ⟨n, M, c, t, F, o, hbk, hH, hb, hd, hl, hk⟩ := h
  refine ⟨n, M, c, t, F, o, hbk, hH, hb, hd, hl, hk, ?_⟩
  have ht : List.take (9 + R) H = memS (eT n M c t) R (bF H 4) F := by
    conv => lhs; rw [hH]
    rw [show 9 + R = (memS (eT n M c t) R (bF H 4) F).length from (memS_len h1 h2 _ _ _).symm, List.take_left]
  have ho : bF H (9 + R) = o := by
    conv => lhs; rw [hH]
    rw [show 9 + R = (memS (eT n M c t) R (bF H 4) F).length from (memS_len h1 h2 _ _ _).symm, bF_app]
  rw [ht, ho, toES_T, toFS_eq h1 h2 _ _ hd.2.1.1]
theorem stepT {R : Nat} (h1 : 1 ≤ R) (h2 : R ≤ 4) : SumOk Try.prog 76 (selRunR (refD R) (runST R)) := sum_selR sxApart sxMixed fun args H t hr hex => by
  have key : ∃ b l k a, args.map delit = [.ptr 0 0 0, .slc b 0 l, .int .i64 k, .int .i64 a] ∧ Tr.leaf (lfSt (toES (List.take (9 + R) H)) R (toFS (List.take (9 + R) H)) k a l (bF H (9 + R))) = t ∧ pB (isST H R b l k a) = true := by
    unfold runST at hr
    split at hr
    · rename_i b l k a hargs
      have hr := Option.some.inj hr
      exact ⟨b, l, k, a, hargs, congrArg Prod.fst hr, congrArg Prod.snd hr⟩
    · cases hr
  obtain ⟨b, l, k, a, hargs, hr0, hr⟩ := key
  obtain ⟨n, M, c, t', F, o, hbk, hH, hb, hd, hl, hk, hE⟩ := isST_of h1 h2 (pB_of hr)
  obtain ⟨T', hT, hle⟩ := evT_of h1 h2 o hd hl hk
  subst hbk
  have q1 : HLe H (memS (eT n M c t') R (can 9 M) F ++ [.rows true l 2 o]) := by
    have q := memST_le (n := n) (c := c) (t := t') (F := F) hb [.rows true l 2 o]
    rw [← hH] at q
    exact q
  clear hb hH
  have q2 : LLe T'.get t.get := by
    rw [← hr0]
    show LLe T'.get (lfSt _ _ _ _ _ _ _)
    rw [hE]
    exact hle
  have q3 : ∀ (ρ : List Sx.Place) (vals : List Value), VRels ρ args vals → VRels ρ [.ptr 0 0 0, .slc (9 + R) 0 l, .int .i64 k, .int .i64 a] vals := fun ρ vals hv => by rw [← hargs]; exact delits_rel hv
  have q4 := KT_ok h1 h2
  clear hd hk hE hr0 hr hle hex
  generalize memS (eT n M c t') R (can 9 M) F ++ [.rows true l 2 o] = H2 at *
  generalize [AV.ptr 0 0 0, AV.slc (9 + R) 0 l, AV.int .i64 k, AV.int .i64 a] = a2 at *
  refine ⟨KT R, noL, 20, 8, T', a2, H2, q1, q4, ?_, q3, hT, q2⟩
  exact fun _ _ _ _ _ _ _ _ h => by cases h
end Go.Proofs.Ytllonddgbjgmdaa.P26
set_option linter.unusedVariables false
set_option linter.unusedSimpArgs false
set_option maxRecDepth 100000
namespace Go.Proofs.Ytllonddgbjgmdaa.P27
open Go.Sx Go.Sx.R0 Go.RowKit Go.Proofs.Ytllonddgbjgmdaa.W1 Go.Proofs.Ytllonddgbjgmdaa.W3 Go.Proofs.Ytllonddgbjgmdaa.W5 Go.Proofs.Ytllonddgbjgmdaa.W9 Go.Proofs.Ytllonddgbjgmdaa.W10 Go.Proofs.Ytllonddgbjgmdaa.P1 Go.Proofs.Ytllonddgbjgmdaa.P2 Go.Proofs.Ytllonddgbjgmdaa.P3 Go.Proofs.Ytllonddgbjgmdaa.P4 Go.Proofs.Ytllonddgbjgmdaa.P5 Go.Proofs.Ytllonddgbjgmdaa.P6 Go.Proofs.Ytllonddgbjgmdaa.P7 Go.Proofs.Ytllonddgbjgmdaa.P8 Go.Proofs.Ytllonddgbjgmdaa.P9 Go.Proofs.Ytllonddgbjgmdaa.P10 Go.Proofs.Ytllonddgbjgmdaa.P16 Go.Proofs.Ytllonddgbjgmdaa.P25 Go.Proofs.Ytllonddgbjgmdaa.P26

/-- memory with a list of deeds -/
def pmD (R n m : Nat) (c : Bt) (d : Dd) (l : Nat) (o : Nat → List AV) (F : Fl) : List Blk :=
  [.rows false n 9 c.row, .rows false m 2 d.row, .one true [.ptr 4 0 0, .slc 5 0 (mOf c n), .slc 6 0 n, .slc 7 0 R, .slc 8 0 (mOf c n), .slc 9 0 (mOf c n), .slc 10 0 F.w], .rows true l 2 o, .one true [.int .i64 (Int.ofNat R), .slc 0 0 n],
   .rows true (mOf c n) 3 (tsOf c n).row, .rows true n 8 F.vrow, .rows true R 1 (canT 11 (mOf c n) R), .rows true (mOf c n) 1 F.krow, .rows true (mOf c n) 1 F.srow, .rows true F.w 2 F.wrow] ++ bks (mOf c n) F R
def slA (m l : Nat) (t : AV) : List AV := [.junk, .slc 1 0 m] ++ junks 5 ++ [.ptr 2 0 0, .junk, .slc 3 0 l, t] ++ junks 61
def FA (R n m : Nat) (c : Bt) (d : Dd) (l : Nat) (o : Nat → List AV) (F : Fl) : St := ⟨slA m l .junk, pmD R n m c d l o F⟩
noncomputable def KL (R : Nat) : CallerT := addK 76 (selRunR (refD R) (runST R)) extK
def m1D (R : Nat) : List Nat := [2, 4, 5, 6, 7, 8, 9, 10, 0] ++ rl 11 R ++ [3]
def m2W (R : Nat) : List Nat := [0, 1, 2, 14 + R, 4, 5, 6, 7, 8, 9, 12 + R] ++ rl 11 R
def dRw (R : Nat) (l : Nat) (o : Nat → List AV) (k a : Int) (i : Nat) : List AV := renVL (idxP (m2W R)) (renVL (fwd (m1D R) (11 + R)) (catF l o (dNew k a) i))
def bfD (R M : Nat) (i : Nat) : List AV := renVL (idxP (m1D R)) (canT 11 M R i)
def enT (R n : Nat) (c : Bt) : En := eT n (mOf c n) c (tsOf c n)
def memD (R n : Nat) (c : Bt) (F : Fl) (l : Nat) (o : Nat → List AV) : List Blk := memS (enT R n c) R (bfD R (mOf c n)) F ++ [.rows true l 2 o]
def FD (R n : Nat) (c : Bt) (F : Fl) : Fl := toFS (memS (enT R n c) R (bfD R (mOf c n)) F)
noncomputable def qD (R n : Nat) (c : Bt) (F : Fl) (l : Nat) (o : Nat → List AV) (k a : Int) : Bool := pB (isST (memD R n c F l o) R (9 + R) l k a)
theorem stA1 (n m : Nat) (c : Bt) (d D : Dd) (l : Nat) (F : Fl) : (evC JS Try.prog (callF Try.prog (KL 1) 20 8) noL 20 (loopN Try.prog 41 7) (FA 1 n m c d l D.row F) (kH 2 [1, 7, 9] [1, 7, 9] (gX 1 2 7 [1, 7, 9] [1, 7, 9]))).map (fun x => (mapTr (cutX 1 7) x.1, x.2)) = some (.node (decide ((F.w : Int) > 0)) (.leaf (.nrm, FA 1 n m c d (l + 1) (dRw 1 l D.row 4 0) (P4.step (enT 1 n c) 1 (FD 1 n c F) 4 0))) (.leaf (.ext 0, FA 1 n m c d l D.row F)), andB (impB (decide ((F.w : Int) > 0)) (andB (qD 1 n c F l D.row 4 0) true)) true) := by kernel_rfl
theorem stA2 (n m : Nat) (c : Bt) (d D : Dd) (l : Nat) (F : Fl) : (evC JS Try.prog (callF Try.prog (KL 2) 20 8) noL 20 (loopN Try.prog 41 7) (FA 2 n m c d l D.row F) (kH 2 [1, 7, 9] [1, 7, 9] (gX 2 2 7 [1, 7, 9] [1, 7, 9]))).map (fun x => (mapTr (cutX 2 7) x.1, x.2)) = some (.node (decide ((F.w : Int) > 0)) (.leaf (.nrm, FA 2 n m c d (l + 1) (dRw 2 l D.row 4 0) (P4.step (enT 2 n c) 2 (FD 2 n c F) 4 0))) (.leaf (.ext 0, FA 2 n m c d l D.row F)), andB (impB (decide ((F.w : Int) > 0)) (andB (qD 2 n c F l D.row 4 0) true)) true) := by kernel_rfl
theorem stA3 (n m : Nat) (c : Bt) (d D : Dd) (l : Nat) (F : Fl) : (evC JS Try.prog (callF Try.prog (KL 3) 20 8) noL 20 (loopN Try.prog 41 7) (FA 3 n m c d l D.row F) (kH 2 [1, 7, 9] [1, 7, 9] (gX 3 2 7 [1, 7, 9] [1, 7, 9]))).map (fun x => (mapTr (cutX 3 7) x.1, x.2)) = some (.node (decide ((F.w : Int) > 0)) (.leaf (.nrm, FA 3 n m c d (l + 1) (dRw 3 l D.row 4 0) (P4.step (enT 3 n c) 3 (FD 3 n c F) 4 0))) (.leaf (.ext 0, FA 3 n m c d l D.row F)), andB (impB (decide ((F.w : Int) > 0)) (andB (qD 3 n c F l D.row 4 0) true)) true) := by kernel_rfl
theorem stA4 (n m : Nat) (c : Bt) (d D : Dd) (l : Nat) (F : Fl) : (evC JS Try.prog (callF Try.prog (KL 4) 20 8) noL 20 (loopN Try.prog 41 7) (FA 4 n m c d l D.row F) (kH 2 [1, 7, 9] [1, 7, 9] (gX 4 2 7 [1, 7, 9] [1, 7, 9]))).map (fun x => (mapTr (cutX 4 7) x.1, x.2)) = some (.node (decide ((F.w : Int) > 0)) (.leaf (.nrm, FA 4 n m c d (l + 1) (dRw 4 l D.row 4 0) (P4.step (enT 4 n c) 4 (FD 4 n c F) 4 0))) (.leaf (.ext 0, FA 4 n m c d l D.row F)), andB (impB (decide ((F.w : Int) > 0)) (andB (qD 4 n c F l D.row 4 0) true)) true) := by kernel_rfl
-- three steps in a row
def wI (R : Nat) : Nat → Nat
  | 0 => 10
  | j + 1 => 12 + R + 4 * j
def eI (R : Nat) : Nat → Nat
  | 0 => 3
  | j + 1 => 14 + R + 4 * j
def mJ (R j : Nat) : List Nat := [2, 4, 5, 6, 7, 8, 9, wI R j, 0] ++ rl 11 R ++ [eI R j]
def lJ (R j : Nat) : Nat := 11 + R + 4 * j
def bJ (R M : Nat) : Nat → Nat → List AV
  | 0 => canT 11 M R
  | j + 1 => fun i => renVL (fwd (mJ R j) (lJ R j)) (canT 9 M R i)
def bS (R M j : Nat) (i : Nat) : List AV := renVL (idxP (mJ R j)) (bJ R M j i)
def oJ (R l : Nat) (o : Nat → List AV) (kk aa : Nat → Int) : Nat → Nat → List AV
  | 0 => o
  | j + 1 => fun i => renVL (fwd (mJ R j) (lJ R j)) (catF (l + j) (fun i => renVL (idxP (mJ R j)) (oJ R l o kk aa j i)) (dNew (kk j) (aa j)) i)
def oS (R l : Nat) (o : Nat → List AV) (kk aa : Nat → Int) (j i : Nat) : List AV := renVL (idxP (mJ R j)) (oJ R l o kk aa j i)
def fJ (R n : Nat) (c : Bt) (F : Fl) (kk aa : Nat → Int) : Nat → Fl
  | 0 => F
  | j + 1 => P4.step (enT R n c) R (toFS (memS (enT R n c) R (bS R (mOf c n) j) (fJ R n c F kk aa j))) (kk j) (aa j)
noncomputable def qJ (R n : Nat) (c : Bt) (F : Fl) (l : Nat) (o : Nat → List AV) (kk aa : Nat → Int) (j : Nat) : Bool := pB (isST (memS (enT R n c) R (bS R (mOf c n) j) (fJ R n c F kk aa j) ++ [.rows true (l + j) 2 (oS R l o kk aa j)]) R (9 + R) (l + j) (kk j) (aa j))
def kB : Nat → Int
  | 0 => 1
  | _ => 2
def aB (t : Nat) : Nat → Int
  | 0 => Int.ofNat t
  | _ => 0
def m3W (R : Nat) : List Nat := [0, 1, 2, 22 + R, 4, 5, 6, 7, 8, 9, 20 + R] ++ rl 11 R
def dR3 (R l : Nat) (o : Nat → List AV) (t i : Nat) : List AV := renVL (idxP (m3W R)) (oJ R l o kB (aB t) 3 i)
def FB (R n m : Nat) (c : Bt) (d : Dd) (l : Nat) (o : Nat → List AV) (F : Fl) (t : Int) : St := ⟨slA m l (.int .i64 t), pmD R n m c d l o F⟩
noncomputable def obB (R n : Nat) (c : Bt) (F : Fl) (l : Nat) (o : Nat → List AV) (t : Nat) : Bool := andB (inB (Int.ofNat t) (mOf c n)) (andB (Nat.blt t (mOf c n)) (andB (impB (!F.kn t) (andB (qJ R n c F l o kB (aB t) 0) (andB (qJ R n c F l o kB (aB t) 1) (andB (qJ R n c F l o kB (aB t) 2) true)))) true))
theorem stB1 (n m : Nat) (c : Bt) (d D : Dd) (l : Nat) (F : Fl) (t : Nat) : (evC JS Try.prog (callF Try.prog (KL 1) 20 8) noL 20 (loopN Try.prog 41 10) (FB 1 n m c d l D.row F (Int.ofNat t)) (kH 2 [1, 7, 9, 10] [1, 7, 9] (gX 1 2 7 [1, 7, 9, 10] [1, 7, 9]))).map (fun x => (mapTr (cutX 1 7) x.1, x.2)) = some (.node (decide (Int.ofNat t < (mOf c n : Int))) (.node (!F.kn t) (.leaf (.nrm, FB 1 n m c d (l + 3) (dR3 1 l D.row t) (fJ 1 n c F kB (aB t) 3) (IntKind.i64.wrap (Int.ofNat t + 1)))) (.leaf (.nrm, FB 1 n m c d l D.row F (IntKind.i64.wrap (Int.ofNat t + 1))))) (.leaf (.ext 2, FA 1 n m c d l D.row F)), andB (impB (decide (Int.ofNat t < (mOf c n : Int))) (obB 1 n c F l D.row t)) true) := by kernel_rfl
theorem stB2 (n m : Nat) (c : Bt) (d D : Dd) (l : Nat) (F : Fl) (t : Nat) : (evC JS Try.prog (callF Try.prog (KL 2) 20 8) noL 20 (loopN Try.prog 41 10) (FB 2 n m c d l D.row F (Int.ofNat t)) (kH 2 [1, 7, 9, 10] [1, 7, 9] (gX 2 2 7 [1, 7, 9, 10] [1, 7, 9]))).map (fun x => (mapTr (cutX 2 7) x.1, x.2)) = some (.node (decide (Int.ofNat t < (mOf c n : Int))) (.node (!F.kn t) (.leaf (.nrm, FB 2 n m c d (l + 3) (dR3 2 l D.row t) (fJ 2 n c F kB (aB t) 3) (IntKind.i64.wrap (Int.ofNat t + 1)))) (.leaf (.nrm, FB 2 n m c d l D.row F (IntKind.i64.wrap (Int.ofNat t + 1))))) (.leaf (.ext 2, FA 2 n m c d l D.row F)), andB (impB (decide (Int.ofNat t < (mOf c n : Int))) (obB 2 n c F l D.row t)) true) := by kernel_rfl
theorem stB3 (n m : Nat) (c : Bt) (d D : Dd) (l : Nat) (F : Fl) (t : Nat) : (evC JS Try.prog (callF Try.prog (KL 3) 20 8) noL 20 (loopN Try.prog 41 10) (FB 3 n m c d l D.row F (Int.ofNat t)) (kH 2 [1, 7, 9, 10] [1, 7, 9] (gX 3 2 7 [1, 7, 9, 10] [1, 7, 9]))).map (fun x => (mapTr (cutX 3 7) x.1, x.2)) = some (.node (decide (Int.ofNat t < (mOf c n : Int))) (.node (!F.kn t) (.leaf (.nrm, FB 3 n m c d (l + 3) (dR3 3 l D.row t) (fJ 3 n c F kB (aB t) 3) (IntKind.i64.wrap (Int.ofNat t + 1)))) (.leaf (.nrm, FB 3 n m c d l D.row F (IntKind.i64.wrap (Int.ofNat t + 1))))) (.leaf (.ext 2, FA 3 n m c d l D.row F)), andB (impB (decide (Int.ofNat t < (mOf c n : Int))) (obB 3 n c F l D.row t)) true) := by kernel_rfl
theorem stB4 (n m : Nat) (c : Bt) (d D : Dd) (l : Nat) (F : Fl) (t : Nat) : (evC JS Try.prog (callF Try.prog (KL 4) 20 8) noL 20 (loopN Try.prog 41 10) (FB 4 n m c d l D.row F (Int.ofNat t)) (kH 2 [1, 7, 9, 10] [1, 7, 9] (gX 4 2 7 [1, 7, 9, 10] [1, 7, 9]))).map (fun x => (mapTr (cutX 4 7) x.1, x.2)) = some (.node (decide (Int.ofNat t < (mOf c n : Int))) (.node (!F.kn t) (.leaf (.nrm, FB 4 n m c d (l + 3) (dR3 4 l D.row t) (fJ 4 n c F kB (aB t) 3) (IntKind.i64.wrap (Int.ofNat t + 1)))) (.leaf (.nrm, FB 4 n m c d l D.row F (IntKind.i64.wrap (Int.ofNat t + 1))))) (.leaf (.ext 2, FA 4 n m c d l D.row F)), andB (impB (decide (Int.ofNat t < (mOf c n : Int))) (obB 4 n c F l D.row t)) true) := by kernel_rfl
end Go.Proofs.Ytllonddgbjgmdaa.P27
set_option linter.unusedVariables false
set_option linter.unusedSimpArgs false
set_option maxRecDepth 100000
namespace Go.Proofs.Ytllonddgbjgmdaa.P28
open Go.Sx Go.Sx.R0 Go.RowKit Go.Proofs.Ytllonddgbjgmdaa.W1 Go.Proofs.Ytllonddgbjgmdaa.W3 Go.Proofs.Ytllonddgbjgmdaa.W5 Go.Proofs.Ytllonddgbjgmdaa.W9 Go.Proofs.Ytllonddgbjgmdaa.W10 Go.Proofs.Ytllonddgbjgmdaa.P1 Go.Proofs.Ytllonddgbjgmdaa.P2 Go.Proofs.Ytllonddgbjgmdaa.P3 Go.Proofs.Ytllonddgbjgmdaa.P4 Go.Proofs.Ytllonddgbjgmdaa.P5 Go.Proofs.Ytllonddgbjgmdaa.P6 Go.Proofs.Ytllonddgbjgmdaa.P7 Go.Proofs.Ytllonddgbjgmdaa.P8 Go.Proofs.Ytllonddgbjgmdaa.P9 Go.Proofs.Ytllonddgbjgmdaa.P10 Go.Proofs.Ytllonddgbjgmdaa.P16 Go.Proofs.Ytllonddgbjgmdaa.P21 Go.Proofs.Ytllonddgbjgmdaa.P25 Go.Proofs.Ytllonddgbjgmdaa.P26 Go.Proofs.Ytllonddgbjgmdaa.P27

-- the wire changes
theorem wch4 {E : En} {F : Fl} (h : 0 < F.w) : wchS E F 4 0 = true := by
  have hc : code E F 4 0 = 0 := by
    unfold code
    rw [show decide ((0 : Int) ≥ (F.w : Int)) = false from decide_eq_false (by omega)]
    rfl
  unfold wchS
  rw [hc]; rfl
theorem wch1 {E : En} {F : Fl} {t : Nat} (hw : F.w = 0) (ht : t < E.M) (hk : F.kn t = false) : wchS E F 1 (Int.ofNat t) = true := by
  have hc : code E F 1 (Int.ofNat t) = 0 := by
    unfold code
    rw [show decide (Int.ofNat t ≥ (E.M : Int)) = false from decide_eq_false (by simp only [Int.ofNat_eq_natCast]; omega), show F.kn (Int.ofNat t).toNat = false from hk, show decide ((F.w : Int) ≥ 10) = false from decide_eq_false (by omega)]
    rfl
  unfold wchS
  rw [hc]; rfl
theorem wch2 {E : En} {F : Fl} (h : 0 < F.w) : wchS E F 2 0 = true := by
  have hc : code E F 2 0 = 0 := by
    unfold code
    rw [show decide ((0 : Int) ≥ (F.w : Int)) = false from decide_eq_false (by omega)]
    rfl
  unfold wchS
  rw [hc]; rfl
theorem askw {E : En} {R : Nat} {F : Fl} {t : Nat} (hw : F.w = 0) (ht : t < E.M) (hk : F.kn t = false) : (P4.step E R F 1 (t : Int)).w = 1 ∧ (P4.step E R (P4.step E R F 1 (t : Int)) 2 0).w = 1 := by
  rw [ask_step hw ht hk]
  have w1 : (F.add false (t : Int)).w = 1 := by show F.w + 1 = 1; omega
  have b1 : (F.add false (t : Int)).wb 0 = false := by show cond (Nat.blt 0 F.w) _ false = false; rw [hw]; rfl
  refine ⟨w1, ?_⟩
  rw [deliver_step (F := F.add false (t : Int)) (by omega), b1]
  have w2 : (Fl.del (F.add false (t : Int)) 0).w = 0 := by show (F.add false (t : Int)).w - 1 = 0; omega
  exact (come_f w2).1
-- rows
theorem catF_lt {l i : Nat} (f g : Nat → List AV) (h : i < l) : catF l f g i = mRow true (f i) (g (i - l)) := by unfold catF; rw [blt_lt h]
theorem catF_ge {l i : Nat} (f g : Nat → List AV) (h : l ≤ i) : catF l f g i = mRow false (f i) (g (i - l)) := by unfold catF; rw [blt_ge h]
theorem dNew_row (k a : Int) (i : Nat) : ∃ x y, dNew k a i = [.int .i64 x, .int .i64 y] ∧ (i = 0 → x = k ∧ y = a) := by
  unfold dNew
  cases i with
  | zero => exact ⟨k, a, rfl, fun _ => ⟨rfl, rfl⟩⟩
  | succ i =>
    refine ⟨0, 0, ?_, fun h => by omega⟩
    rw [blt_ge (by omega)]; rfl
theorem cat_D (D : Dd) (f : Nat → List AV) {l : Nat} {k a : Int} (hf : ∀ i, ∃ x y, f i = [.int .i64 x, .int .i64 y] ∧ (i < l → x = D.k i ∧ y = D.a i)) (hk : D.k l = k) (ha : D.a l = a) : ∀ i, ∃ x y, catF l f (dNew k a) i = [.int .i64 x, .int .i64 y] ∧ (i < l + 1 → x = D.k i ∧ y = D.a i) := fun i => by
  obtain ⟨x, y, e, h⟩ := hf i
  obtain ⟨x', y', e', h'⟩ := dNew_row k a (i - l)
  by_cases hi : i < l
  · rw [catF_lt _ _ hi, e, e']
    exact ⟨x, y, rfl, fun _ => h hi⟩
  · rw [catF_ge _ _ (by omega), e, e']
    refine ⟨x', y', rfl, fun h2 => ?_⟩
    have : i = l := by omega
    subst this
    rw [hk, ha]
    exact h' (by omega)
theorem ren_D (g : Nat → Option Nat) (D : Dd) (f : Nat → List AV) {l : Nat} (hf : ∀ i, ∃ x y, f i = [.int .i64 x, .int .i64 y] ∧ (i < l → x = D.k i ∧ y = D.a i)) : ∀ i, ∃ x y, renVL g (f i) = [.int .i64 x, .int .i64 y] ∧ (i < l → x = D.k i ∧ y = D.a i) := fun i => by
  obtain ⟨x, y, e, h⟩ := hf i
  exact ⟨x, y, by rw [e]; rfl, h⟩
theorem row_D (D : Dd) (l : Nat) : ∀ i, ∃ x y, D.row i = [.int .i64 x, .int .i64 y] ∧ (i < l → x = D.k i ∧ y = D.a i) := fun i => ⟨_, _, rfl, fun _ => ⟨rfl, rfl⟩⟩
theorem of_D (D : Dd) {f : Nat → List AV} {l : Nat} (hf : ∀ i, ∃ x y, f i = [.int .i64 x, .int .i64 y] ∧ (i < l → x = D.k i ∧ y = D.a i)) {i : Nat} (hi : i < l) : D.row i = f i := by
  obtain ⟨x, y, e, h⟩ := hf i
  obtain ⟨h1, h2⟩ := h hi
  rw [e, h1, h2]; rfl
theorem dRw_D (R : Nat) (D : Dd) {l : Nat} {k a : Int} (hk : D.k l = k) (ha : D.a l = a) {i : Nat} (hi : i < l + 1) : D.row i = dRw R l D.row k a i :=
  of_D D (f := dRw R l D.row k a) (ren_D _ D _ (ren_D _ D _ (cat_D D _ (row_D D l) hk ha))) hi
theorem oJ_D (R : Nat) (D : Dd) {l : Nat} {kk aa : Nat → Int} : ∀ j, (∀ j', j' < j → D.k (l + j') = kk j' ∧ D.a (l + j') = aa j') → ∀ i, ∃ x y, oJ R l D.row kk aa j i = [.int .i64 x, .int .i64 y] ∧ (i < l + j → x = D.k i ∧ y = D.a i)
  | 0, _ => row_D D l
  | j + 1, h => ren_D _ D _ (cat_D D _ (ren_D _ D _ (oJ_D R D j fun j' hj => h j' (by omega))) (h j (by omega)).1 (h j (by omega)).2)
theorem dR3_D (R : Nat) (D : Dd) {l t : Nat} (h : ∀ j, j < 3 → D.k (l + j) = kB j ∧ D.a (l + j) = aB t j) {i : Nat} (hi : i < l + 3) : D.row i = dR3 R l D.row t i :=
  of_D D (f := dR3 R l D.row t) (ren_D _ D _ (oJ_D R D 3 h)) hi
-- books
theorem bS_can {R : Nat} (h1 : 1 ≤ R) (h2 : R ≤ 4) (M : Nat) {j : Nat} (hj : j < 3) : ∀ i, i < R → bS R M j i = can 9 M i := fun i hi => by
  have hR : R = 1 ∨ R = 2 ∨ R = 3 ∨ R = 4 := by omega
  have hi' : i = 0 ∨ i = 1 ∨ i = 2 ∨ i = 3 := by omega
  have hj' : j = 0 ∨ j = 1 ∨ j = 2 := by omega
  rcases hR with rfl | rfl | rfl | rfl <;> rcases hi' with rfl | rfl | rfl | rfl <;> first | omega | (rcases hj' with rfl | rfl | rfl <;> rfl)
theorem bfD_can {R : Nat} (h1 : 1 ≤ R) (h2 : R ≤ 4) (M : Nat) : ∀ i, i < R → bfD R M i = can 9 M i := fun i hi => by
  have hR : R = 1 ∨ R = 2 ∨ R = 3 ∨ R = 4 := by omega
  have hi' : i = 0 ∨ i = 1 ∨ i = 2 ∨ i = 3 := by omega
  rcases hR with rfl | rfl | rfl | rfl <;> rcases hi' with rfl | rfl | rfl | rfl <;> first | rfl | omega
-- the rounds, for all rooms
theorem stA {R : Nat} (h1 : 1 ≤ R) (h2 : R ≤ 4) (n m : Nat) (c : Bt) (d D : Dd) (l : Nat) (F : Fl) : (evC JS Try.prog (callF Try.prog (KL R) 20 8) noL 20 (loopN Try.prog 41 7) (FA R n m c d l D.row F) (kH 2 [1, 7, 9] [1, 7, 9] (gX R 2 7 [1, 7, 9] [1, 7, 9]))).map (fun x => (mapTr (cutX R 7) x.1, x.2)) = some (.node (decide ((F.w : Int) > 0)) (.leaf (.nrm, FA R n m c d (l + 1) (dRw R l D.row 4 0) (P4.step (enT R n c) R (FD R n c F) 4 0))) (.leaf (.ext 0, FA R n m c d l D.row F)), andB (impB (decide ((F.w : Int) > 0)) (andB (qD R n c F l D.row 4 0) true)) true) := by
  have hR : R = 1 ∨ R = 2 ∨ R = 3 ∨ R = 4 := by omega
  rcases hR with rfl | rfl | rfl | rfl
  · exact stA1 n m c d D l F
  · exact stA2 n m c d D l F
  · exact stA3 n m c d D l F
  · exact stA4 n m c d D l F
theorem stB {R : Nat} (h1 : 1 ≤ R) (h2 : R ≤ 4) (n m : Nat) (c : Bt) (d D : Dd) (l : Nat) (F : Fl) (t : Nat) : (evC JS Try.prog (callF Try.prog (KL R) 20 8) noL 20 (loopN Try.prog 41 10) (FB R n m c d l D.row F (Int.ofNat t)) (kH 2 [1, 7, 9, 10] [1, 7, 9] (gX R 2 7 [1, 7, 9, 10] [1, 7, 9]))).map (fun x => (mapTr (cutX R 7) x.1, x.2)) = some (.node (decide (Int.ofNat t < (mOf c n : Int))) (.node (!F.kn t) (.leaf (.nrm, FB R n m c d (l + 3) (dR3 R l D.row t) (fJ R n c F kB (aB t) 3) (IntKind.i64.wrap (Int.ofNat t + 1)))) (.leaf (.nrm, FB R n m c d l D.row F (IntKind.i64.wrap (Int.ofNat t + 1))))) (.leaf (.ext 2, FA R n m c d l D.row F)), andB (impB (decide (Int.ofNat t < (mOf c n : Int))) (obB R n c F l D.row t)) true) := by
  have hR : R = 1 ∨ R = 2 ∨ R = 3 ∨ R = 4 := by omega
  rcases hR with rfl | rfl | rfl | rfl
  · exact stB1 n m c d D l F t
  · exact stB2 n m c d D l F t
  · exact stB3 n m c d D l F t
  · exact stB4 n m c d D l F t
theorem KL_ok {R : Nat} (h1 : 1 ≤ R) (h2 : R ≤ 4) : CallerTOk Try.prog (KL R) := addK_ok (P26.stepT h1 h2) extK_ok
theorem tsT_ok (R n : Nat) (c : Bt) : TsOk (enT R n c) := tsOf_ok R n c
theorem doOk_of {R n : Nat} {c : Bt} {F : Fl} {a : Int} (hn : n ≤ 1000) (hF : FlOk (enT R n c) R F) (h0 : 0 ≤ a) (h9 : a ≤ 999) : DoOk (eT n (mOf c n) c (tsOf c n)) R F a := ⟨tsT_ok R n c, hF, h0, h9, by show mOf c n ≤ few; have := mOf_le c n; rw [few_eq]; omega⟩
-- drops
def dl (F : Fl) : Nat → Fl
  | 0 => F
  | k + 1 => Fl.del (dl F k) 0
theorem dl_w (F : Fl) : ∀ k, (dl F k).w = F.w - k
  | 0 => rfl
  | k + 1 => by show (dl F k).w - 1 = _; rw [dl_w F k]; omega
theorem dl_kn (F : Fl) : ∀ k, (dl F k).kn = F.kn
  | 0 => rfl
  | k + 1 => dl_kn F k
theorem dl_ok {E : En} {R : Nat} {F : Fl} (h : FlOk E R F) : ∀ k, FlOk E R (dl F k)
  | 0 => h
  | k + 1 => FlOk.del (dl_ok h k) 0
theorem pmD_le (R n m : Nat) (c : Bt) (d : Dd) (l : Nat) {o o' : Nat → List AV} (F : Fl) (h : ∀ i, i < l → o' i = o i) : HLe (pmD R n m c d l o F) (pmD R n m c d l o' F) :=
  HLe.app ⟨BLe.refl _, BLe.refl _, BLe.refl _, BLe.rows fun i hi => h i hi, BLe.refl _, BLe.refl _, BLe.refl _, BLe.refl _, BLe.refl _, BLe.refl _, BLe.refl _, trivial⟩ (HLe.refl _)
theorem qD_true {R n : Nat} {c : Bt} {F : Fl} {l : Nat} {D : Dd} {k a : Int} (h1 : 1 ≤ R) (h2 : R ≤ 4) (hn : n ≤ 1000) (hF : FlOk (enT R n c) R F) (hl : l + 1 ≤ few) (h0 : 0 ≤ a) (h9 : a ≤ 999) (hk : (k == 5) = true ∨ ((k == 5) = false ∧ (k == 6) = false ∧ wchS (enT R n c) F k a = true)) : qD R n c F l D.row k a = true :=
  pB_true ⟨n, mOf c n, c, tsOf c n, F, D.row, rfl, rfl, bfD_can h1 h2 _, doOk_of hn hF h0 h9, hl, hk⟩
theorem loopA {R n m : Nat} {c : Bt} {d D : Dd} {F : Fl} (h1 : 1 ≤ R) (h2 : R ≤ 4) (hn : n ≤ 1000) (hF : FlOk (enT R n c) R F) (hD : ∀ i, i < F.w → D.k i = 4 ∧ D.a i = 0) : LoopOk Try.prog 2 (loopN Try.prog 41 7) (FA R n m c d 0 D.row F) (.leaf (.ext 0, FA R n m c d F.w D.row (dl F F.w))) :=
  loop_allH (callF_ok sxApart sxMixed (KL_ok h1 h2) (N := 20) 8) sxMixed (N := 20) (L := noL) (fun _ _ _ _ h => by cases h) [1, 7, 9] [1, 7, 9] (gX R 2 7 [1, 7, 9] [1, 7, 9]) (fun k => FA R n m c d k D.row (dl F k)) F.w _ (fun h => by cases h)
    (fun k hk => by
      have hf := few_eq
      have hw := hF.2.1
      have hFk := dl_ok hF k
      have hwk := dl_w F k
      have he := stA h1 h2 n m c d D k (dl F k)
      rw [qD_true h1 h2 hn hFk (by omega) (by omega) (by omega) (.inr ⟨rfl, rfl, wch4 (by omega)⟩), decide_eq_true (show ((dl F k).w : Int) > 0 by omega)] at he
      obtain ⟨t, ht, hx⟩ := map_some he
      refine ⟨t, ht, XLe.tr (cutX_le _ _ _ hx) ?_⟩
      have e1 : FD R n c (dl F k) = dl F k := toFS_eq h1 h2 _ _ hFk.1
      rw [e1, drop_step (by omega)]
      exact ⟨rfl, rfl, pmD_le R n m c d (k + 1) _ fun i hi => dRw_D R D (hD k hk).1 (hD k hk).2 hi⟩)
    (by
      have he := stA h1 h2 n m c d D F.w (dl F F.w)
      have hwk := dl_w F F.w
      rw [decide_eq_false (show ¬ ((dl F F.w).w : Int) > 0 by omega), imp_ff] at he
      obtain ⟨t, ht, hx⟩ := map_some he
      exact ⟨t, ht, XLe.tr (cutX_le _ _ _ hx) (XLe.refl _)⟩)
-- asking for what is not known
def unk (F : Fl) : Nat → Nat
  | 0 => 0
  | t + 1 => bif F.kn t then unk F t else unk F t + 1
theorem unk_le (F : Fl) : ∀ t, unk F t ≤ t
  | 0 => Nat.le_refl _
  | t + 1 => by
    have := unk_le F t
    unfold unk
    cases F.kn t with
    | true => simp only [cond_true]; omega
    | false => simp only [cond_false]; omega
def st3 (E : En) (R : Nat) (G : Fl) (t : Nat) : Fl := P4.step E R (P4.step E R (P4.step E R G 1 (t : Int)) 2 0) 2 0
def gA (E : En) (R : Nat) (F : Fl) : Nat → Fl
  | 0 => dl F F.w
  | t + 1 => bif F.kn t then gA E R F t else st3 E R (gA E R F t) t
theorem gA_ok {E : En} {R : Nat} {F : Fl} (hT : TsOk E) (h1 : 1 ≤ R) (h : FlOk E R F) : ∀ t, t ≤ E.M → FlOk E R (gA E R F t) ∧ (gA E R F t).w = 0 ∧ ∀ i, t ≤ i → (gA E R F t).kn i = F.kn i
  | 0, _ => ⟨dl_ok h _, by show (dl F F.w).w = 0; rw [dl_w]; omega, fun i _ => by show (dl F F.w).kn i = _; rw [dl_kn]⟩
  | t + 1, ht => by
    obtain ⟨a1, a2, a3⟩ := gA_ok hT h1 h t (by omega)
    unfold gA
    cases hk : F.kn t with
    | true => exact ⟨a1, a2, fun i hi => a3 i (by omega)⟩
    | false =>
      have hk' : (gA E R F t).kn t = false := by rw [a3 t (Nat.le_refl t)]; exact hk
      obtain ⟨b1, b2⟩ := ask3 (E := E) (R := R) a2 (show t < E.M by omega) hk'
      refine ⟨FlOk.step hT h1 (FlOk.step hT h1 (FlOk.step hT h1 a1 1 (by omega)) 2 (by omega)) 2 (by omega), b1, fun i hi => ?_⟩
      show (st3 E R (gA E R F t) t).kn i = _
      unfold st3
      rw [b2]
      show cond (Nat.beq i t) true ((gA E R F t).kn i) = _
      rw [beq_ne (by omega)]
      exact a3 i (by omega)
/-- what the list of deeds holds -/
def LOk (D : Dd) (F : Fl) (M : Nat) : Prop := (∀ i, i < F.w → D.k i = 4 ∧ D.a i = 0) ∧ ∀ t, t < M → F.kn t = false → ∀ j, j < 3 → D.k (F.w + 3 * unk F t + j) = kB j ∧ D.a (F.w + 3 * unk F t + j) = aB t j
theorem fJ_eq {R n : Nat} {c : Bt} {F : Fl} {t : Nat} (h1 : 1 ≤ R) (h2 : R ≤ 4) (hF : FlOk (enT R n c) R F) : (fJ R n c F kB (aB t) 1 = P4.step (enT R n c) R F 1 (t : Int) ∧ FlOk (enT R n c) R (fJ R n c F kB (aB t) 1)) ∧
    (fJ R n c F kB (aB t) 2 = P4.step (enT R n c) R (P4.step (enT R n c) R F 1 (t : Int)) 2 0 ∧ FlOk (enT R n c) R (fJ R n c F kB (aB t) 2)) ∧ fJ R n c F kB (aB t) 3 = st3 (enT R n c) R F t := by
  have hT := tsT_ok R n c
  have e1 : fJ R n c F kB (aB t) 1 = P4.step (enT R n c) R F 1 (t : Int) := by
    show P4.step _ _ (toFS (memS (enT R n c) R (bS R (mOf c n) 0) F)) _ _ = _
    rw [toFS_eq h1 h2 _ _ hF.1]; rfl
  have o1 : FlOk (enT R n c) R (fJ R n c F kB (aB t) 1) := by rw [e1]; exact FlOk.step hT h1 hF 1 (by omega)
  have e2 : fJ R n c F kB (aB t) 2 = P4.step (enT R n c) R (P4.step (enT R n c) R F 1 (t : Int)) 2 0 := by
    show P4.step _ _ (toFS (memS (enT R n c) R (bS R (mOf c n) 1) (fJ R n c F kB (aB t) 1))) _ _ = _
    rw [toFS_eq h1 h2 _ _ o1.1, e1]; rfl
  have o2 : FlOk (enT R n c) R (fJ R n c F kB (aB t) 2) := by rw [e2, ← e1]; exact FlOk.step hT h1 o1 2 (by omega)
  have e3 : fJ R n c F kB (aB t) 3 = st3 (enT R n c) R F t := by
    show P4.step _ _ (toFS (memS (enT R n c) R (bS R (mOf c n) 2) (fJ R n c F kB (aB t) 2))) _ _ = _
    rw [toFS_eq h1 h2 _ _ o2.1, e2]; rfl
  exact ⟨⟨e1, o1⟩, ⟨e2, o2⟩, e3⟩
theorem qJ_true {R n : Nat} {c : Bt} {F : Fl} {l : Nat} {D : Dd} {kk aa : Nat → Int} {j : Nat} (h1 : 1 ≤ R) (h2 : R ≤ 4) (hn : n ≤ 1000) (hj : j < 3) (hF : FlOk (enT R n c) R (fJ R n c F kk aa j)) (hl : l + j + 1 ≤ few) (h0 : 0 ≤ aa j) (h9 : aa j ≤ 999) (hk : (kk j == 5) = false ∧ (kk j == 6) = false ∧ wchS (enT R n c) (fJ R n c F kk aa j) (kk j) (aa j) = true) : qJ R n c F l D.row kk aa j = true :=
  pB_true ⟨n, mOf c n, c, tsOf c n, fJ R n c F kk aa j, oS R l D.row kk aa j, rfl, rfl, bS_can h1 h2 _ hj, doOk_of hn hF h0 h9, hl, .inr hk⟩
theorem obB_true {R n : Nat} {c : Bt} {F : Fl} {l : Nat} {D : Dd} {t : Nat} (h1 : 1 ≤ R) (h2 : R ≤ 4) (hn : n ≤ 100) (hF : FlOk (enT R n c) R F) (hw : F.w = 0) (ht : t < mOf c n) (hl : l + 3 ≤ few) : P27.obB R n c F l D.row t = true := by
  have hM := mOf_le c n
  unfold P27.obB
  rw [inB_nat ht, blt_lt ht]
  cases hk : F.kn t with
  | true => rw [Bool.not_true, Go.Sx.R0.imp_f]; rfl
  | false =>
    obtain ⟨⟨e1, o1⟩, ⟨e2, o2⟩, _⟩ := fJ_eq (t := t) h1 h2 hF
    obtain ⟨w1, w2⟩ := askw (E := enT R n c) (R := R) hw ht hk
    have q0 : qJ R n c F l D.row kB (aB t) 0 = true := qJ_true h1 h2 (by omega) (by omega) hF (by omega) (Int.natCast_nonneg t) (by show (t : Int) ≤ 999; omega) ⟨rfl, rfl, wch1 hw ht hk⟩
    have q1 : qJ R n c F l D.row kB (aB t) 1 = true := qJ_true h1 h2 (by omega) (by omega) o1 (by omega) (Int.le_refl 0) (by show (0 : Int) ≤ 999; omega) ⟨rfl, rfl, wch2 (by rw [e1]; omega)⟩
    have q2 : qJ R n c F l D.row kB (aB t) 2 = true := qJ_true h1 h2 (by omega) (by omega) o2 (by omega) (Int.le_refl 0) (by show (0 : Int) ≤ 999; omega) ⟨rfl, rfl, wch2 (by rw [e2]; omega)⟩
    rw [q0, q1, q2]; rfl
theorem loopB {R n m : Nat} {c : Bt} {d D : Dd} {F : Fl} (h1 : 1 ≤ R) (h2 : R ≤ 4) (hn : n ≤ 100) (hF : FlOk (enT R n c) R F) (hD : LOk D F (mOf c n)) : LoopOk Try.prog 2 (loopN Try.prog 41 10) (FB R n m c d F.w D.row (dl F F.w) 0) (.leaf (.ext 2, FA R n m c d (F.w + 3 * unk F (mOf c n)) D.row (P28.gA (enT R n c) R F (mOf c n)))) :=
  loop_allH (callF_ok sxApart sxMixed (KL_ok h1 h2) (N := 20) 8) sxMixed (N := 20) (L := noL) (fun _ _ _ _ h => by cases h) [1, 7, 9, 10] [1, 7, 9] (gX R 2 7 [1, 7, 9, 10] [1, 7, 9]) (fun t => FB R n m c d (F.w + 3 * unk F t) D.row (P28.gA (enT R n c) R F t) (Int.ofNat t)) (mOf c n) _ (fun h => by cases h)
    (fun t ht => by
      have hf := few_eq
      have hM := mOf_le c n
      have hu := unk_le F t
      have hw := hF.2.1
      obtain ⟨a1, a2, a3⟩ := gA_ok (tsT_ok R n c) h1 hF t (Nat.le_of_lt ht)
      have he := stB h1 h2 n m c d D (F.w + 3 * unk F t) (P28.gA (enT R n c) R F t) t
      rw [obB_true h1 h2 hn a1 a2 ht (by omega), ofNat_lt, decide_eq_true ht] at he
      obtain ⟨x, hx, hy⟩ := map_some he
      refine ⟨x, hx, XLe.tr (cutX_le _ _ _ hy) ?_⟩
      have hwr : IntKind.i64.wrap (Int.ofNat t + 1) = Int.ofNat (t + 1) := wrap_i64 (n := Int.ofNat t + 1) (by simp only [Int.ofNat_eq_natCast]; omega) (by simp only [Int.ofNat_eq_natCast]; omega)
      rw [hwr, a3 t (Nat.le_refl t)]
      cases hk : F.kn t with
      | true =>
        have eu : unk F (t + 1) = unk F t := by show (bif F.kn t then _ else _) = _; rw [hk]; rfl
        have eg : P28.gA (enT R n c) R F (t + 1) = P28.gA (enT R n c) R F t := by show (bif F.kn t then _ else _) = _; rw [hk]; rfl
        rw [eu, eg]
        exact XLe.refl _
      | false =>
        have eu : unk F (t + 1) = unk F t + 1 := by show (bif F.kn t then _ else _) = _; rw [hk]; rfl
        have eg : P28.gA (enT R n c) R F (t + 1) = st3 (enT R n c) R (P28.gA (enT R n c) R F t) t := by show (bif F.kn t then _ else _) = _; rw [hk]; rfl
        rw [eu, eg, (fJ_eq (t := t) h1 h2 a1).2.2, show F.w + 3 * (unk F t + 1) = F.w + 3 * unk F t + 3 by omega]
        exact ⟨rfl, rfl, pmD_le R n m c d _ _ fun i hi => dR3_D R D (hD.2 t ht hk) hi⟩)
    (by
      have he := stB h1 h2 n m c d D (F.w + 3 * unk F (mOf c n)) (P28.gA (enT R n c) R F (mOf c n)) (mOf c n)
      rw [ofNat_lt, decide_eq_false (Nat.lt_irrefl _), imp_ff] at he
      obtain ⟨x, hx, hy⟩ := map_some he
      exact ⟨x, hx, XLe.tr (cutX_le _ _ _ hy) (XLe.refl _)⟩)
end Go.Proofs.Ytllonddgbjgmdaa.P28
