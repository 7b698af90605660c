/- Texts of one claim, put together. -/
import Derived.Test.YtllonddgbjgmdaaG6
set_option linter.unusedVariables false
set_option linter.unusedSimpArgs false
set_option maxRecDepth 100000
namespace Go.Proofs.Ytllonddgbjgmdaa.P4
open Go.Sx Go.Sx.R0 Go.RowKit Go.Proofs.Ytllonddgbjgmdaa.P1 Go.Proofs.Ytllonddgbjgmdaa.P2 Go.Proofs.Ytllonddgbjgmdaa.P3

-- the model
def Fl.come (E : En) (R : Nat) (F : Fl) (back : Bool) (x : Int) : Fl :=
  cond back (F.know x.toNat) (Fl.add (cond (F.was R (rm R x) x.toNat) F ((F.mark (rm R x) x.toNat).pour (E.t.b x.toNat).toNat (E.t.j x.toNat).toNat (E.t.d x.toNat))) true x)
def code (E : En) (F : Fl) (k a : Int) : Int :=
  cond (k == 5) 0 (cond (k == 6) 0 (cond (k == 1) (cond (decide (a ≥ (E.M : Int))) 2 (cond (F.kn a.toNat) 4 (cond (decide ((F.w : Int) ≥ 10)) 3 0)))
    (cond (decide (a ≥ (F.w : Int))) 2 (cond (cond (cond (k == 3) (!F.wb a.toNat) false) (decide ((F.w : Int) ≥ 10)) false) 3 0))))
def move (E : En) (R : Nat) (F : Fl) (k a : Int) : Fl :=
  cond (!(k == 4)) (Fl.come E R (cond (k == 3) F (Fl.del F a.toNat)) (F.wb a.toNat) (F.wt a.toNat)) (cond (k == 3) F (Fl.del F a.toNat))
def step (E : En) (R : Nat) (F : Fl) (k a : Int) : Fl :=
  cond (code E F k a == 0) (cond (k == 5) { F with sv := F.kn } (cond (k == 6) { F with kn := F.sv } (cond (k == 1) (F.add false a) (move E R F k a)))) F

-- what the calls leave
def lfS (E : En) (R : Nat) (vf kf sf : Nat → List AV) (wB : Blk) (nk lk ns ls nw wl : Nat) (bl ex : List Blk) : List Blk :=
  [.one true [.ptr 1 0 0, .slc 2 0 E.M, .slc 3 0 E.n, .slc 4 0 R, .slc nk 0 lk, .slc ns 0 ls, .slc nw 0 wl], .one E.fw [.int .i64 (Int.ofNat R), .slc 8 0 E.n], .rows E.ft E.M 3 E.t.row,
   .rows true E.n 8 vf, .rows true R 1 (tab (rowsL (can 9 E.M) 0 R)), .rows true E.M 1 kf, .rows true E.M 1 sf, wB, .rows E.fb E.n 9 E.ba] ++ bl ++ ex
def lfI (E : En) (R : Nat) (vf kf sf : Nat → List AV) (wB : Blk) (nk lk ns ls nw wl : Nat) (bl ex : List Blk) : List Blk :=
  [.one true [.int .i64 (Int.ofNat R), .slc 1 0 E.n, .slc 2 0 E.M, .slc 3 0 E.n, .slc 4 0 R, .slc nk 0 lk, .slc ns 0 ls, .slc nw 0 wl], .rows E.fb E.n 9 E.ba, .rows E.ft E.M 3 E.t.row,
   .rows true E.n 8 vf, .rows true R 1 (tab (rowsL (can 8 E.M) 0 R)), .rows true E.M 1 kf, .rows true E.M 1 sf, wB] ++ bl ++ ex
def io : Nat → List Nat → List Nat
  | 0, l => l
  | n + 1, l => io n (n :: l)
def mA (B : Nat) : List Nat := io B [B + 2]
def wiA (m : List Nat) (F : Fl) (a : Int) : Blk := .rows true (F.w + 1) 2 (fun i => renVL (idxP m) (catF F.w F.wrow (wNew false a) i))
def wiR (F : Fl) : Blk := .rows true F.w 2 F.wrow
def lf (c : Int) (H : List Blk) : Tr (AV × Option (List Blk)) := .leaf (.lit (.int .i64 c), some H)
def pourF (E : En) (F : Fl) (x : Int) : Fl := F.pour (E.t.b x.toNat).toNat (E.t.j x.toNat).toNat (E.t.d x.toNat)
-- the reference's wire without a note, as it comes
def k1 (a : Int) : Nat := (IntKind.i64.wrap (a + 1)).toNat
def dwS (F : Fl) (a : Int) : Nat := 0 + a.toNat + (0 + (F.w - k1 a))
def drS (F : Fl) (a : Int) : Nat → List AV := catF (0 + a.toNat) F.wrow (shF F.wrow (k1 a))
def fdS (F : Fl) (a : Int) : Fl := { F with w := dwS F a, wb := fun i => gB (gt (drS F a i) 0), wt := fun i => gI (gt (drS F a i) 1) }
def comeT (E : En) (R : Nat) (F : Fl) (b : Bool) (x : Int) (tb tp tn : Tr (AV × Option (List Blk))) : Tr (AV × Option (List Blk)) := .node b tb (.node (!F.was R (rm R x) x.toNat) tp tn)
noncomputable def rawDS (E : En) (R : Nat) (F : Fl) (k a : Int) : Tr (AV × Option (List Blk)) :=
  let B := 9 + R
  let bl := bks E.M F R
  let no := fun c => lf c (lfS E R F.vrow F.krow F.srow (wiR F) 5 E.M 6 E.M 7 F.w bl [])
  let b := F.wb a.toNat
  let x := F.wt a.toNat
  let blm := bks E.M (F.mark (rm R x) x.toNat) R
  .node (k == 5) (lf 0 (lfS E R F.vrow F.krow F.srow (wiR F) 5 E.M B (0 + E.M) 7 F.w bl [.rows true (0 + E.M) 1 F.krow]))
  (.node (k == 6) (lf 0 (lfS E R F.vrow F.krow F.srow (wiR F) B (0 + E.M) 6 E.M 7 F.w bl [.rows true (0 + E.M) 1 F.srow]))
  (.node (k == 1)
    (.node (decide (a ≥ (E.M : Int))) (no 2) (.node (F.kn a.toNat) (no 4) (.node (decide ((F.w : Int) ≥ 10)) (no 3)
      (lf 0 (lfS E R F.vrow F.krow F.srow .dead 5 E.M 6 E.M B (F.w + 1) bl [wiA (mA (9 + R)) F a])))))
    (.node (decide (a ≥ (F.w : Int))) (no 2) (.node (cond (cond (k == 3) (!b) false) (decide ((F.w : Int) ≥ 10)) false) (no 3)
      (.node (!(k == 3))
        (.node (!(k == 4))
          (comeT E R F b x (lf 0 (lfS E R F.vrow (F.know x.toNat).krow F.srow (wiR F) 5 E.M 6 E.M B (dwS F a) bl [.rows true (dwS F a) 2 (fdS F a).wrow]))
            (lf 0 (lfS E R (pourF E F x).vrow F.krow F.srow (wiR F) 5 E.M 6 E.M B (dwS F a + 1) blm [.rows true (dwS F a + 1) 2 ((fdS F a).add true x).wrow]))
            (lf 0 (lfS E R F.vrow F.krow F.srow (wiR F) 5 E.M 6 E.M B (dwS F a + 1) bl [.rows true (dwS F a + 1) 2 ((fdS F a).add true x).wrow])))
          (lf 0 (lfS E R F.vrow F.krow F.srow (wiR F) 5 E.M 6 E.M B (dwS F a) bl [.rows true (dwS F a) 2 (drS F a)])))
        (.node (!(k == 4))
          (comeT E R F b x (lf 0 (lfS E R F.vrow (F.know x.toNat).krow F.srow (wiR F) 5 E.M 6 E.M 7 F.w bl []))
            (lf 0 (lfS E R (pourF E F x).vrow F.krow F.srow .dead 5 E.M 6 E.M B (F.w + 1) blm [.rows true (F.w + 1) 2 (F.add true x).wrow]))
            (lf 0 (lfS E R F.vrow F.krow F.srow .dead 5 E.M 6 E.M B (F.w + 1) bl [.rows true (F.w + 1) 2 (F.add true x).wrow])))
          (no 0)))))))
noncomputable def rawDI (E : En) (R : Nat) (F : Fl) (k a : Int) : Tr (AV × Option (List Blk)) :=
  let B := 8 + R
  let bl := bks E.M F R
  let no := fun c => lf c (lfI E R F.vrow F.krow F.srow (wiR F) 5 E.M 6 E.M 7 F.w bl [])
  let b := F.wb a.toNat
  let x := F.wt a.toNat
  let D := Fl.del F a.toNat
  let blm := bks E.M (F.mark (rm R x) x.toNat) R
  .node (k == 1)
    (.node (decide (a ≥ (E.M : Int))) (no 2) (.node (F.kn a.toNat) (no 4) (.node ((F.w : Int) == 10) (no 3)
      (lf 0 (lfI E R F.vrow F.krow F.srow .dead 5 E.M 6 E.M B (F.w + 1) bl [wiA (mA (8 + R)) F a])))))
  (.node (k == 5) (lf 0 (lfI E R F.vrow F.krow F.srow (wiR F) 5 E.M B E.M 7 F.w bl [.rows true E.M 1 F.krow]))
  (.node (k == 6) (lf 0 (lfI E R F.vrow F.krow F.srow (wiR F) B E.M 6 E.M 7 F.w bl [.rows true E.M 1 F.srow]))
    (.node (decide (a ≥ (F.w : Int))) (no 2) (.node (cond (cond (k == 3) (!b) false) ((F.w : Int) == 10) false) (no 3)
      (.node (!(k == 3))
        (.node (!(k == 4))
          (comeT E R F b x (lf 0 (lfI E R F.vrow (F.know x.toNat).krow F.srow (.rows true (F.w - 1) 2 D.wrow) 5 E.M 6 E.M 7 (F.w - 1) bl []))
            (lf 0 (lfI E R (pourF E F x).vrow F.krow F.srow .dead 5 E.M 6 E.M B (F.w - 1 + 1) blm [.rows true (F.w - 1 + 1) 2 (D.add true x).wrow]))
            (lf 0 (lfI E R F.vrow F.krow F.srow .dead 5 E.M 6 E.M B (F.w - 1 + 1) bl [.rows true (F.w - 1 + 1) 2 (D.add true x).wrow])))
          (lf 0 (lfI E R F.vrow F.krow F.srow (.rows true (F.w - 1) 2 D.wrow) 5 E.M 6 E.M 7 (F.w - 1) bl [])))
        (.node (!(k == 4))
          (comeT E R F b x (lf 0 (lfI E R F.vrow (F.know x.toNat).krow F.srow (wiR F) 5 E.M 6 E.M 7 F.w bl []))
            (lf 0 (lfI E R (pourF E F x).vrow F.krow F.srow .dead 5 E.M 6 E.M B (F.w + 1) blm [.rows true (F.w + 1) 2 (F.add true x).wrow]))
            (lf 0 (lfI E R F.vrow F.krow F.srow .dead 5 E.M 6 E.M B (F.w + 1) bl [.rows true (F.w + 1) 2 (F.add true x).wrow])))
          (no 0)))))))
noncomputable def KS (R : Nat) : CallerT := addK 121 (selRunR (refX R) (runS R)) extK
noncomputable def KI (R : Nat) : CallerT := addK 110 (selRunR (refX R) (runI R)) (addK 107 (selRun runClo) (addK 109 (selRunM runDel) extK))
def eS (n M : Nat) (ba : W1.Bt) (t : Ts) : En := ⟨false, true, false, n, M, ba.row, t⟩
-- what is owed
def bfx (m : List Nat) (c M : Nat) (i : Nat) : List AV := renVL (idxP m) (can c M i)
def m1S (R : Nat) : List Nat := [0, 1, 2, 3, 4, 5, 6, 16 + R, 8] ++ (match R with | 1 => [9] | 2 => [9, 10] | 3 => [9, 10, 11] | _ => [9, 10, 11, 12])
noncomputable def qS (E : En) (R : Nat) (m : List Nat) (F : Fl) (x : Int) : Bool := pB (isS (memS E R (bfx m 9 E.M) F) R x)
noncomputable def qI (E : En) (R : Nat) (m : List Nat) (F : Fl) (x : Int) : Bool := pB (isI (memI E R (bfx m 8 E.M) F) R x)
noncomputable def qC (M : Nat) (f : Nat → List AV) : Bool := pB (∃ g : Nat → Bool, [Blk.rows false M 1 f] = [.rows false M 1 (bRow g)] ∧ M ≤ few)
noncomputable def qD (F : Fl) (a : Int) : Bool := pB (∃ G : Fl, [Blk.rows true F.w 2 F.wrow] = [.rows true F.w 2 G.wrow] ∧ 0 ≤ a ∧ a < (F.w : Int) ∧ F.w ≤ few ∧ IntKind.i64.wrap (a + 1) = IntKind.i64.wrap (a + 1))
def oM (M : Nat) : Bool := andB (Nat.ble (0 + 0) 0 && Nat.ble (0 + M) M && Nat.ble (0 + M) few) true
def oL (a : Int) (n : Nat) : Bool := andB (inB a n) (andB (Nat.blt a.toNat n) true)
noncomputable def oAsk (E : En) (F : Fl) (a : Int) (t : Bool) : Bool := impB (!decide (a ≥ (E.M : Int))) (andB (oL a E.M) (impB (!F.kn a.toNat) (impB (!t) (obW F))))
def oS1 (F : Fl) (a : Int) : Bool := decide (0 ≤ IntKind.i64.wrap (a + 1)) && decide (IntKind.i64.wrap (a + 1) ≤ (F.w : Int)) && (decide ((F.w : Int) ≤ (F.w : Int)) || decide (((0 : Nat) : Int) + (F.w : Int) ≤ (F.w : Int)))
def oS2 (F : Fl) (a : Int) : Bool := decide ((0 : Int) ≤ 0) && decide (0 ≤ a) && (decide (a ≤ (F.w : Int)) || decide (((0 : Nat) : Int) + a ≤ (F.w : Int)))
def oA1 (F : Fl) (a : Int) : Bool := Nat.ble (0 + 0) 0 && Nat.ble (k1 a + 0 + (F.w - k1 a)) F.w && Nat.ble (0 + (F.w - k1 a)) few
def oA2 (F : Fl) (a : Int) : Bool := Nat.ble (0 + 0) 0 && Nat.ble (0 + 0 + a.toNat) F.w && Nat.ble (0 + a.toNat) few
def oA3 (F : Fl) (a : Int) : Bool := Nat.ble (0 + (0 + a.toNat)) (0 + a.toNat) && Nat.ble (0 + (0 + (F.w - k1 a))) (0 + (F.w - k1 a)) && Nat.ble (dwS F a) few
noncomputable def owS (E : En) (R : Nat) (F : Fl) (k a : Int) : Bool :=
  andB (impB (k == 5) (oM E.M)) (impB (!(k == 5)) (andB (impB (k == 6) (oM E.M)) (impB (!(k == 6)) (andB (impB (k == 1) (oAsk E F a (decide ((F.w : Int) ≥ 10)))) (impB (!(k == 1)) (andB
    (impB (!decide (a ≥ (F.w : Int))) (andB (oL a F.w) (impB (!cond (cond (k == 3) (!F.wb a.toNat) false) (decide ((F.w : Int) ≥ 10)) false)
      (andB (impB (!(k == 3)) (andB (andB (oS1 F a) true) (andB (oA1 F a) (andB (andB (oS2 F a) (andB (oA2 F a) (andB (oA3 F a) true))) (andB (impB (!(k == 4)) (andB (qS E R (m1S R) (fdS F a) (F.wt a.toNat)) true)) true)))))
        (impB (!!(k == 3)) (andB (impB (!(k == 4)) (andB (qS E R (io (9 + R) []) F (F.wt a.toNat)) true)) true)))))) true))))))
noncomputable def owI (E : En) (R : Nat) (F : Fl) (k a : Int) : Bool :=
  andB (impB (k == 1) (oAsk E F a ((F.w : Int) == 10))) (impB (!(k == 1)) (andB (impB (k == 5) (andB (qC E.M F.krow) true)) (impB (!(k == 5)) (andB (impB (k == 6) (andB (qC E.M F.srow) true)) (impB (!(k == 6))
    (impB (!decide (a ≥ (F.w : Int))) (andB (oL a F.w) (impB (!cond (cond (k == 3) (!F.wb a.toNat) false) ((F.w : Int) == 10) false)
      (andB (impB (!(k == 3)) (andB (andB (qD F a) true) (andB (impB (!(k == 4)) (andB (qI E R (io (8 + R) []) (Fl.del F a.toNat) (F.wt a.toNat)) true)) true)))
        (impB (!!(k == 3)) (andB (impB (!(k == 4)) (andB (qI E R (io (8 + R) []) F (F.wt a.toNat)) true)) true)))))))))))
end Go.Proofs.Ytllonddgbjgmdaa.P4
set_option linter.unusedVariables false
set_option maxRecDepth 100000
namespace Go.Proofs.Ytllonddgbjgmdaa.P4
open Go.Sx Go.Sx.R0 Go.RowKit Go.Proofs.Ytllonddgbjgmdaa.P1 Go.Proofs.Ytllonddgbjgmdaa.P2 Go.Proofs.Ytllonddgbjgmdaa.P3
theorem doS1 (n M : Nat) (ba : W1.Bt) (t : Ts) (F : Fl) (k a : Int) : (evM Try.prog (KS 1) noL 20 8 103 [.ptr 0 0 0, .agg [.int .i64 k, .int .i64 a]] (memS (eS n M ba t) 1 (can 9 M) F)).map (fun x => (mapTr (normL 1 10) x.1, x.2)) = some (rawDS (eS n M ba t) 1 F k a, owS (eS n M ba t) 1 F k a) := by kernel_rfl
theorem doS2 (n M : Nat) (ba : W1.Bt) (t : Ts) (F : Fl) (k a : Int) : (evM Try.prog (KS 2) noL 20 8 103 [.ptr 0 0 0, .agg [.int .i64 k, .int .i64 a]] (memS (eS n M ba t) 2 (can 9 M) F)).map (fun x => (mapTr (normL 2 11) x.1, x.2)) = some (rawDS (eS n M ba t) 2 F k a, owS (eS n M ba t) 2 F k a) := by kernel_rfl
theorem doS3 (n M : Nat) (ba : W1.Bt) (t : Ts) (F : Fl) (k a : Int) : (evM Try.prog (KS 3) noL 20 8 103 [.ptr 0 0 0, .agg [.int .i64 k, .int .i64 a]] (memS (eS n M ba t) 3 (can 9 M) F)).map (fun x => (mapTr (normL 3 12) x.1, x.2)) = some (rawDS (eS n M ba t) 3 F k a, owS (eS n M ba t) 3 F k a) := by kernel_rfl
theorem doS4 (n M : Nat) (ba : W1.Bt) (t : Ts) (F : Fl) (k a : Int) : (evM Try.prog (KS 4) noL 20 8 103 [.ptr 0 0 0, .agg [.int .i64 k, .int .i64 a]] (memS (eS n M ba t) 4 (can 9 M) F)).map (fun x => (mapTr (normL 4 13) x.1, x.2)) = some (rawDS (eS n M ba t) 4 F k a, owS (eS n M ba t) 4 F k a) := by kernel_rfl
end Go.Proofs.Ytllonddgbjgmdaa.P4
set_option linter.unusedVariables false
set_option maxRecDepth 100000
namespace Go.Proofs.Ytllonddgbjgmdaa.P4
open Go.Sx Go.Sx.R0 Go.RowKit Go.Proofs.Ytllonddgbjgmdaa.P1 Go.Proofs.Ytllonddgbjgmdaa.P2 Go.Proofs.Ytllonddgbjgmdaa.P3
theorem doI1 (n M : Nat) (ba : W1.Bt) (t : Ts) (F : Fl) (k a : Int) : (evM Try.prog (KI 1) noL 20 8 70 [.ptr 0 0 0, .agg [.int .i64 k, .int .i64 a]] (memI (eS n M ba t) 1 (can 8 M) F)).map (fun x => (mapTr (normL 1 9) x.1, x.2)) = some (rawDI (eS n M ba t) 1 F k a, owI (eS n M ba t) 1 F k a) := by kernel_rfl
theorem doI2 (n M : Nat) (ba : W1.Bt) (t : Ts) (F : Fl) (k a : Int) : (evM Try.prog (KI 2) noL 20 8 70 [.ptr 0 0 0, .agg [.int .i64 k, .int .i64 a]] (memI (eS n M ba t) 2 (can 8 M) F)).map (fun x => (mapTr (normL 2 10) x.1, x.2)) = some (rawDI (eS n M ba t) 2 F k a, owI (eS n M ba t) 2 F k a) := by kernel_rfl
theorem doI3 (n M : Nat) (ba : W1.Bt) (t : Ts) (F : Fl) (k a : Int) : (evM Try.prog (KI 3) noL 20 8 70 [.ptr 0 0 0, .agg [.int .i64 k, .int .i64 a]] (memI (eS n M ba t) 3 (can 8 M) F)).map (fun x => (mapTr (normL 3 11) x.1, x.2)) = some (rawDI (eS n M ba t) 3 F k a, owI (eS n M ba t) 3 F k a) := by kernel_rfl
theorem doI4 (n M : Nat) (ba : W1.Bt) (t : Ts) (F : Fl) (k a : Int) : (evM Try.prog (KI 4) noL 20 8 70 [.ptr 0 0 0, .agg [.int .i64 k, .int .i64 a]] (memI (eS n M ba t) 4 (can 8 M) F)).map (fun x => (mapTr (normL 4 12) x.1, x.2)) = some (rawDI (eS n M ba t) 4 F k a, owI (eS n M ba t) 4 F k a) := by kernel_rfl
end Go.Proofs.Ytllonddgbjgmdaa.P4
set_option linter.unusedVariables false
set_option linter.unusedSimpArgs false
set_option maxRecDepth 100000
namespace Go.Proofs.Ytllonddgbjgmdaa.P5
open Go.Sx Go.Sx.R0 Go.RowKit Go.Proofs.Ytllonddgbjgmdaa.P1 Go.Proofs.Ytllonddgbjgmdaa.P2 Go.Proofs.Ytllonddgbjgmdaa.P3 Go.Proofs.Ytllonddgbjgmdaa.P4

/-- nothing is told of jars and rooms that are not there -/
def Nf (F : Fl) (R : Nat) : Prop := (∀ j i, 8 ≤ j → F.vt j i = 0) ∧ (∀ r i, R ≤ r → F.bk r i = false)
def FlOk (E : En) (R : Nat) (F : Fl) : Prop := Nf F R ∧ F.w ≤ 10 ∧ ∀ i, i < F.w → 0 ≤ F.wt i ∧ F.wt i < (E.M : Int)
def DoOk (E : En) (R : Nat) (F : Fl) (a : Int) : Prop := TsOk E ∧ FlOk E R F ∧ 0 ≤ a ∧ a ≤ 999 ∧ E.M ≤ few
theorem toFS_eq {R : Nat} (h1 : 1 ≤ R) (h2 : R ≤ 4) (E : En) (bf : Nat → List AV) {F : Fl} (h : Nf F R) : toFS (memS E R bf F) = F := by
  obtain ⟨vt, bk, kn, sv, w, wb, wt⟩ := F
  unfold toFS toFl
  have e1 : (fun (j i : Nat) => gI (gt (bF (memS E R bf ⟨vt, bk, kn, sv, w, wb, wt⟩) 3 i) j)) = vt := by
    funext j i
    by_cases hj : j < 8
    · have : j = 0 ∨ j = 1 ∨ j = 2 ∨ j = 3 ∨ j = 4 ∨ j = 5 ∨ j = 6 ∨ j = 7 := by omega
      rcases this with rfl | rfl | rfl | rfl | rfl | rfl | rfl | rfl <;> rfl
    · obtain ⟨m, rfl⟩ : ∃ m, j = m + 8 := ⟨j - 8, by omega⟩
      exact (h.1 (m + 8) i (by omega)).symm
  have e2 : (fun (r i : Nat) => gB (gt (bF (memS E R bf ⟨vt, bk, kn, sv, w, wb, wt⟩) (9 + r) i) 0)) = bk := by
    funext r i
    have hR : R = 1 ∨ R = 2 ∨ R = 3 ∨ R = 4 := by omega
    have hh := fun hr => h.2 r i hr
    rcases hR with rfl | rfl | rfl | rfl
    · match r, hh with
      | 0, _ => rfl
      | r + 1, hh => rw [show bk (r + 1) i = false from hh (by omega), show 9 + (r + 1) = r + 10 by omega]; rfl
    · match r, hh with
      | 0, _ => rfl
      | 1, _ => rfl
      | r + 2, hh => rw [show bk (r + 2) i = false from hh (by omega), show 9 + (r + 2) = r + 11 by omega]; rfl
    · match r, hh with
      | 0, _ => rfl
      | 1, _ => rfl
      | 2, _ => rfl
      | r + 3, hh => rw [show bk (r + 3) i = false from hh (by omega), show 9 + (r + 3) = r + 12 by omega]; rfl
    · match r, hh with
      | 0, _ => rfl
      | 1, _ => rfl
      | 2, _ => rfl
      | 3, _ => rfl
      | r + 4, hh => rw [show bk (r + 4) i = false from hh (by omega), show 9 + (r + 4) = r + 13 by omega]; rfl
  rw [e1, e2]
  rfl
theorem toFI_eq {R : Nat} (h1 : 1 ≤ R) (h2 : R ≤ 4) (E : En) (bf : Nat → List AV) {F : Fl} (h : Nf F R) : toFI (memI E R bf F) = F := by
  obtain ⟨vt, bk, kn, sv, w, wb, wt⟩ := F
  unfold toFI toFl
  have e1 : (fun (j i : Nat) => gI (gt (bF (memI E R bf ⟨vt, bk, kn, sv, w, wb, wt⟩) 3 i) j)) = vt := by
    funext j i
    by_cases hj : j < 8
    · have : j = 0 ∨ j = 1 ∨ j = 2 ∨ j = 3 ∨ j = 4 ∨ j = 5 ∨ j = 6 ∨ j = 7 := by omega
      rcases this with rfl | rfl | rfl | rfl | rfl | rfl | rfl | rfl <;> rfl
    · obtain ⟨m, rfl⟩ : ∃ m, j = m + 8 := ⟨j - 8, by omega⟩
      exact (h.1 (m + 8) i (by omega)).symm
  have e2 : (fun (r i : Nat) => gB (gt (bF (memI E R bf ⟨vt, bk, kn, sv, w, wb, wt⟩) (8 + r) i) 0)) = bk := by
    funext r i
    have hR : R = 1 ∨ R = 2 ∨ R = 3 ∨ R = 4 := by omega
    have hh := fun hr => h.2 r i hr
    rcases hR with rfl | rfl | rfl | rfl
    · match r, hh with
      | 0, _ => rfl
      | r + 1, hh => rw [show bk (r + 1) i = false from hh (by omega), show 8 + (r + 1) = r + 9 by omega]; rfl
    · match r, hh with
      | 0, _ => rfl
      | 1, _ => rfl
      | r + 2, hh => rw [show bk (r + 2) i = false from hh (by omega), show 8 + (r + 2) = r + 10 by omega]; rfl
    · match r, hh with
      | 0, _ => rfl
      | 1, _ => rfl
      | 2, _ => rfl
      | r + 3, hh => rw [show bk (r + 3) i = false from hh (by omega), show 8 + (r + 3) = r + 11 by omega]; rfl
    · match r, hh with
      | 0, _ => rfl
      | 1, _ => rfl
      | 2, _ => rfl
      | 3, _ => rfl
      | r + 4, hh => rw [show bk (r + 4) i = false from hh (by omega), show 8 + (r + 4) = r + 12 by omega]; rfl
  rw [e1, e2]
  rfl
-- what a deed leaves
def wchS (E : En) (F : Fl) (k a : Int) : Bool := cond (code E F k a == 0) (cond (k == 1) true (cond (!(k == 3)) true (cond (!(k == 4)) (!F.wb a.toNat) false))) false
def wchI (E : En) (F : Fl) (k a : Int) : Bool := cond (code E F k a == 0) (cond (k == 1) true (cond (!(k == 4)) (!F.wb a.toNat) false)) false
def outS (E : En) (R : Nat) (F : Fl) (k a : Int) : Tr (AV × Option (List Blk)) :=
  let B := 9 + R
  let v := AV.int .i64 (code E F k a)
  let G := P4.step E R F k a
  .node (k == 5) (.leaf (v, some (lfS E R F.vrow F.krow F.srow (wiR F) 5 E.M B E.M 7 F.w (bks E.M F R) [.rows true E.M 1 F.krow])))
  (.node (k == 6) (.leaf (v, some (lfS E R F.vrow F.krow F.srow (wiR F) B E.M 6 E.M 7 F.w (bks E.M F R) [.rows true E.M 1 F.srow])))
  (.node (wchS E F k a) (.leaf (v, some (lfS E R G.vrow G.krow G.srow .dead 5 E.M 6 E.M B G.w (bks E.M G R) [wiR G])))
    (.leaf (v, some (lfS E R G.vrow G.krow G.srow (wiR G) 5 E.M 6 E.M 7 G.w (bks E.M G R) [])))))
theorem lfS_le {E : En} {R : Nat} {vf vf' kf kf' sf sf' : Nat → List AV} {wB wB' : Blk} {nk lk lk' ns ls ls' nw wl wl' : Nat} {bl bl' ex ex' : List Blk} (hv : vf = vf') (hk : kf = kf') (hs : sf = sf') (hw : BLe wB wB') (h1 : lk = lk') (h2 : ls = ls') (h3 : wl = wl') (hb : bl = bl') (hx : HLe ex ex') :
    HLe (lfS E R vf kf sf wB nk lk ns ls nw wl bl ex) (lfS E R vf' kf' sf' wB' nk lk' ns ls' nw wl' bl' ex') := by
  subst hv hk hs h1 h2 h3 hb
  exact HLe.app (HLe.app ⟨BLe.refl _, BLe.refl _, BLe.refl _, BLe.refl _, BLe.refl _, BLe.refl _, BLe.refl _, hw, BLe.refl _, trivial⟩ (HLe.refl _)) hx
def outI (E : En) (R : Nat) (F : Fl) (k a : Int) : Tr (AV × Option (List Blk)) :=
  let B := 8 + R
  let v := AV.int .i64 (code E F k a)
  let G := P4.step E R F k a
  .node (k == 5) (.leaf (v, some (lfI E R F.vrow F.krow F.srow (wiR F) 5 E.M B E.M 7 F.w (bks E.M F R) [.rows true E.M 1 F.krow])))
  (.node (k == 6) (.leaf (v, some (lfI E R F.vrow F.krow F.srow (wiR F) B E.M 6 E.M 7 F.w (bks E.M F R) [.rows true E.M 1 F.srow])))
  (.node (wchI E F k a) (.leaf (v, some (lfI E R G.vrow G.krow G.srow .dead 5 E.M 6 E.M B G.w (bks E.M G R) [wiR G])))
    (.leaf (v, some (lfI E R G.vrow G.krow G.srow (wiR G) 5 E.M 6 E.M 7 G.w (bks E.M G R) [])))))
theorem lfI_le {E : En} {R : Nat} {vf vf' kf kf' sf sf' : Nat → List AV} {wB wB' : Blk} {nk lk lk' ns ls ls' nw wl wl' : Nat} {bl bl' ex ex' : List Blk} (hv : vf = vf') (hk : kf = kf') (hs : sf = sf') (hw : BLe wB wB') (h1 : lk = lk') (h2 : ls = ls') (h3 : wl = wl') (hb : bl = bl') (hx : HLe ex ex') :
    HLe (lfI E R vf kf sf wB nk lk ns ls nw wl bl ex) (lfI E R vf' kf' sf' wB' nk lk' ns ls' nw wl' bl' ex') := by
  subst hv hk hs h1 h2 h3 hb
  exact HLe.app (HLe.app ⟨BLe.refl _, BLe.refl _, BLe.refl _, BLe.refl _, BLe.refl _, BLe.refl _, BLe.refl _, hw, trivial⟩ (HLe.refl _)) hx

-- the reference's wire without a note
theorem k1_eq {a : Int} (h0 : 0 ≤ a) (h1 : a ≤ 999) : k1 a = a.toNat + 1 := by
  unfold k1
  rw [wrap_i64 (by omega) (by omega)]
  omega
theorem dw_eq {F : Fl} {a : Int} (h0 : 0 ≤ a) (h9 : a ≤ 999) (h1 : a < (F.w : Int)) : dwS F a = F.w - 1 := by
  unfold dwS
  rw [k1_eq h0 h9]
  omega
theorem dr_row {F : Fl} {a : Int} (h0 : 0 ≤ a) (h9 : a ≤ 999) (h1 : a < (F.w : Int)) {i : Nat} (hi : i < F.w - 1) : drS F a i = (Fl.del F a.toNat).wrow i := by
  unfold drS
  rw [k1_eq h0 h9, Nat.zero_add]
  unfold catF
  by_cases h : i < a.toNat
  · rw [blt_lt h]
    unfold Fl.wrow Fl.del shF
    simp only [blt_lt h]
    rfl
  · rw [blt_ge (show a.toNat ≤ i by omega)]
    unfold Fl.wrow Fl.del shF
    simp only [blt_ge (show a.toNat ≤ i by omega)]
    rw [show i - a.toNat + (a.toNat + 1) = i + 1 by omega]
    rfl
theorem fd_row {F : Fl} {a : Int} (h0 : 0 ≤ a) (h9 : a ≤ 999) (h1 : a < (F.w : Int)) {i : Nat} (hi : i < F.w - 1) : (fdS F a).wb i = (Fl.del F a.toNat).wb i ∧ (fdS F a).wt i = (Fl.del F a.toNat).wt i := by
  unfold fdS
  simp only [dr_row h0 h9 h1 hi]
  exact ⟨rfl, rfl⟩
theorem fd_le {F G : Fl} {a : Int} (h0 : 0 ≤ a) (h9 : a ≤ 999) (h1 : a < (F.w : Int)) (e0 : G.w = F.w - 1) (e1 : G.wb = (Fl.del F a.toNat).wb) (e2 : G.wt = (Fl.del F a.toNat).wt) : BLe (.rows true (dwS F a) 2 (fdS F a).wrow) (wiR G) := by
  unfold wiR
  rw [dw_eq h0 h9 h1, e0]
  refine BLe.rows fun i hi => ?_
  obtain ⟨q1, q2⟩ := fd_row h0 h9 h1 hi
  unfold Fl.wrow
  rw [e1, e2, q1, q2]
theorem fa_le {F G : Fl} {a x : Int} (h0 : 0 ≤ a) (h9 : a ≤ 999) (h1 : a < (F.w : Int)) (e0 : G.w = F.w - 1 + 1) (e1 : G.wb = ((Fl.del F a.toNat).add true x).wb) (e2 : G.wt = ((Fl.del F a.toNat).add true x).wt) : BLe (.rows true (dwS F a + 1) 2 ((fdS F a).add true x).wrow) (wiR G) := by
  unfold wiR
  rw [dw_eq h0 h9 h1, e0]
  refine BLe.rows fun i hi => ?_
  have ew : (fdS F a).w = F.w - 1 := dw_eq h0 h9 h1
  have ed : (Fl.del F a.toNat).w = F.w - 1 := rfl
  unfold Fl.wrow
  rw [e1, e2]
  unfold Fl.add
  simp only [ew, ed]
  by_cases h : i < F.w - 1
  · obtain ⟨q1, q2⟩ := fd_row h0 h9 h1 h
    rw [q1, q2]
  · rw [blt_ge (show F.w - 1 ≤ i by omega)]
    rfl
theorem ask_le (m : List Nat) (F : Fl) (a : Int) : BLe (wiA m F a) (wiR (F.add false a)) := by
  unfold wiA wiR
  refine BLe.rows fun i hi => ?_
  rw [← add_row F false a hi]
  rfl
theorem leS {E : En} {R : Nat} {F : Fl} {k a : Int} (h : DoOk E R F a) : LLe (rawDS E R F k a).get (outS E R F k a).get := by
  obtain ⟨hT, ⟨hN, hw, hwt⟩, ha0, ha9, hM⟩ := h
  unfold rawDS outS lf comeT
  simp only [Tr.get]
  cases h5 : (k == 5) with
  | true =>
    have hc : code E F k a = 0 := by unfold code; simp only [h5, cond_true, cond_false]
    simp only [Tr.get, cond_true, cond_false, hc, Nat.zero_add]
    exact ⟨rfl, lfS_le rfl rfl rfl (BLe.refl _) rfl rfl rfl rfl (HLe.refl _)⟩
  | false =>
    cases h6 : (k == 6) with
    | true =>
      have hc : code E F k a = 0 := by unfold code; simp only [h5, h6, cond_true, cond_false]
      simp only [Tr.get, cond_true, cond_false, hc, Nat.zero_add]
      exact ⟨rfl, lfS_le rfl rfl rfl (BLe.refl _) rfl rfl rfl rfl (HLe.refl _)⟩
    | false =>
      cases h1 : (k == 1) with
      | true =>
        cases hA : (decide (a ≥ (E.M : Int))) with
        | true =>
          have hc : code E F k a = 2 := by unfold code; simp only [h5, h6, h1, hA, cond_true, cond_false]
          have hs : P4.step E R F k a = F := by unfold P4.step; rw [hc]; rfl
          have hx : wchS E F k a = false := by unfold wchS; rw [hc]; rfl
          simp only [Tr.get, Bool.not_true, Bool.not_false, cond_true, cond_false, hc, hs, hx]
          exact ⟨rfl, lfS_le rfl rfl rfl (BLe.refl _) rfl rfl rfl rfl trivial⟩
        | false =>
          cases hK : (F.kn a.toNat) with
          | true =>
            have hc : code E F k a = 4 := by unfold code; simp only [h5, h6, h1, hA, hK, cond_true, cond_false]
            have hs : P4.step E R F k a = F := by unfold P4.step; rw [hc]; rfl
            have hx : wchS E F k a = false := by unfold wchS; rw [hc]; rfl
            simp only [Tr.get, Bool.not_true, Bool.not_false, cond_true, cond_false, hc, hs, hx]
            exact ⟨rfl, lfS_le rfl rfl rfl (BLe.refl _) rfl rfl rfl rfl trivial⟩
          | false =>
            cases hW : (decide ((F.w : Int) ≥ 10)) with
            | true =>
              have hc : code E F k a = 3 := by unfold code; simp only [h5, h6, h1, hA, hK, hW, cond_true, cond_false]
              have hs : P4.step E R F k a = F := by unfold P4.step; rw [hc]; rfl
              have hx : wchS E F k a = false := by unfold wchS; rw [hc]; rfl
              simp only [Tr.get, Bool.not_true, Bool.not_false, cond_true, cond_false, hc, hs, hx]
              exact ⟨rfl, lfS_le rfl rfl rfl (BLe.refl _) rfl rfl rfl rfl trivial⟩
            | false =>
              have hc : code E F k a = 0 := by unfold code; simp only [h5, h6, h1, hA, hK, hW, cond_true, cond_false]
              have hs : P4.step E R F k a = F.add false a := by unfold P4.step P4.move Fl.come; rw [hc]; simp only [h5, h6, h1, Bool.not_true, Bool.not_false, cond_true, cond_false]; rfl
              have hx : wchS E F k a = true := by unfold wchS; rw [hc]; simp only [h5, h6, h1, Bool.not_true, Bool.not_false, cond_true, cond_false]; rfl
              simp only [Tr.get, Bool.not_true, Bool.not_false, cond_true, cond_false, hc, hs, hx]
              exact ⟨rfl, lfS_le rfl rfl rfl (BLe.refl _) rfl rfl rfl rfl ⟨ask_le _ F a, trivial⟩⟩
      | false =>
        cases hA : (decide (a ≥ (F.w : Int))) with
        | true =>
          have hc : code E F k a = 2 := by unfold code; simp only [h5, h6, h1, hA, cond_true, cond_false]
          have hs : P4.step E R F k a = F := by unfold P4.step; rw [hc]; rfl
          have hx : wchS E F k a = false := by unfold wchS; rw [hc]; rfl
          simp only [Tr.get, Bool.not_true, Bool.not_false, cond_true, cond_false, hc, hs, hx]
          exact ⟨rfl, lfS_le rfl rfl rfl (BLe.refl _) rfl rfl rfl rfl trivial⟩
        | false =>
          have hlt : a < (F.w : Int) := by have := of_decide_eq_false hA; omega
          cases hC : (cond (cond (k == 3) (!F.wb a.toNat) false) (decide ((F.w : Int) ≥ 10)) false) with
          | true =>
            have hc : code E F k a = 3 := by unfold code; simp only [h5, h6, h1, hA, hC, cond_true, cond_false]
            have hs : P4.step E R F k a = F := by unfold P4.step; rw [hc]; rfl
            have hx : wchS E F k a = false := by unfold wchS; rw [hc]; rfl
            simp only [Tr.get, Bool.not_true, Bool.not_false, cond_true, cond_false, hc, hs, hx]
            exact ⟨rfl, lfS_le rfl rfl rfl (BLe.refl _) rfl rfl rfl rfl trivial⟩
          | false =>
            have hc : code E F k a = 0 := by unfold code; simp only [h5, h6, h1, hA, hC, cond_true, cond_false]
            cases h3 : (k == 3) with
            | false =>
              cases h4 : (k == 4) with
              | false =>
                cases hb : (F.wb a.toNat) with
                | true =>
                  have hs : P4.step E R F k a = Fl.know (Fl.del F a.toNat) (F.wt a.toNat).toNat := by unfold P4.step P4.move Fl.come; rw [hc]; simp only [h5, h6, h1, h3, h4, hb, Bool.not_true, Bool.not_false, cond_true, cond_false]; rfl
                  have hx : wchS E F k a = true := by unfold wchS; rw [hc]; simp only [h5, h6, h1, h3, h4, hb, Bool.not_true, Bool.not_false, cond_true, cond_false]; rfl
                  simp only [Tr.get, Bool.not_true, Bool.not_false, cond_true, cond_false, hc, hs, hx]
                  exact ⟨rfl, lfS_le rfl rfl rfl (BLe.dead _) rfl rfl (dw_eq ha0 ha9 hlt) rfl ⟨fd_le ha0 ha9 hlt rfl rfl rfl, trivial⟩⟩
                | false =>
                  cases hz : (F.was R (rm R (F.wt a.toNat)) (F.wt a.toNat).toNat) with
                  | true =>
                    have hzz : (Fl.del F a.toNat).was R (rm R (F.wt a.toNat)) (F.wt a.toNat).toNat = true := hz
                    have hs : P4.step E R F k a = (Fl.del F a.toNat).add true (F.wt a.toNat) := by unfold P4.step P4.move Fl.come; rw [hc]; simp only [h5, h6, h1, h3, h4, hb, hzz, Bool.not_true, Bool.not_false, cond_true, cond_false]; rfl
                    have hx : wchS E F k a = true := by unfold wchS; rw [hc]; simp only [h5, h6, h1, h3, h4, hb, hzz, Bool.not_true, Bool.not_false, cond_true, cond_false]; rfl
                    simp only [Tr.get, Bool.not_true, Bool.not_false, cond_true, cond_false, hc, hs, hx]
                    exact ⟨rfl, lfS_le rfl rfl rfl (BLe.dead _) rfl rfl (by rw [dw_eq ha0 ha9 hlt]; rfl) rfl ⟨fa_le ha0 ha9 hlt rfl rfl rfl, trivial⟩⟩
                  | false =>
                    have hzz : (Fl.del F a.toNat).was R (rm R (F.wt a.toNat)) (F.wt a.toNat).toNat = false := hz
                    have hs : P4.step E R F k a = (((Fl.del F a.toNat).mark (rm R (F.wt a.toNat)) ((F.wt a.toNat)).toNat).pour (E.t.b ((F.wt a.toNat)).toNat).toNat (E.t.j ((F.wt a.toNat)).toNat).toNat (E.t.d ((F.wt a.toNat)).toNat)).add true (F.wt a.toNat) := by unfold P4.step P4.move Fl.come; rw [hc]; simp only [h5, h6, h1, h3, h4, hb, hzz, Bool.not_true, Bool.not_false, cond_true, cond_false]; rfl
                    have hx : wchS E F k a = true := by unfold wchS; rw [hc]; simp only [h5, h6, h1, h3, h4, hb, hzz, Bool.not_true, Bool.not_false, cond_true, cond_false]; rfl
                    simp only [Tr.get, Bool.not_true, Bool.not_false, cond_true, cond_false, hc, hs, hx]
                    exact ⟨rfl, lfS_le rfl rfl rfl (BLe.dead _) rfl rfl (by rw [dw_eq ha0 ha9 hlt]; rfl) rfl ⟨fa_le ha0 ha9 hlt rfl rfl rfl, trivial⟩⟩
              | true =>
                have hs : P4.step E R F k a = Fl.del F a.toNat := by unfold P4.step P4.move Fl.come; rw [hc]; simp only [h5, h6, h1, h3, h4, Bool.not_true, Bool.not_false, cond_true, cond_false]; rfl
                have hx : wchS E F k a = true := by unfold wchS; rw [hc]; simp only [h5, h6, h1, h3, h4, Bool.not_true, Bool.not_false, cond_true, cond_false]; rfl
                simp only [Tr.get, Bool.not_true, Bool.not_false, cond_true, cond_false, hc, hs, hx]
                exact ⟨rfl, lfS_le rfl rfl rfl (BLe.dead _) rfl rfl (dw_eq ha0 ha9 hlt) rfl ⟨(by rw [dw_eq ha0 ha9 hlt]; exact BLe.rows fun i hi => (dr_row ha0 ha9 hlt hi).symm), trivial⟩⟩
            | true =>
              cases h4 : (k == 4) with
              | false =>
                cases hb : (F.wb a.toNat) with
                | true =>
                  have hs : P4.step E R F k a = Fl.know (F) (F.wt a.toNat).toNat := by unfold P4.step P4.move Fl.come; rw [hc]; simp only [h5, h6, h1, h3, h4, hb, Bool.not_true, Bool.not_false, cond_true, cond_false]; rfl
                  have hx : wchS E F k a = false := by unfold wchS; rw [hc]; simp only [h5, h6, h1, h3, h4, hb, Bool.not_true, Bool.not_false, cond_true, cond_false]; rfl
                  simp only [Tr.get, Bool.not_true, Bool.not_false, cond_true, cond_false, hc, hs, hx]
                  exact ⟨rfl, lfS_le rfl rfl rfl (BLe.refl _) rfl rfl rfl rfl trivial⟩
                | false =>
                  cases hz : (F.was R (rm R (F.wt a.toNat)) (F.wt a.toNat).toNat) with
                  | true =>
                    have hzz : (F).was R (rm R (F.wt a.toNat)) (F.wt a.toNat).toNat = true := hz
                    have hs : P4.step E R F k a = (F).add true (F.wt a.toNat) := by unfold P4.step P4.move Fl.come; rw [hc]; simp only [h5, h6, h1, h3, h4, hb, hzz, Bool.not_true, Bool.not_false, cond_true, cond_false]; rfl
                    have hx : wchS E F k a = true := by unfold wchS; rw [hc]; simp only [h5, h6, h1, h3, h4, hb, hzz, Bool.not_true, Bool.not_false, cond_true, cond_false]; rfl
                    simp only [Tr.get, Bool.not_true, Bool.not_false, cond_true, cond_false, hc, hs, hx]
                    exact ⟨rfl, lfS_le rfl rfl rfl (BLe.refl _) rfl rfl rfl rfl ⟨BLe.refl _, trivial⟩⟩
                  | false =>
                    have hzz : (F).was R (rm R (F.wt a.toNat)) (F.wt a.toNat).toNat = false := hz
                    have hs : P4.step E R F k a = (((F).mark (rm R (F.wt a.toNat)) ((F.wt a.toNat)).toNat).pour (E.t.b ((F.wt a.toNat)).toNat).toNat (E.t.j ((F.wt a.toNat)).toNat).toNat (E.t.d ((F.wt a.toNat)).toNat)).add true (F.wt a.toNat) := by unfold P4.step P4.move Fl.come; rw [hc]; simp only [h5, h6, h1, h3, h4, hb, hzz, Bool.not_true, Bool.not_false, cond_true, cond_false]; rfl
                    have hx : wchS E F k a = true := by unfold wchS; rw [hc]; simp only [h5, h6, h1, h3, h4, hb, hzz, Bool.not_true, Bool.not_false, cond_true, cond_false]; rfl
                    simp only [Tr.get, Bool.not_true, Bool.not_false, cond_true, cond_false, hc, hs, hx]
                    exact ⟨rfl, lfS_le rfl rfl rfl (BLe.refl _) rfl rfl rfl rfl ⟨BLe.refl _, trivial⟩⟩
              | true =>
                have hs : P4.step E R F k a = F := by unfold P4.step P4.move Fl.come; rw [hc]; simp only [h5, h6, h1, h3, h4, Bool.not_true, Bool.not_false, cond_true, cond_false]; rfl
                have hx : wchS E F k a = false := by unfold wchS; rw [hc]; simp only [h5, h6, h1, h3, h4, Bool.not_true, Bool.not_false, cond_true, cond_false]; rfl
                simp only [Tr.get, Bool.not_true, Bool.not_false, cond_true, cond_false, hc, hs, hx]
                exact ⟨rfl, lfS_le rfl rfl rfl (BLe.refl _) rfl rfl rfl rfl trivial⟩
theorem leI {E : En} {R : Nat} {F : Fl} {k a : Int} (h : DoOk E R F a) : LLe (rawDI E R F k a).get (outI E R F k a).get := by
  obtain ⟨hT, ⟨hN, hw, hwt⟩, ha0, ha9, hM⟩ := h
  have hten : ((F.w : Int) == 10) = decide ((F.w : Int) ≥ 10) := by
    by_cases h10 : F.w = 10
    · rw [h10]; rfl
    · rw [decide_eq_false (show ¬ (F.w : Int) ≥ 10 by omega)]; simp; omega
  unfold rawDI outI lf comeT
  simp only [Tr.get, hten]
  cases h1 : (k == 1) with
  | true =>
    have h5 : (k == 5) = false := by have := eq_of_beq h1; subst this; rfl
    have h6 : (k == 6) = false := by have := eq_of_beq h1; subst this; rfl
    rw [h5, h6]
    cases hA : (decide (a ≥ (E.M : Int))) with
    | true =>
      have hc : code E F k a = 2 := by unfold code; simp only [h5, h6, h1, hA, cond_true, cond_false]
      have hs : P4.step E R F k a = F := by unfold P4.step; rw [hc]; rfl
      have hx : wchI E F k a = false := by unfold wchI; rw [hc]; rfl
      simp only [Tr.get, Bool.not_true, Bool.not_false, cond_true, cond_false, hc, hs, hx]
      exact ⟨rfl, lfI_le rfl rfl rfl (BLe.refl _) rfl rfl rfl rfl trivial⟩
    | false =>
      cases hK : (F.kn a.toNat) with
      | true =>
        have hc : code E F k a = 4 := by unfold code; simp only [h5, h6, h1, hA, hK, cond_true, cond_false]
        have hs : P4.step E R F k a = F := by unfold P4.step; rw [hc]; rfl
        have hx : wchI E F k a = false := by unfold wchI; rw [hc]; rfl
        simp only [Tr.get, Bool.not_true, Bool.not_false, cond_true, cond_false, hc, hs, hx]
        exact ⟨rfl, lfI_le rfl rfl rfl (BLe.refl _) rfl rfl rfl rfl trivial⟩
      | false =>
        cases hW : (decide ((F.w : Int) ≥ 10)) with
        | true =>
          have hc : code E F k a = 3 := by unfold code; simp only [h5, h6, h1, hA, hK, hW, cond_true, cond_false]
          have hs : P4.step E R F k a = F := by unfold P4.step; rw [hc]; rfl
          have hx : wchI E F k a = false := by unfold wchI; rw [hc]; rfl
          simp only [Tr.get, Bool.not_true, Bool.not_false, cond_true, cond_false, hc, hs, hx]
          exact ⟨rfl, lfI_le rfl rfl rfl (BLe.refl _) rfl rfl rfl rfl trivial⟩
        | false =>
          have hc : code E F k a = 0 := by unfold code; simp only [h5, h6, h1, hA, hK, hW, cond_true, cond_false]
          have hs : P4.step E R F k a = F.add false a := by unfold P4.step P4.move Fl.come; rw [hc]; simp only [h5, h6, h1, Bool.not_true, Bool.not_false, cond_true, cond_false]; rfl
          have hx : wchI E F k a = true := by unfold wchI; rw [hc]; simp only [h5, h6, h1, Bool.not_true, Bool.not_false, cond_true, cond_false]; rfl
          simp only [Tr.get, Bool.not_true, Bool.not_false, cond_true, cond_false, hc, hs, hx]
          exact ⟨rfl, lfI_le rfl rfl rfl (BLe.refl _) rfl rfl rfl rfl ⟨ask_le _ F a, trivial⟩⟩
  | false =>
    cases h5 : (k == 5) with
    | true =>
      have hc : code E F k a = 0 := by unfold code; simp only [h1, h5, cond_true, cond_false]
      simp only [Tr.get, cond_true, cond_false, hc, Nat.zero_add]
      exact ⟨rfl, lfI_le rfl rfl rfl (BLe.refl _) rfl rfl rfl rfl (HLe.refl _)⟩
    | false =>
      cases h6 : (k == 6) with
      | true =>
        have hc : code E F k a = 0 := by unfold code; simp only [h1, h5, h6, cond_true, cond_false]
        simp only [Tr.get, cond_true, cond_false, hc, Nat.zero_add]
        exact ⟨rfl, lfI_le rfl rfl rfl (BLe.refl _) rfl rfl rfl rfl (HLe.refl _)⟩
      | false =>
        cases hA : (decide (a ≥ (F.w : Int))) with
        | true =>
          have hc : code E F k a = 2 := by unfold code; simp only [h5, h6, h1, hA, cond_true, cond_false]
          have hs : P4.step E R F k a = F := by unfold P4.step; rw [hc]; rfl
          have hx : wchI E F k a = false := by unfold wchI; rw [hc]; rfl
          simp only [Tr.get, Bool.not_true, Bool.not_false, cond_true, cond_false, hc, hs, hx]
          exact ⟨rfl, lfI_le rfl rfl rfl (BLe.refl _) rfl rfl rfl rfl trivial⟩
        | false =>
          have hlt : a < (F.w : Int) := by have := of_decide_eq_false hA; omega
          cases hC : (cond (cond (k == 3) (!F.wb a.toNat) false) (decide ((F.w : Int) ≥ 10)) false) with
          | true =>
            have hc : code E F k a = 3 := by unfold code; simp only [h5, h6, h1, hA, hC, cond_true, cond_false]
            have hs : P4.step E R F k a = F := by unfold P4.step; rw [hc]; rfl
            have hx : wchI E F k a = false := by unfold wchI; rw [hc]; rfl
            simp only [Tr.get, Bool.not_true, Bool.not_false, cond_true, cond_false, hc, hs, hx]
            exact ⟨rfl, lfI_le rfl rfl rfl (BLe.refl _) rfl rfl rfl rfl trivial⟩
          | false =>
            have hc : code E F k a = 0 := by unfold code; simp only [h5, h6, h1, hA, hC, cond_true, cond_false]
            cases h3 : (k == 3) with
            | false =>
              cases h4 : (k == 4) with
              | false =>
                cases hb : (F.wb a.toNat) with
                | true =>
                  have hs : P4.step E R F k a = Fl.know (Fl.del F a.toNat) (F.wt a.toNat).toNat := by unfold P4.step P4.move Fl.come; rw [hc]; simp only [h5, h6, h1, h3, h4, hb, Bool.not_true, Bool.not_false, cond_true, cond_false]; rfl
                  have hx : wchI E F k a = false := by unfold wchI; rw [hc]; simp only [h5, h6, h1, h3, h4, hb, Bool.not_true, Bool.not_false, cond_true, cond_false]; rfl
                  simp only [Tr.get, Bool.not_true, Bool.not_false, cond_true, cond_false, hc, hs, hx]
                  exact ⟨rfl, lfI_le rfl rfl rfl (BLe.refl _) rfl rfl rfl rfl trivial⟩
                | false =>
                  cases hz : (F.was R (rm R (F.wt a.toNat)) (F.wt a.toNat).toNat) with
                  | true =>
                    have hzz : (Fl.del F a.toNat).was R (rm R (F.wt a.toNat)) (F.wt a.toNat).toNat = true := hz
                    have hs : P4.step E R F k a = (Fl.del F a.toNat).add true (F.wt a.toNat) := by unfold P4.step P4.move Fl.come; rw [hc]; simp only [h5, h6, h1, h3, h4, hb, hzz, Bool.not_true, Bool.not_false, cond_true, cond_false]; rfl
                    have hx : wchI E F k a = true := by unfold wchI; rw [hc]; simp only [h5, h6, h1, h3, h4, hb, hzz, Bool.not_true, Bool.not_false, cond_true, cond_false]; rfl
                    simp only [Tr.get, Bool.not_true, Bool.not_false, cond_true, cond_false, hc, hs, hx]
                    exact ⟨rfl, lfI_le rfl rfl rfl (BLe.refl _) rfl rfl rfl rfl ⟨BLe.refl _, trivial⟩⟩
                  | false =>
                    have hzz : (Fl.del F a.toNat).was R (rm R (F.wt a.toNat)) (F.wt a.toNat).toNat = false := hz
                    have hs : P4.step E R F k a = (((Fl.del F a.toNat).mark (rm R (F.wt a.toNat)) ((F.wt a.toNat)).toNat).pour (E.t.b ((F.wt a.toNat)).toNat).toNat (E.t.j ((F.wt a.toNat)).toNat).toNat (E.t.d ((F.wt a.toNat)).toNat)).add true (F.wt a.toNat) := by unfold P4.step P4.move Fl.come; rw [hc]; simp only [h5, h6, h1, h3, h4, hb, hzz, Bool.not_true, Bool.not_false, cond_true, cond_false]; rfl
                    have hx : wchI E F k a = true := by unfold wchI; rw [hc]; simp only [h5, h6, h1, h3, h4, hb, hzz, Bool.not_true, Bool.not_false, cond_true, cond_false]; rfl
                    simp only [Tr.get, Bool.not_true, Bool.not_false, cond_true, cond_false, hc, hs, hx]
                    exact ⟨rfl, lfI_le rfl rfl rfl (BLe.refl _) rfl rfl rfl rfl ⟨BLe.refl _, trivial⟩⟩
              | true =>
                have hs : P4.step E R F k a = Fl.del F a.toNat := by unfold P4.step P4.move Fl.come; rw [hc]; simp only [h5, h6, h1, h3, h4, Bool.not_true, Bool.not_false, cond_true, cond_false]; rfl
                have hx : wchI E F k a = false := by unfold wchI; rw [hc]; simp only [h5, h6, h1, h3, h4, Bool.not_true, Bool.not_false, cond_true, cond_false]; rfl
                simp only [Tr.get, Bool.not_true, Bool.not_false, cond_true, cond_false, hc, hs, hx]
                exact ⟨rfl, lfI_le rfl rfl rfl (BLe.refl _) rfl rfl rfl rfl trivial⟩
            | true =>
              cases h4 : (k == 4) with
              | false =>
                cases hb : (F.wb a.toNat) with
                | true =>
                  have hs : P4.step E R F k a = Fl.know (F) (F.wt a.toNat).toNat := by unfold P4.step P4.move Fl.come; rw [hc]; simp only [h5, h6, h1, h3, h4, hb, Bool.not_true, Bool.not_false, cond_true, cond_false]; rfl
                  have hx : wchI E F k a = false := by unfold wchI; rw [hc]; simp only [h5, h6, h1, h3, h4, hb, Bool.not_true, Bool.not_false, cond_true, cond_false]; rfl
                  simp only [Tr.get, Bool.not_true, Bool.not_false, cond_true, cond_false, hc, hs, hx]
                  exact ⟨rfl, lfI_le rfl rfl rfl (BLe.refl _) rfl rfl rfl rfl trivial⟩
                | false =>
                  cases hz : (F.was R (rm R (F.wt a.toNat)) (F.wt a.toNat).toNat) with
                  | true =>
                    have hzz : (F).was R (rm R (F.wt a.toNat)) (F.wt a.toNat).toNat = true := hz
                    have hs : P4.step E R F k a = (F).add true (F.wt a.toNat) := by unfold P4.step P4.move Fl.come; rw [hc]; simp only [h5, h6, h1, h3, h4, hb, hzz, Bool.not_true, Bool.not_false, cond_true, cond_false]; rfl
                    have hx : wchI E F k a = true := by unfold wchI; rw [hc]; simp only [h5, h6, h1, h3, h4, hb, hzz, Bool.not_true, Bool.not_false, cond_true, cond_false]; rfl
                    simp only [Tr.get, Bool.not_true, Bool.not_false, cond_true, cond_false, hc, hs, hx]
                    exact ⟨rfl, lfI_le rfl rfl rfl (BLe.refl _) rfl rfl rfl rfl ⟨BLe.refl _, trivial⟩⟩
                  | false =>
                    have hzz : (F).was R (rm R (F.wt a.toNat)) (F.wt a.toNat).toNat = false := hz
                    have hs : P4.step E R F k a = (((F).mark (rm R (F.wt a.toNat)) ((F.wt a.toNat)).toNat).pour (E.t.b ((F.wt a.toNat)).toNat).toNat (E.t.j ((F.wt a.toNat)).toNat).toNat (E.t.d ((F.wt a.toNat)).toNat)).add true (F.wt a.toNat) := by unfold P4.step P4.move Fl.come; rw [hc]; simp only [h5, h6, h1, h3, h4, hb, hzz, Bool.not_true, Bool.not_false, cond_true, cond_false]; rfl
                    have hx : wchI E F k a = true := by unfold wchI; rw [hc]; simp only [h5, h6, h1, h3, h4, hb, hzz, Bool.not_true, Bool.not_false, cond_true, cond_false]; rfl
                    simp only [Tr.get, Bool.not_true, Bool.not_false, cond_true, cond_false, hc, hs, hx]
                    exact ⟨rfl, lfI_le rfl rfl rfl (BLe.refl _) rfl rfl rfl rfl ⟨BLe.refl _, trivial⟩⟩
              | true =>
                have hs : P4.step E R F k a = F := by unfold P4.step P4.move Fl.come; rw [hc]; simp only [h5, h6, h1, h3, h4, Bool.not_true, Bool.not_false, cond_true, cond_false]; rfl
                have hx : wchI E F k a = false := by unfold wchI; rw [hc]; simp only [h5, h6, h1, h3, h4, Bool.not_true, Bool.not_false, cond_true, cond_false]; rfl
                simp only [Tr.get, Bool.not_true, Bool.not_false, cond_true, cond_false, hc, hs, hx]
                exact ⟨rfl, lfI_le rfl rfl rfl (BLe.refl _) rfl rfl rfl rfl trivial⟩
end Go.Proofs.Ytllonddgbjgmdaa.P5
set_option linter.unusedVariables false
set_option linter.unusedSimpArgs false
set_option maxRecDepth 100000
namespace Go.Proofs.Ytllonddgbjgmdaa.P6
open Go.Sx Go.Sx.R0 Go.RowKit Go.Proofs.Ytllonddgbjgmdaa.P1 Go.Proofs.Ytllonddgbjgmdaa.P2 Go.Proofs.Ytllonddgbjgmdaa.P3 Go.Proofs.Ytllonddgbjgmdaa.P4 Go.Proofs.Ytllonddgbjgmdaa.P5

theorem oM_true {M : Nat} (h : M ≤ few) : oM M = true := by
  unfold oM
  rw [Nat.ble_eq_true_of_le (show 0 + 0 ≤ 0 by omega), Nat.ble_eq_true_of_le (show 0 + M ≤ M by omega), Nat.ble_eq_true_of_le (show 0 + M ≤ few by omega)]; rfl
theorem oL_true {a : Int} {n : Nat} (h0 : 0 ≤ a) (h1 : a < (n : Int)) : oL a n = true := by
  unfold oL
  rw [blt_lt (show a.toNat < n by omega)]
  simp [inB, h0, h1, andB]
theorem obW_true {F : Fl} (h : F.w ≤ 10) : obW F = true := by
  have := few_eq
  unfold obW
  rw [Nat.ble_eq_true_of_le (show 0 + F.w ≤ F.w by omega), Nat.ble_eq_true_of_le (show F.w + 1 ≤ few by omega)]; rfl
theorem oAsk_true {E : En} {F : Fl} {a : Int} (t : Bool) (h0 : 0 ≤ a) (hw : F.w ≤ 10) : oAsk E F a t = true := by
  unfold oAsk
  rw [obW_true hw]
  by_cases h : a < (E.M : Int)
  · rw [oL_true h0 h]
    cases F.kn a.toNat <;> cases t <;> cases decide (a ≥ (E.M : Int)) <;> rfl
  · rw [decide_eq_true (show a ≥ (E.M : Int) by omega), Bool.not_true, Go.Sx.R0.imp_f]
theorem o12_true {F : Fl} {a : Int} (h0 : 0 ≤ a) (h9 : a ≤ 999) (h1 : a < (F.w : Int)) (hw : F.w ≤ 10) : oS1 F a = true ∧ oS2 F a = true ∧ oA1 F a = true ∧ oA2 F a = true ∧ oA3 F a = true := by
  have hf := few_eq
  have e := k1_eq h0 h9
  have ew : IntKind.i64.wrap (a + 1) = a + 1 := wrap_i64 (by omega) (by omega)
  unfold oS1 oS2 oA1 oA2 oA3
  rw [e, ew, dw_eq h0 h9 h1]
  refine ⟨?_, ?_, ?_, ?_, ?_⟩
  · rw [decide_eq_true (show 0 ≤ a + 1 by omega), decide_eq_true (show a + 1 ≤ (F.w : Int) by omega), decide_eq_true (Int.le_refl (F.w : Int))]; rfl
  · rw [decide_eq_true h0, decide_eq_true (show a ≤ (F.w : Int) by omega)]; rfl
  · rw [Nat.ble_eq_true_of_le (show 0 + 0 ≤ 0 by omega), Nat.ble_eq_true_of_le (show a.toNat + 1 + 0 + (F.w - (a.toNat + 1)) ≤ F.w by omega), Nat.ble_eq_true_of_le (show 0 + (F.w - (a.toNat + 1)) ≤ few by omega)]; rfl
  · rw [Nat.ble_eq_true_of_le (show 0 + 0 ≤ 0 by omega), Nat.ble_eq_true_of_le (show 0 + 0 + a.toNat ≤ F.w by omega), Nat.ble_eq_true_of_le (show 0 + a.toNat ≤ few by omega)]; rfl
  · rw [Nat.ble_eq_true_of_le (show 0 + (0 + a.toNat) ≤ 0 + a.toNat by omega), Nat.ble_eq_true_of_le (show 0 + (0 + (F.w - (a.toNat + 1))) ≤ 0 + (F.w - (a.toNat + 1)) by omega), Nat.ble_eq_true_of_le (show F.w - 1 ≤ few by omega)]; rfl
theorem qC_true {M : Nat} (h : M ≤ few) (g : Nat → Bool) : qC M (fun i => [.bool (g i)]) = true := pB_true ⟨g, rfl, h⟩
theorem qS_true {E : En} {R : Nat} {m : List Nat} {F : Fl} {x : Int} (hb : ∀ i, i < R → bfx m 9 E.M i = can 9 E.M i) (hc : CmOk E F x) : qS E R m F x = true := pB_true ⟨E, F, rfl, hb, hc⟩
theorem bfxS {R : Nat} (h1 : 1 ≤ R) (h2 : R ≤ 4) (M : Nat) : ∀ i, i < R → bfx (io (9 + R) []) 9 M i = can 9 M i := fun i hi => by
  have hR : R = 1 ∨ R = 2 ∨ R = 3 ∨ R = 4 := by omega
  have hi' : i = 0 ∨ i = 1 ∨ i = 2 ∨ i = 3 := by omega
  rcases hR with rfl | rfl | rfl | rfl <;> rcases hi' with rfl | rfl | rfl | rfl <;> first | rfl | omega
theorem qI_true {E : En} {R : Nat} {m : List Nat} {F : Fl} {x : Int} (hb : ∀ i, i < R → bfx m 8 E.M i = can 8 E.M i) (hc : CmOk E F x) : qI E R m F x = true := pB_true ⟨E, F, rfl, hb, hc⟩
theorem bfxI {R : Nat} (h1 : 1 ≤ R) (h2 : R ≤ 4) (M : Nat) : ∀ i, i < R → bfx (io (8 + R) []) 8 M i = can 8 M i := fun i hi => by
  have hR : R = 1 ∨ R = 2 ∨ R = 3 ∨ R = 4 := by omega
  have hi' : i = 0 ∨ i = 1 ∨ i = 2 ∨ i = 3 := by omega
  rcases hR with rfl | rfl | rfl | rfl <;> rcases hi' with rfl | rfl | rfl | rfl <;> first | rfl | omega
theorem bfx1 {R : Nat} (h1 : 1 ≤ R) (h2 : R ≤ 4) (M : Nat) : ∀ i, i < R → bfx (m1S R) 9 M i = can 9 M i := fun i hi => by
  have hR : R = 1 ∨ R = 2 ∨ R = 3 ∨ R = 4 := by omega
  have hi' : i = 0 ∨ i = 1 ∨ i = 2 ∨ i = 3 := by omega
  rcases hR with rfl | rfl | rfl | rfl <;> rcases hi' with rfl | rfl | rfl | rfl <;> first | rfl | omega
theorem owS_true {E : En} {R : Nat} {F : Fl} {k a : Int} (h1 : 1 ≤ R) (h2 : R ≤ 4) (h : DoOk E R F a) : owS E R F k a = true := by
  obtain ⟨hT, ⟨hN, hw, hwt⟩, h0, h9, hM⟩ := h
  have hf := few_eq
  unfold owS
  rw [oM_true hM, oAsk_true _ h0 hw]
  by_cases hlt : a < (F.w : Int)
  · obtain ⟨e1, e2, e3, e4, e5⟩ := o12_true h0 h9 hlt hw
    obtain ⟨x0, x1⟩ := hwt a.toNat (by omega)
    have q1 : qS E R (m1S R) (fdS F a) (F.wt a.toNat) = true := qS_true (bfx1 h1 h2 _) ⟨x0, x1, hT, by show dwS F a + 1 ≤ few; rw [dw_eq h0 h9 hlt]; omega⟩
    have q2 : qS E R (io (9 + R) []) F (F.wt a.toNat) = true := qS_true (bfxS h1 h2 _) ⟨x0, x1, hT, by omega⟩
    rw [oL_true h0 hlt, e1, e2, e3, e4, e5, q1, q2]
    cases (k == 5) <;> cases (k == 6) <;> cases (k == 1) <;> cases decide (a ≥ (F.w : Int)) <;> cases (k == 3) <;> cases (k == 4) <;> cases F.wb a.toNat <;> cases decide ((F.w : Int) ≥ 10) <;> rfl
  · rw [decide_eq_true (show a ≥ (F.w : Int) by omega), Bool.not_true, Go.Sx.R0.imp_f]
    cases (k == 5) <;> cases (k == 6) <;> cases (k == 1) <;> rfl
theorem owI_true {E : En} {R : Nat} {F : Fl} {k a : Int} (h1 : 1 ≤ R) (h2 : R ≤ 4) (h : DoOk E R F a) : owI E R F k a = true := by
  obtain ⟨hT, ⟨hN, hw, hwt⟩, h0, h9, hM⟩ := h
  have hf := few_eq
  unfold owI
  have c1 : qC E.M F.krow = true := qC_true hM F.kn
  have c2 : qC E.M F.srow = true := qC_true hM F.sv
  rw [oAsk_true _ h0 hw, c1, c2]
  by_cases hlt : a < (F.w : Int)
  · obtain ⟨x0, x1⟩ := hwt a.toNat (by omega)
    have q0 : qD F a = true := pB_true ⟨F, rfl, h0, hlt, by omega, rfl⟩
    have q1 : qI E R (io (8 + R) []) (Fl.del F a.toNat) (F.wt a.toNat) = true := qI_true (bfxI h1 h2 _) ⟨x0, x1, hT, by show F.w - 1 + 1 ≤ few; omega⟩
    have q2 : qI E R (io (8 + R) []) F (F.wt a.toNat) = true := qI_true (bfxI h1 h2 _) ⟨x0, x1, hT, by omega⟩
    rw [oL_true h0 hlt, q0, q1, q2]
    cases (k == 5) <;> cases (k == 6) <;> cases (k == 1) <;> cases decide (a ≥ (F.w : Int)) <;> cases (k == 3) <;> cases (k == 4) <;> cases F.wb a.toNat <;> cases ((F.w : Int) == 10) <;> rfl
  · rw [decide_eq_true (show a ≥ (F.w : Int) by omega), Bool.not_true, Go.Sx.R0.imp_f]
    cases (k == 5) <;> cases (k == 6) <;> cases (k == 1) <;> rfl
theorem KS_ok {R : Nat} (h1 : 1 ≤ R) (h2 : R ≤ 4) : CallerTOk Try.prog (KS R) := addK_ok (comeS h1 h2) extK_ok
theorem KI_ok {R : Nat} (h1 : 1 ≤ R) (h2 : R ≤ 4) : CallerTOk Try.prog (KI R) := addK_ok (comeI h1 h2) (addK_ok clo (addK_ok del extK_ok))
theorem evS {R : Nat} (h1 : 1 ≤ R) (h2 : R ≤ 4) (n M : Nat) (ba : W1.Bt) (t : Ts) (F : Fl) (k a : Int) : (evM Try.prog (KS R) noL 20 8 103 [.ptr 0 0 0, .agg [.int .i64 k, .int .i64 a]] (memS (eS n M ba t) R (can 9 M) F)).map (fun x => (mapTr (normL R (9 + R)) x.1, x.2)) = some (rawDS (eS n M ba t) R F k a, owS (eS n M ba t) R F k a) := by
  have hR : R = 1 ∨ R = 2 ∨ R = 3 ∨ R = 4 := by omega
  rcases hR with rfl | rfl | rfl | rfl
  · exact doS1 n M ba t F k a
  · exact doS2 n M ba t F k a
  · exact doS3 n M ba t F k a
  · exact doS4 n M ba t F k a
def isDS (H : List Blk) (R : Nat) (a : Int) : Prop := ∃ n M c t F, H = memS (eS n M c t) R (bF H 4) F ∧ (∀ i, i < R → bF H 4 i = can 9 M i) ∧ DoOk (eS n M c t) R F a
noncomputable def runDS (R : Nat) : List AV → List Blk → Option Lf := fun args H => match args with
  | [.ptr 0 0 0, .agg [.int .i64 k, .int .i64 a]] => some (outS (toES H) R (toFS H) k a, pB (isDS H R a))
  | _ => none
theorem bks_len {R : Nat} (h1 : 1 ≤ R) (h2 : R ≤ 4) (M : Nat) (F : Fl) : (bks M F R).length = R := by
  have hR : R = 1 ∨ R = 2 ∨ R = 3 ∨ R = 4 := by omega
  rcases hR with rfl | rfl | rfl | rfl <;> rfl
theorem doS {R : Nat} (h1 : 1 ≤ R) (h2 : R ≤ 4) : SumOk Try.prog 103 (selRunR (refX R) (runDS R)) := sum_selN (R := R) (B := 9 + R) sxApart sxMixed fun args H t hr hex => by
  unfold runDS at hr
  split at hr
  case h_2 => cases hr
  rename_i k a
  simp only [Option.some.injEq, Prod.mk.injEq] at hr
  obtain ⟨rfl, hr⟩ := hr
  obtain ⟨n, M, c, t, F, hH, hb, hd⟩ := pB_of hr
  generalize bF H 4 = bf at *
  subst hH
  have he := evS h1 h2 n M c t F k a
  rw [owS_true h1 h2 hd] at he
  obtain ⟨T', hT, hn⟩ := norm_of he
  refine ⟨KS R, noL, 20, 8, T', _, memS (eS n M c t) R (can 9 M) F, ?_, KS_ok h1 h2, noL_all, fun _ _ h => h, hT, ?_, ?_⟩
  · exact HLe.app ⟨BLe.refl _, BLe.refl _, BLe.refl _, BLe.refl _, BLe.rows fun i hi => (hb i hi).symm, BLe.refl _, BLe.refl _, BLe.refl _, BLe.refl _, trivial⟩ (HLe.refl _)
  · show (hdS _ _ _ _ _ _ _ _ ++ bks _ _ _).length = _
    rw [List.length_append, bks_len h1 h2]; rfl
  · rw [hn, toFS_eq h1 h2 _ bf hd.2.1.1]
    exact leS hd
theorem evI {R : Nat} (h1 : 1 ≤ R) (h2 : R ≤ 4) (n M : Nat) (ba : W1.Bt) (t : Ts) (F : Fl) (k a : Int) : (evM Try.prog (KI R) noL 20 8 70 [.ptr 0 0 0, .agg [.int .i64 k, .int .i64 a]] (memI (eS n M ba t) R (can 8 M) F)).map (fun x => (mapTr (normL R (8 + R)) x.1, x.2)) = some (rawDI (eS n M ba t) R F k a, owI (eS n M ba t) R F k a) := by
  have hR : R = 1 ∨ R = 2 ∨ R = 3 ∨ R = 4 := by omega
  rcases hR with rfl | rfl | rfl | rfl
  · exact doI1 n M ba t F k a
  · exact doI2 n M ba t F k a
  · exact doI3 n M ba t F k a
  · exact doI4 n M ba t F k a
def eI (n M : Nat) (c : W1.Bt) (t : Ts) : En := { eS n M c t with fw := true }
def isDI (H : List Blk) (R : Nat) (a : Int) : Prop := ∃ n M c t F, H = memI (eS n M c t) R (bF H 4) F ∧ (∀ i, i < R → bF H 4 i = can 8 M i) ∧ DoOk (eS n M c t) R F a
noncomputable def runDI (R : Nat) : List AV → List Blk → Option Lf := fun args H => match args with
  | [.ptr 0 0 0, .agg [.int .i64 k, .int .i64 a]] => some (outI (toEI H) R (toFI H) k a, pB (isDI H R a))
  | _ => none
theorem doI {R : Nat} (h1 : 1 ≤ R) (h2 : R ≤ 4) : SumOk Try.prog 70 (selRunR (refX R) (runDI R)) := sum_selN (R := R) (B := 8 + R) sxApart sxMixed fun args H t hr hex => by
  unfold runDI at hr
  split at hr
  case h_2 => cases hr
  rename_i k a
  simp only [Option.some.injEq, Prod.mk.injEq] at hr
  obtain ⟨rfl, hr⟩ := hr
  obtain ⟨n, M, c, t, F, hH, hb, hd⟩ := pB_of hr
  generalize bF H 4 = bf at *
  subst hH
  have he := evI h1 h2 n M c t F k a
  rw [owI_true h1 h2 hd] at he
  obtain ⟨T', hT, hn⟩ := norm_of he
  refine ⟨KI R, noL, 20, 8, T', _, memI (eS n M c t) R (can 8 M) F, ?_, KI_ok h1 h2, noL_all, fun _ _ h => h, hT, ?_, ?_⟩
  · exact HLe.app ⟨BLe.refl _, BLe.refl _, BLe.refl _, BLe.refl _, BLe.rows fun i hi => (hb i hi).symm, BLe.refl _, BLe.refl _, BLe.refl _, trivial⟩ (HLe.refl _)
  · show (hdI _ _ _ _ _ _ _ _ ++ bks _ _ _).length = _
    rw [List.length_append, bks_len h1 h2]; rfl
  · rw [hn, toFI_eq h1 h2 _ bf hd.2.1.1]
    exact leI hd
end Go.Proofs.Ytllonddgbjgmdaa.P6
