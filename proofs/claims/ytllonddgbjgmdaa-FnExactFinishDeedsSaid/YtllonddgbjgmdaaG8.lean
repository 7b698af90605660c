/- Texts of one claim, put together. -/
import Derived.Test.YtllonddgbjgmdaaG7
set_option linter.unusedVariables false
set_option linter.unusedSimpArgs false
set_option maxRecDepth 100000
namespace Go.Proofs.Ytllonddgbjgmdaa.P7
open Go.Sx Go.Sx.R0 Go.RowKit Go.Proofs.Ytllonddgbjgmdaa.W1 Go.Proofs.Ytllonddgbjgmdaa.W3 Go.Proofs.Ytllonddgbjgmdaa.W5 Go.Proofs.Ytllonddgbjgmdaa.P1 Go.Proofs.Ytllonddgbjgmdaa.P2 Go.Proofs.Ytllonddgbjgmdaa.P3 Go.Proofs.Ytllonddgbjgmdaa.P4 Go.Proofs.Ytllonddgbjgmdaa.P5 Go.Proofs.Ytllonddgbjgmdaa.P6

/-- the blocks that a value names, and those that these name -/
def autoV (R B : Nat) (v : AV) (H : List Blk) : List Nat :=
  let l := refB H (refB H (refV v (io B [])) (refV v (io B []))) (refB H (refV v (io B [])) (refV v (io B [])))
  rowsB R H l l
def normV (R B : Nat) (x : AV × Option (List Blk)) : AV × Option (List Blk) :=
  match x with
  | (v, some H1) => bif pmB B (autoV R B v H1) then (renV (idxP (autoV R B v H1)) v, some (cutH R (gcH (idxP (autoV R B v H1)) H1 (autoV R B v H1)))) else (.junk, none)
  | (v, none) => (v, none)
section
variable {P : Program} {F : Nat → Prop} {W0 : World} {ρ : List Sx.Place}
theorem BRel.cellR {W : World} {p : Sx.Place} {w : Bool} {l : List AV} {o : Nat} {x : AV} (h : BRel ρ W p (.one w l)) (e : ∀ v, VRel ρ (gt l o) v → VRel ρ x v) : BRel ρ W p (.one w (pt l o x)) := by
  obtain ⟨cs, ty, fz, hb, h1, h2, h3, h4⟩ := h
  refine ⟨cs, ty, fz, hb, h1, by rw [pt_len]; exact h2, h3, fun j y hj => ?_⟩
  rw [pt_get] at hj
  split at hj
  · rename_i hc
    obtain ⟨rfl, hlt⟩ := hc
    cases hj
    obtain ⟨u, hu, hur⟩ := h4 o l[o] (List.getElem?_eq_getElem hlt)
    refine ⟨u, hu, e u ?_⟩
    rw [gt_some (List.getElem?_eq_getElem hlt)]
    exact hur
  · exact h4 j y hj
theorem Cls.cellR {H : List Blk} {W : World} (h : Cls F W0 ρ H W) {b : Nat} {w : Bool} {l : List AV} {o : Nat} {x : AV} (hb : H[b]? = some (.one w l)) (e : ∀ v, VRel ρ (gt l o) v → VRel ρ x v) : Cls F W0 ρ (H.set b (.one w (pt l o x))) W := by
  have get : ∀ (c : Nat) (y : Blk), (H.set b (.one w (pt l o x)))[c]? = some y → (c = b ∧ y = .one w (pt l o x)) ∨ H[c]? = some y := fun c y hy => by
    rw [List.getElem?_set] at hy
    split at hy
    · rename_i hbc
      split at hy
      · simp at hy; exact .inl ⟨hbc.symm, hy.symm⟩
      · cases hy
    · exact .inr hy
  refine ⟨⟨by simp [h.rel.len], fun c y q hy hq => ?_, fun c d y z q r hne hy hz hq hr hw hl => ?_⟩, h.fr, h.low, fun c y q hy hq hw => ?_⟩
  · rcases get c y hy with ⟨rfl, rfl⟩ | hy
    · exact BRel.cellR (h.rel.blk c _ q hb hq) e
    · exact h.rel.blk c y q hy hq
  · rcases get c y hy with ⟨e1, e2⟩ | hy'
    · rcases get d z hz with ⟨e3, e4⟩ | hz'
      · exact absurd (e1.trans e3.symm) hne
      · subst e1 e2
        exact h.rel.apart c d _ z q r hne hb hz' hq hr hw hl
    · rcases get d z hz with ⟨e3, e4⟩ | hz'
      · subst e3 e4
        exact h.rel.apart c d y _ q r hne hy' hb hq hr hw rfl
      · exact h.rel.apart c d y z q r hne hy' hz' hq hr hw hl
  · rcases get c y hy with ⟨rfl, rfl⟩ | hy
    · exact h.free c _ q hb hq hw
    · exact h.free c y q hy hq hw
/-- a slice that is nil, as one of a block without room -/
theorem Cls.nilS {H : List Blk} {W : World} (h : Cls F W0 ρ H W) {b : Nat} {w : Bool} {l : List AV} {o sz : Nat} (hb : H[b]? = some (.one w l)) (e : gt l o = .nils) (f : Nat → List AV) :
    Cls F W0 (ρ ++ [⟨0, 0, sz, 0⟩]) ((H ++ [Blk.rows true 0 sz f]).set b (Blk.one w (pt l o (AV.slc H.length 0 0)))) W := by
  have h1 := h.phantom ⟨0, 0, sz, 0⟩ true sz f rfl rfl
  have hl : b < H.length := (List.getElem?_eq_some_iff.1 hb).1
  refine Cls.cellR h1 (by rw [List.getElem?_append_left hl]; exact hb) fun v hv => ?_
  rw [e] at hv
  simp only [VRel] at hv
  subst hv
  simp only [VRel]
  exact ⟨⟨0, 0, sz, 0⟩, none, by rw [← h.rel.len, List.getElem?_append_right (Nat.le_refl _), Nat.sub_self]; rfl, rfl, by simp, by simp⟩
theorem sum_new (hN : NoApart P) (hm : P.follows .mixedOrders = true) {R B p o sz : Nat} {f : FuncId} {run : List AV → List Blk → Option Lf}
    (h : ∀ args H t, run args H = some (t, true) → ∃ (K : CallerT) (L : LoopOr) (N d : Nat) (T' : Tr (AV × Option (List Blk))) (v : AV) (Hn : List Blk) (w : Bool) (l : List AV) (g : Nat → List AV), CallerTOk P K ∧ LOk P H.length f L ∧ evF P K L N d f args H = some (T', true) ∧ H.length = B ∧
      normV R B T'.get = (v, some Hn) ∧ Hn[p]? = some (.one w l) ∧ gt l o = .nils ∧ t.get = (v, some ((Hn ++ [Blk.rows true 0 sz g]).set p (Blk.one w (pt l o (AV.slc Hn.length 0 0)))))) : SumOk P f run := fun args H t hr F W0 ρ W vals hC hv => by
  obtain ⟨K, L, N, d, T', v, Hn, w, l, g, hK, hL, he, hBl, hn, hp, ho, ht⟩ := h args H t hr
  have hb : ∃ fn, P.funcs[f]? = some fn ∧ fn.body.isSome = true := by
    have he' := he
    unfold evF at he'
    split at he'
    · rename_i fn hf
      exact ⟨fn, hf, evFn_body he'⟩
    · cases he'
  obtain ⟨fn, hf, hb⟩ := hb
  rw [enter_run hN hf hb]
  refine (evF_ok hN hm hK hL he hC hv).mono fun e W' ⟨u, heu, ρ1, hext, hc1, hu, hk⟩ => ⟨u, heu, ?_⟩
  rw [ht]
  generalize T'.get = T at *
  obtain ⟨v', H1'⟩ := T
  cases H1' with
  | none => simp [normV] at hn
  | some H1' =>
    simp only [Sx.hp] at hc1
    unfold normV at hn
    simp only at hn
    cases hpm : pmB B (autoV R B v' H1') with
    | false => rw [hpm] at hn; simp at hn
    | true =>
      rw [hpm] at hn
      simp only [cond_true, Prod.mk.injEq, Option.some.injEq] at hn
      obtain ⟨hn1, hn2⟩ := hn
      generalize autoV R B v' H1' = m' at *
      simp only [pmB, Bool.and_eq_true] at hpm
      have hpre := preN_spec hpm.1
      have hnd' := nodN_spec hpm.2
      have hcg := hc1.gc m' fun k l b x hk hl _ _ => by
        have h1 := (List.getElem?_eq_some_iff.1 hk).1
        exact (List.getElem?_inj h1 hnd').1 (by rw [hk, hl])
      have hc2 := hcg.weak (cutH_le R _)
      rw [hn2] at hc2
      have hu0 : VRel (selP ρ1 m') v u := by rw [← hn1]; exact renV_rel (sel_ren ρ1 m') hu
      have hE1 : Ext ρ (selP ρ1 m') := fun b p hp => by
        have hb : b < B := by have := (List.getElem?_eq_some_iff.1 hp).1; have := hC.rel.len; omega
        rw [selP_get, hpre b hb]
        have := hext b p hp
        simp [List.getD, this]
      have hE2 : Ext (selP ρ1 m') (selP ρ1 m' ++ [⟨0, 0, sz, 0⟩]) := Ext.append _ _
      have hl2 := hc2.rel.len
      have hl3 := (hE1.trans hE2).len
      refine ⟨_, hE1.trans hE2, Cls.nilS hc2 hp ho g, hu0.ext hE2, ?_⟩
      show H.length ≤ ((Hn ++ [Blk.rows true 0 sz g]).set p _).length
      rw [List.length_set, List.length_append, ← hl2, ← hC.rel.len]
      simpa using hl3
end

def F0 : Fl := ⟨fun _ _ => 0, fun _ _ => false, fun _ => false, fun _ => false, 0, fun _ => false, fun _ => 0⟩
def tsOf (c : Bt) (n : Nat) : Ts := ⟨(lc (outL c n)).b, (lc (outL c n)).j, (lc (outL c n)).n⟩
def mOf (c : Bt) (n : Nat) : Nat := (outL c n).length
/-- memory of the floor at first; `x`: the wire -/
def bgS (R n : Nat) (c : Bt) (x : AV) : List Blk :=
  [.one false [.int .i64 (Int.ofNat R), .slc 1 0 n], .rows false n 9 c.row, .one true [.ptr 0 0 0, .slc 3 0 (mOf c n), .slc 4 0 n, .slc 5 0 R, .slc 6 0 (mOf c n), .slc 7 0 (mOf c n), x],
   .rows true (mOf c n) 3 (tsOf c n).row, .rows true n 8 F0.vrow, .rows true R 1 (tab (rowsL (can 8 (mOf c n)) 0 R)), .rows true (mOf c n) 1 F0.krow, .rows true (mOf c n) 1 F0.srow] ++ bks (mOf c n) F0 R
def bgI (R n : Nat) (c : Bt) (x : AV) : List Blk :=
  [.rows false n 9 c.row, .one true [.int .i64 (Int.ofNat R), .slc 0 0 n, .slc 2 0 (mOf c n), .slc 3 0 n, .slc 4 0 R, .slc 5 0 (mOf c n), .slc 6 0 (mOf c n), x],
   .rows true (mOf c n) 3 (tsOf c n).row, .rows true n 8 F0.vrow, .rows true R 1 (tab (rowsL (can 7 (mOf c n)) 0 R)), .rows true (mOf c n) 1 F0.krow, .rows true (mOf c n) 1 F0.srow] ++ bks (mOf c n) F0 R
def rwBS (R : Nat) : Nat → Option (List AV) := fun id => match id with | 2 => some [.ptr 0 0 0, .lit (.int .i64 (Int.ofNat R))] | _ => none
def rwBI (R : Nat) : Nat → Option (List AV) := fun id => match id with | 4 => some [.int .i64 28, .lit (.int .i64 (Int.ofNat R))] | _ => none
def oMk (m : Nat) : Bool := decide (0 ≤ (m : Int)) && decide ((m : Int) ≤ (m : Int)) && decide ((m : Int) ≤ (few : Int))
def oRm (m : Nat) : Nat → Bool
  | 0 => true
  | r + 1 => andB (andB (oMk m) true) (oRm m r)
noncomputable def oR (R : Nat) : Bool := andB (deqA (.int .i64 (Int.ofNat R)) (.int .i64 (Int.ofNat R))) true
def o3 (n m : Nat) : Bool := andB (oMk n) (andB (oMk m) (andB (oMk m) true))
noncomputable def obgS (R n : Nat) (c : Bt) : Bool := andB (okTa (Int.ofNat R) n c) (andB (oR R) (andB (o3 n (mOf c n)) (oRm (mOf c n) R)))
noncomputable def obgI (R n : Nat) (c : Bt) : Bool := andB (andB (okTb (Int.ofNat R) n c) true) (andB (o3 n (mOf c n)) (andB (oR R) (oRm (mOf c n) R)))
theorem bgS1 (n : Nat) (c : Bt) : (evF Try.prog (addK 62 (runTa (Int.ofNat 1) n c) extK) (rwL (rwBS 1) noL) 20 8 102 [.ptr 0 0 0] (bx (Int.ofNat 1) n c)).map (fun x => (mapTr (normV 1 2) x.1, x.2)) = some (.leaf (.ptr 2 0 0, some (bgS 1 n c .nils)), obgS 1 n c) := by kernel_rfl
theorem bgI1 (n : Nat) (c : Bt) : (evF Try.prog (addK 63 (runTb (Int.ofNat 1) n c) extK) (rwL (rwBI 1) noL) 20 8 69 [.agg [.int .i64 (Int.ofNat 1), .slc 0 0 n]] (Bt.ro1 n c)).map (fun x => (mapTr (normV 1 1) x.1, x.2)) = some (.leaf (.ptr 1 0 0, some (bgI 1 n c .nils)), obgI 1 n c) := by kernel_rfl
theorem bgS2 (n : Nat) (c : Bt) : (evF Try.prog (addK 62 (runTa (Int.ofNat 2) n c) extK) (rwL (rwBS 2) noL) 20 8 102 [.ptr 0 0 0] (bx (Int.ofNat 2) n c)).map (fun x => (mapTr (normV 2 2) x.1, x.2)) = some (.leaf (.ptr 2 0 0, some (bgS 2 n c .nils)), obgS 2 n c) := by kernel_rfl
theorem bgI2 (n : Nat) (c : Bt) : (evF Try.prog (addK 63 (runTb (Int.ofNat 2) n c) extK) (rwL (rwBI 2) noL) 20 8 69 [.agg [.int .i64 (Int.ofNat 2), .slc 0 0 n]] (Bt.ro1 n c)).map (fun x => (mapTr (normV 2 1) x.1, x.2)) = some (.leaf (.ptr 1 0 0, some (bgI 2 n c .nils)), obgI 2 n c) := by kernel_rfl
theorem bgS3 (n : Nat) (c : Bt) : (evF Try.prog (addK 62 (runTa (Int.ofNat 3) n c) extK) (rwL (rwBS 3) noL) 20 8 102 [.ptr 0 0 0] (bx (Int.ofNat 3) n c)).map (fun x => (mapTr (normV 3 2) x.1, x.2)) = some (.leaf (.ptr 2 0 0, some (bgS 3 n c .nils)), obgS 3 n c) := by kernel_rfl
theorem bgI3 (n : Nat) (c : Bt) : (evF Try.prog (addK 63 (runTb (Int.ofNat 3) n c) extK) (rwL (rwBI 3) noL) 20 8 69 [.agg [.int .i64 (Int.ofNat 3), .slc 0 0 n]] (Bt.ro1 n c)).map (fun x => (mapTr (normV 3 1) x.1, x.2)) = some (.leaf (.ptr 1 0 0, some (bgI 3 n c .nils)), obgI 3 n c) := by kernel_rfl
theorem bgS4 (n : Nat) (c : Bt) : (evF Try.prog (addK 62 (runTa (Int.ofNat 4) n c) extK) (rwL (rwBS 4) noL) 20 8 102 [.ptr 0 0 0] (bx (Int.ofNat 4) n c)).map (fun x => (mapTr (normV 4 2) x.1, x.2)) = some (.leaf (.ptr 2 0 0, some (bgS 4 n c .nils)), obgS 4 n c) := by kernel_rfl
theorem bgI4 (n : Nat) (c : Bt) : (evF Try.prog (addK 63 (runTb (Int.ofNat 4) n c) extK) (rwL (rwBI 4) noL) 20 8 69 [.agg [.int .i64 (Int.ofNat 4), .slc 0 0 n]] (Bt.ro1 n c)).map (fun x => (mapTr (normV 4 1) x.1, x.2)) = some (.leaf (.ptr 1 0 0, some (bgI 4 n c .nils)), obgI 4 n c) := by kernel_rfl
end Go.Proofs.Ytllonddgbjgmdaa.P7
set_option linter.unusedVariables false
set_option linter.unusedSimpArgs false
set_option maxRecDepth 100000
namespace Go.Proofs.Ytllonddgbjgmdaa.P8
open Go.Sx Go.Sx.R0 Go.RowKit Go.Proofs.Ytllonddgbjgmdaa.W1 Go.Proofs.Ytllonddgbjgmdaa.W3 Go.Proofs.Ytllonddgbjgmdaa.W5 Go.Proofs.Ytllonddgbjgmdaa.W9 Go.Proofs.Ytllonddgbjgmdaa.W10 Go.Proofs.Ytllonddgbjgmdaa.P1 Go.Proofs.Ytllonddgbjgmdaa.P2 Go.Proofs.Ytllonddgbjgmdaa.P3 Go.Proofs.Ytllonddgbjgmdaa.P4 Go.Proofs.Ytllonddgbjgmdaa.P5 Go.Proofs.Ytllonddgbjgmdaa.P6 Go.Proofs.Ytllonddgbjgmdaa.P7

-- contracts of the floor at first
noncomputable def flS (R n : Nat) (c : Bt) : Tr (AV × Option (List Blk)) := .leaf (.ptr 2 0 0, some (bgS R n c (.slc (8 + R) 0 0) ++ [.rows true 0 2 F0.wrow]))
noncomputable def runBS (R n : Nat) (c : Bt) : List AV → List Blk → Option Lf := selRun (runAtH [.ptr 0 0 0] (bx (Int.ofNat R) n c) (flS R n c) (Nat.ble n 1000))
noncomputable def okBS (R n : Nat) (c : Bt) : Bool := andB (deq [.ptr 0 0 0] [.ptr 0 0 0]) (andB (deqH (bx (Int.ofNat R) n c) (bx (Int.ofNat R) n c)) (Nat.ble n 1000))
theorem okBS_true (R : Nat) {n : Nat} (hn : n ≤ 1000) (c : Bt) : okBS R n c = true := by unfold okBS; rw [deq_self, deqH_self, Nat.ble_eq_true_of_le hn]; rfl
noncomputable def flI (R n : Nat) (c : Bt) : Tr (AV × Option (List Blk)) := .leaf (.ptr 1 0 0, some (bgI R n c (.slc (7 + R) 0 0) ++ [.rows true 0 2 F0.wrow]))
noncomputable def runBI (R n : Nat) (c : Bt) : List AV → List Blk → Option Lf := selRun (runAtH [.agg [.int .i64 (Int.ofNat R), .slc 0 0 n]] (Bt.ro1 n c) (flI R n c) (Nat.ble n 1000))
noncomputable def okBI (R n : Nat) (c : Bt) : Bool := andB (deq [.agg [.int .i64 (Int.ofNat R), .slc 0 0 n]] [.agg [.int .i64 (Int.ofNat R), .slc 0 0 n]]) (andB (deqH (Bt.ro1 n c) (Bt.ro1 n c)) (Nat.ble n 1000))
theorem okBI_true (R : Nat) {n : Nat} (hn : n ≤ 1000) (c : Bt) : okBI R n c = true := by unfold okBI; rw [deq_self, deqH_self, Nat.ble_eq_true_of_le hn]; rfl
theorem mOf_le (c : Bt) (n : Nat) : mOf c n ≤ 8 * n := outL_len c n
theorem oMk_true {m : Nat} (h : m ≤ few) : oMk m = true := by
  unfold oMk
  rw [decide_eq_true (show (0 : Int) ≤ m by omega), decide_eq_true (Int.le_refl _), decide_eq_true (show (m : Int) ≤ (few : Int) by omega)]; rfl
theorem oRm_true {m : Nat} (h : m ≤ few) : ∀ R, oRm m R = true
  | 0 => rfl
  | R + 1 => by unfold oRm; rw [oMk_true h, oRm_true h R]; rfl
theorem o3_true {n m : Nat} (hn : n ≤ few) (h : m ≤ few) : o3 n m = true := by unfold o3; rw [oMk_true h, oMk_true hn]; rfl
theorem oR_true (R : Nat) : oR R = true := by unfold oR; rw [deqA_self]; rfl
theorem map_some {α β : Type} {o : Option (α × Bool)} {f : α → β} {T : β} {b : Bool} (h : o.map (fun x => (f x.1, x.2)) = some (T, b)) : ∃ x, o = some (x, b) ∧ f x = T := by
  cases o with
  | none => cases h
  | some y =>
    simp only [Option.map_some, Option.some.injEq, Prod.mk.injEq] at h
    exact ⟨y.1, by rw [← h.2], h.1⟩
theorem bqS1 (n : Nat) (c : Bt) : (bgS 1 n c .nils)[2]? = some (.one true [.ptr 0 0 0, .slc 3 0 (mOf c n), .slc 4 0 n, .slc 5 0 1, .slc 6 0 (mOf c n), .slc 7 0 (mOf c n), .nils]) := by kernel_rfl
theorem brS1 (n : Nat) (c : Bt) : (flS 1 n c).get = (.ptr 2 0 0, some ((bgS 1 n c .nils ++ [Blk.rows true 0 2 F0.wrow]).set 2 (Blk.one true (pt [.ptr 0 0 0, .slc 3 0 (mOf c n), .slc 4 0 n, .slc 5 0 1, .slc 6 0 (mOf c n), .slc 7 0 (mOf c n), .nils] 6 (AV.slc (bgS 1 n c .nils).length 0 0))))) := by kernel_rfl
theorem bsS1 (n : Nat) (c : Bt) : (Tr.leaf (AV.ptr 2 0 0, some (bgS 1 n c .nils))).get = (AV.ptr 2 0 0, some (bgS 1 n c .nils)) := rfl
theorem bqS2 (n : Nat) (c : Bt) : (bgS 2 n c .nils)[2]? = some (.one true [.ptr 0 0 0, .slc 3 0 (mOf c n), .slc 4 0 n, .slc 5 0 2, .slc 6 0 (mOf c n), .slc 7 0 (mOf c n), .nils]) := by kernel_rfl
theorem brS2 (n : Nat) (c : Bt) : (flS 2 n c).get = (.ptr 2 0 0, some ((bgS 2 n c .nils ++ [Blk.rows true 0 2 F0.wrow]).set 2 (Blk.one true (pt [.ptr 0 0 0, .slc 3 0 (mOf c n), .slc 4 0 n, .slc 5 0 2, .slc 6 0 (mOf c n), .slc 7 0 (mOf c n), .nils] 6 (AV.slc (bgS 2 n c .nils).length 0 0))))) := by kernel_rfl
theorem bsS2 (n : Nat) (c : Bt) : (Tr.leaf (AV.ptr 2 0 0, some (bgS 2 n c .nils))).get = (AV.ptr 2 0 0, some (bgS 2 n c .nils)) := rfl
theorem bqS3 (n : Nat) (c : Bt) : (bgS 3 n c .nils)[2]? = some (.one true [.ptr 0 0 0, .slc 3 0 (mOf c n), .slc 4 0 n, .slc 5 0 3, .slc 6 0 (mOf c n), .slc 7 0 (mOf c n), .nils]) := by kernel_rfl
theorem brS3 (n : Nat) (c : Bt) : (flS 3 n c).get = (.ptr 2 0 0, some ((bgS 3 n c .nils ++ [Blk.rows true 0 2 F0.wrow]).set 2 (Blk.one true (pt [.ptr 0 0 0, .slc 3 0 (mOf c n), .slc 4 0 n, .slc 5 0 3, .slc 6 0 (mOf c n), .slc 7 0 (mOf c n), .nils] 6 (AV.slc (bgS 3 n c .nils).length 0 0))))) := by kernel_rfl
theorem bsS3 (n : Nat) (c : Bt) : (Tr.leaf (AV.ptr 2 0 0, some (bgS 3 n c .nils))).get = (AV.ptr 2 0 0, some (bgS 3 n c .nils)) := rfl
theorem bqS4 (n : Nat) (c : Bt) : (bgS 4 n c .nils)[2]? = some (.one true [.ptr 0 0 0, .slc 3 0 (mOf c n), .slc 4 0 n, .slc 5 0 4, .slc 6 0 (mOf c n), .slc 7 0 (mOf c n), .nils]) := by kernel_rfl
theorem brS4 (n : Nat) (c : Bt) : (flS 4 n c).get = (.ptr 2 0 0, some ((bgS 4 n c .nils ++ [Blk.rows true 0 2 F0.wrow]).set 2 (Blk.one true (pt [.ptr 0 0 0, .slc 3 0 (mOf c n), .slc 4 0 n, .slc 5 0 4, .slc 6 0 (mOf c n), .slc 7 0 (mOf c n), .nils] 6 (AV.slc (bgS 4 n c .nils).length 0 0))))) := by kernel_rfl
theorem bsS4 (n : Nat) (c : Bt) : (Tr.leaf (AV.ptr 2 0 0, some (bgS 4 n c .nils))).get = (AV.ptr 2 0 0, some (bgS 4 n c .nils)) := rfl
theorem begS {R : Nat} (h1 : 1 ≤ R) (h2 : R ≤ 4) (n : Nat) (c : Bt) : SumOk Try.prog 102 (runBS R n c) := sel_sum (sum_new (R := R) (B := 2) (p := 2) (o := 6) (sz := 2) sxApart sxMixed fun args H t hr => by
  unfold runAtH at hr
  simp only [Option.some.injEq, Prod.mk.injEq] at hr
  obtain ⟨rfl, hr⟩ := hr
  obtain ⟨e1, hr⟩ := andB_true hr
  obtain ⟨e2, hn⟩ := andB_true hr
  have e1 := deq_eq e1
  have e2 := deqH_eq e2
  subst e1 e2
  have hn := Nat.le_of_ble_eq_true hn
  have hf := few_eq
  have hm := mOf_le c n
  have ho : obgS R n c = true := by unfold obgS; rw [okTa_true (Int.ofNat R) hn c, oR_true, o3_true (by omega) (by omega), oRm_true (by omega)]; rfl
  have hR : R = 1 ∨ R = 2 ∨ R = 3 ∨ R = 4 := by omega
  rcases hR with rfl | rfl | rfl | rfl
  · have he := bgS1 n c
    rw [ho] at he
    obtain ⟨T', hT, hx⟩ := map_some he
    have hg : normV 1 2 T'.get = (.ptr 2 0 0, some (bgS 1 n c .nils)) := (mapTr_get _ T').symm.trans ((congrArg Tr.get hx).trans (bsS1 n c))
    exact ⟨_, _, _, _, T', _, _, _, _, F0.wrow, addK_ok (taS (Int.ofNat 1) n c) extK_ok, rwL_all _ (by decide +kernel) noL_all, hT, rfl, hg, bqS1 n c, rfl, brS1 n c⟩
  · have he := bgS2 n c
    rw [ho] at he
    obtain ⟨T', hT, hx⟩ := map_some he
    have hg : normV 2 2 T'.get = (.ptr 2 0 0, some (bgS 2 n c .nils)) := (mapTr_get _ T').symm.trans ((congrArg Tr.get hx).trans (bsS2 n c))
    exact ⟨_, _, _, _, T', _, _, _, _, F0.wrow, addK_ok (taS (Int.ofNat 2) n c) extK_ok, rwL_all _ (by decide +kernel) noL_all, hT, rfl, hg, bqS2 n c, rfl, brS2 n c⟩
  · have he := bgS3 n c
    rw [ho] at he
    obtain ⟨T', hT, hx⟩ := map_some he
    have hg : normV 3 2 T'.get = (.ptr 2 0 0, some (bgS 3 n c .nils)) := (mapTr_get _ T').symm.trans ((congrArg Tr.get hx).trans (bsS3 n c))
    exact ⟨_, _, _, _, T', _, _, _, _, F0.wrow, addK_ok (taS (Int.ofNat 3) n c) extK_ok, rwL_all _ (by decide +kernel) noL_all, hT, rfl, hg, bqS3 n c, rfl, brS3 n c⟩
  · have he := bgS4 n c
    rw [ho] at he
    obtain ⟨T', hT, hx⟩ := map_some he
    have hg : normV 4 2 T'.get = (.ptr 2 0 0, some (bgS 4 n c .nils)) := (mapTr_get _ T').symm.trans ((congrArg Tr.get hx).trans (bsS4 n c))
    exact ⟨_, _, _, _, T', _, _, _, _, F0.wrow, addK_ok (taS (Int.ofNat 4) n c) extK_ok, rwL_all _ (by decide +kernel) noL_all, hT, rfl, hg, bqS4 n c, rfl, brS4 n c⟩
  )
theorem bqI1 (n : Nat) (c : Bt) : (bgI 1 n c .nils)[1]? = some (.one true [.int .i64 (Int.ofNat 1), .slc 0 0 n, .slc 2 0 (mOf c n), .slc 3 0 n, .slc 4 0 1, .slc 5 0 (mOf c n), .slc 6 0 (mOf c n), .nils]) := by kernel_rfl
theorem brI1 (n : Nat) (c : Bt) : (flI 1 n c).get = (.ptr 1 0 0, some ((bgI 1 n c .nils ++ [Blk.rows true 0 2 F0.wrow]).set 1 (Blk.one true (pt [.int .i64 (Int.ofNat 1), .slc 0 0 n, .slc 2 0 (mOf c n), .slc 3 0 n, .slc 4 0 1, .slc 5 0 (mOf c n), .slc 6 0 (mOf c n), .nils] 7 (AV.slc (bgI 1 n c .nils).length 0 0))))) := by kernel_rfl
theorem bsI1 (n : Nat) (c : Bt) : (Tr.leaf (AV.ptr 1 0 0, some (bgI 1 n c .nils))).get = (AV.ptr 1 0 0, some (bgI 1 n c .nils)) := rfl
theorem bqI2 (n : Nat) (c : Bt) : (bgI 2 n c .nils)[1]? = some (.one true [.int .i64 (Int.ofNat 2), .slc 0 0 n, .slc 2 0 (mOf c n), .slc 3 0 n, .slc 4 0 2, .slc 5 0 (mOf c n), .slc 6 0 (mOf c n), .nils]) := by kernel_rfl
theorem brI2 (n : Nat) (c : Bt) : (flI 2 n c).get = (.ptr 1 0 0, some ((bgI 2 n c .nils ++ [Blk.rows true 0 2 F0.wrow]).set 1 (Blk.one true (pt [.int .i64 (Int.ofNat 2), .slc 0 0 n, .slc 2 0 (mOf c n), .slc 3 0 n, .slc 4 0 2, .slc 5 0 (mOf c n), .slc 6 0 (mOf c n), .nils] 7 (AV.slc (bgI 2 n c .nils).length 0 0))))) := by kernel_rfl
theorem bsI2 (n : Nat) (c : Bt) : (Tr.leaf (AV.ptr 1 0 0, some (bgI 2 n c .nils))).get = (AV.ptr 1 0 0, some (bgI 2 n c .nils)) := rfl
theorem bqI3 (n : Nat) (c : Bt) : (bgI 3 n c .nils)[1]? = some (.one true [.int .i64 (Int.ofNat 3), .slc 0 0 n, .slc 2 0 (mOf c n), .slc 3 0 n, .slc 4 0 3, .slc 5 0 (mOf c n), .slc 6 0 (mOf c n), .nils]) := by kernel_rfl
theorem brI3 (n : Nat) (c : Bt) : (flI 3 n c).get = (.ptr 1 0 0, some ((bgI 3 n c .nils ++ [Blk.rows true 0 2 F0.wrow]).set 1 (Blk.one true (pt [.int .i64 (Int.ofNat 3), .slc 0 0 n, .slc 2 0 (mOf c n), .slc 3 0 n, .slc 4 0 3, .slc 5 0 (mOf c n), .slc 6 0 (mOf c n), .nils] 7 (AV.slc (bgI 3 n c .nils).length 0 0))))) := by kernel_rfl
theorem bsI3 (n : Nat) (c : Bt) : (Tr.leaf (AV.ptr 1 0 0, some (bgI 3 n c .nils))).get = (AV.ptr 1 0 0, some (bgI 3 n c .nils)) := rfl
theorem bqI4 (n : Nat) (c : Bt) : (bgI 4 n c .nils)[1]? = some (.one true [.int .i64 (Int.ofNat 4), .slc 0 0 n, .slc 2 0 (mOf c n), .slc 3 0 n, .slc 4 0 4, .slc 5 0 (mOf c n), .slc 6 0 (mOf c n), .nils]) := by kernel_rfl
theorem brI4 (n : Nat) (c : Bt) : (flI 4 n c).get = (.ptr 1 0 0, some ((bgI 4 n c .nils ++ [Blk.rows true 0 2 F0.wrow]).set 1 (Blk.one true (pt [.int .i64 (Int.ofNat 4), .slc 0 0 n, .slc 2 0 (mOf c n), .slc 3 0 n, .slc 4 0 4, .slc 5 0 (mOf c n), .slc 6 0 (mOf c n), .nils] 7 (AV.slc (bgI 4 n c .nils).length 0 0))))) := by kernel_rfl
theorem bsI4 (n : Nat) (c : Bt) : (Tr.leaf (AV.ptr 1 0 0, some (bgI 4 n c .nils))).get = (AV.ptr 1 0 0, some (bgI 4 n c .nils)) := rfl
theorem begI {R : Nat} (h1 : 1 ≤ R) (h2 : R ≤ 4) (n : Nat) (c : Bt) : SumOk Try.prog 69 (runBI R n c) := sel_sum (sum_new (R := R) (B := 1) (p := 1) (o := 7) (sz := 2) sxApart sxMixed fun args H t hr => by
  unfold runAtH at hr
  simp only [Option.some.injEq, Prod.mk.injEq] at hr
  obtain ⟨rfl, hr⟩ := hr
  obtain ⟨e1, hr⟩ := andB_true hr
  obtain ⟨e2, hn⟩ := andB_true hr
  have e1 := deq_eq e1
  have e2 := deqH_eq e2
  subst e1 e2
  have hn := Nat.le_of_ble_eq_true hn
  have hf := few_eq
  have hm := mOf_le c n
  have ho : obgI R n c = true := by unfold obgI; rw [okTb_true (Int.ofNat R) hn c, oR_true, o3_true (by omega) (by omega), oRm_true (by omega)]; rfl
  have hR : R = 1 ∨ R = 2 ∨ R = 3 ∨ R = 4 := by omega
  rcases hR with rfl | rfl | rfl | rfl
  · have he := bgI1 n c
    rw [ho] at he
    obtain ⟨T', hT, hx⟩ := map_some he
    have hg : normV 1 1 T'.get = (.ptr 1 0 0, some (bgI 1 n c .nils)) := (mapTr_get _ T').symm.trans ((congrArg Tr.get hx).trans (bsI1 n c))
    exact ⟨_, _, _, _, T', _, _, _, _, F0.wrow, addK_ok (tbI (Int.ofNat 1) n c) extK_ok, rwL_all _ (by decide +kernel) noL_all, hT, rfl, hg, bqI1 n c, rfl, brI1 n c⟩
  · have he := bgI2 n c
    rw [ho] at he
    obtain ⟨T', hT, hx⟩ := map_some he
    have hg : normV 2 1 T'.get = (.ptr 1 0 0, some (bgI 2 n c .nils)) := (mapTr_get _ T').symm.trans ((congrArg Tr.get hx).trans (bsI2 n c))
    exact ⟨_, _, _, _, T', _, _, _, _, F0.wrow, addK_ok (tbI (Int.ofNat 2) n c) extK_ok, rwL_all _ (by decide +kernel) noL_all, hT, rfl, hg, bqI2 n c, rfl, brI2 n c⟩
  · have he := bgI3 n c
    rw [ho] at he
    obtain ⟨T', hT, hx⟩ := map_some he
    have hg : normV 3 1 T'.get = (.ptr 1 0 0, some (bgI 3 n c .nils)) := (mapTr_get _ T').symm.trans ((congrArg Tr.get hx).trans (bsI3 n c))
    exact ⟨_, _, _, _, T', _, _, _, _, F0.wrow, addK_ok (tbI (Int.ofNat 3) n c) extK_ok, rwL_all _ (by decide +kernel) noL_all, hT, rfl, hg, bqI3 n c, rfl, brI3 n c⟩
  · have he := bgI4 n c
    rw [ho] at he
    obtain ⟨T', hT, hx⟩ := map_some he
    have hg : normV 4 1 T'.get = (.ptr 1 0 0, some (bgI 4 n c .nils)) := (mapTr_get _ T').symm.trans ((congrArg Tr.get hx).trans (bsI4 n c))
    exact ⟨_, _, _, _, T', _, _, _, _, F0.wrow, addK_ok (tbI (Int.ofNat 4) n c) extK_ok, rwL_all _ (by decide +kernel) noL_all, hT, rfl, hg, bqI4 n c, rfl, brI4 n c⟩
  )
-- the loop
def crow (cs : Nat → Int) (i : Nat) : List AV := [.int .i64 (cs i)]
def cNew (c : Int) (i : Nat) : List AV := bif Nat.blt i 1 then List.take 1 (List.drop (i * 1) [.int .i64 c]) else [.int .i64 0]
def canT (c M R : Nat) : Nat → List AV := tab (rowsL (can c M) 0 R)
/-- memory behind some deeds -/
def pmS (R n m : Nat) (c : Bt) (d : Dd) (k : Nat) (cf kf sf : Nat → List AV) (F : Fl) : List Blk :=
  [.one false [.int .i64 (Int.ofNat R), .slc 2 0 n], .rows false m 2 d.row, .rows false n 9 c.row,
   .one true [.ptr 0 0 0, .slc 5 0 (mOf c n), .slc 6 0 n, .slc 7 0 R, .slc 8 0 (mOf c n), .slc 9 0 (mOf c n), .slc 10 0 F.w], .rows true k 1 cf,
   .rows true (mOf c n) 3 (tsOf c n).row, .rows true n 8 F.vrow, .rows true R 1 (canT 11 (mOf c n) R), .rows true (mOf c n) 1 kf, .rows true (mOf c n) 1 sf, .rows true F.w 2 F.wrow] ++ bks (mOf c n) F R
def slS (m k : Nat) (i : AV) : List AV := [.junk, .slc 1 0 m, .junk, .junk, .junk, .junk, .ptr 3 0 0, .slc 4 0 k, i] ++ junks 20
def PS (R n m : Nat) (c : Bt) (d : Dd) (k : Nat) (cs : Nat → Int) (F : Fl) : St := ⟨slS m k (.int .i64 (Int.ofNat k)), pmS R n m c d k (crow cs) F.krow F.srow F⟩
def PE (R n m : Nat) (c : Bt) (d : Dd) (k : Nat) (cs : Nat → Int) (F : Fl) : St := ⟨[.junk, .junk, .junk, .junk, .junk, .junk, .ptr 3 0 0, .slc 4 0 k] ++ junks 21, pmS R n m c d k (crow cs) F.krow F.srow F⟩
def rl : Nat → Nat → List Nat
  | _, 0 => []
  | i, n + 1 => i :: rl (i + 1) n
def apC (m : List Nat) (k : Nat) (cs : Nat → Int) (x : Int) (i : Nat) : List AV := renVL (idxP m) (catF k (crow cs) (cNew x) i)
def nxS (R n m : Nat) (c : Bt) (d : Dd) (k : Nat) (cf kf sf : Nat → List AV) (F : Fl) : Tr (AX × St) := .leaf (.nrm, ⟨slS m (k + 1) (.int .i64 (IntKind.i64.wrap (Int.ofNat k + 1))), pmS R n m c d (k + 1) cf kf sf F⟩)
def enS (R n : Nat) (c : Bt) : En := eS n (mOf c n) c (tsOf c n)
def m0S (R : Nat) : List Nat := [3, 0, 5, 6, 7, 8, 9, 10, 2] ++ rl 11 R
def bfz (m : List Nat) (c M R : Nat) (i : Nat) : List AV := renVL (idxP m) (canT c M R i)
def FS (R n : Nat) (c : Bt) (F : Fl) : Fl := toFS (memS (enS R n c) R (bfz (m0S R) 11 (mOf c n) R) F)
def tS (R n m : Nat) (c : Bt) (d : Dd) (k : Nat) (cs : Nat → Int) (F : Fl) : Tr (AX × St) :=
  let x := code (enS R n c) F (d.k k) (d.a k)
  let G := P4.step (enS R n c) R (FS R n c F) (d.k k) (d.a k)
  let q := fun l : List Nat => apC ([0, 1, 2, 3] ++ l ++ rl 11 R) k cs x
  .node (decide (Int.ofNat k < (m : Int)))
    (.node (d.k k == 5) (nxS R n m c d k (q [13 + R, 5, 6, 7, 8, 11 + R, 10]) F.krow F.krow F)
    (.node (d.k k == 6) (nxS R n m c d k (q [13 + R, 5, 6, 7, 11 + R, 9, 10]) F.srow F.srow F)
    (.node (wchS (enS R n c) F (d.k k) (d.a k)) (nxS R n m c d k (q [13 + R, 5, 6, 7, 8, 9, 11 + R]) G.krow G.srow G) (nxS R n m c d k (q [12 + R, 5, 6, 7, 8, 9, 10]) G.krow G.srow G))))
    (.leaf (.ext 0, PE R n m c d k cs F))
noncomputable def KP (R n : Nat) (c : Bt) : CallerT := addK 103 (selRunR (refX R) (runDS R)) (addK 102 (runBS R n c) extK)
def obA (k : Nat) : Bool := andB (Nat.ble (0 + k) k && Nat.ble (0 + 1) 1 && Nat.ble (k + 1) few) true
noncomputable def oP (R n m : Nat) (c : Bt) (d : Dd) (k : Nat) (F : Fl) : Bool :=
  andB (impB (decide (Int.ofNat k < (m : Int))) (andB (inB (Int.ofNat k) m) (andB (Nat.blt k m) (andB (pB (isDS (memS (enS R n c) R (bfz (m0S R) 11 (mOf c n) R) F) R (d.a k)))
    (andB (impB (d.k k == 5) (obA k)) (impB (!(d.k k == 5)) (andB (impB (d.k k == 6) (obA k)) (impB (!(d.k k == 6)) (andB (impB (wchS (enS R n c) F (d.k k) (d.a k)) (obA k)) (impB (!wchS (enS R n c) F (d.k k) (d.a k)) (obA k))))))))))) true
/-- the first blocks, those that the slots name, those that these name, and those of the rows that slot s's block names -/
def autoR (R B s : Nat) (st : St) : List Nat :=
  let l := refB st.heap (refB st.heap (refVL st.slots (io B [])) (refVL st.slots (io B []))) (refB st.heap (refVL st.slots (io B [])) (refVL st.slots (io B [])))
  rowsB R st.heap (refB st.heap (refV (gt st.slots s) []) []) l
def gX (R B s : Nat) (ws we : List Nat) : AX → St → Option (List Nat) := fun e st => some (autoR R B s (maskX ws we e st))
/-- one block's rows told by a table -/
def cutA (R : Nat) : Nat → List Blk → List Blk
  | 0, [] => []
  | _ + 1, [] => []
  | 0, x :: t => cutB R x :: t
  | n + 1, x :: t => x :: cutA R n t
theorem cutA_le (R : Nat) : ∀ (n : Nat) (H : List Blk), HLe H (cutA R n H)
  | 0, [] => trivial
  | _ + 1, [] => trivial
  | 0, x :: t => ⟨cutB_le R x, HLe.refl t⟩
  | n + 1, x :: t => ⟨BLe.refl x, cutA_le R n t⟩
def cutX (R n : Nat) (y : AX × St) : AX × St := (y.1, ⟨y.2.slots, cutA R n y.2.heap⟩)
end Go.Proofs.Ytllonddgbjgmdaa.P8
set_option linter.unusedVariables false
set_option linter.unusedSimpArgs false
set_option maxRecDepth 100000
namespace Go.Proofs.Ytllonddgbjgmdaa.P8
open Go.Sx Go.Sx.R0 Go.RowKit Go.Proofs.Ytllonddgbjgmdaa.W1 Go.Proofs.Ytllonddgbjgmdaa.W3 Go.Proofs.Ytllonddgbjgmdaa.W5 Go.Proofs.Ytllonddgbjgmdaa.W9 Go.Proofs.Ytllonddgbjgmdaa.W10 Go.Proofs.Ytllonddgbjgmdaa.P1 Go.Proofs.Ytllonddgbjgmdaa.P2 Go.Proofs.Ytllonddgbjgmdaa.P3 Go.Proofs.Ytllonddgbjgmdaa.P4 Go.Proofs.Ytllonddgbjgmdaa.P5 Go.Proofs.Ytllonddgbjgmdaa.P6 Go.Proofs.Ytllonddgbjgmdaa.P7
theorem stP1 (n m : Nat) (c : Bt) (d : Dd) (k : Nat) (cs : Nat → Int) (F : Fl) : (evC JS Try.prog (callF Try.prog (KP 1 n c) 20 8) noL 20 (loopN Try.prog 67 5) (PS 1 n m c d k cs F) (kH 3 [1, 6, 7, 8] [6, 7] (gX 1 3 6 [1, 6, 7, 8] [6, 7]))).map (fun x => (mapTr (cutX 1 7) x.1, x.2)) = some (tS 1 n m c d k cs F, oP 1 n m c d k F) := by kernel_rfl
theorem stP2 (n m : Nat) (c : Bt) (d : Dd) (k : Nat) (cs : Nat → Int) (F : Fl) : (evC JS Try.prog (callF Try.prog (KP 2 n c) 20 8) noL 20 (loopN Try.prog 67 5) (PS 2 n m c d k cs F) (kH 3 [1, 6, 7, 8] [6, 7] (gX 2 3 6 [1, 6, 7, 8] [6, 7]))).map (fun x => (mapTr (cutX 2 7) x.1, x.2)) = some (tS 2 n m c d k cs F, oP 2 n m c d k F) := by kernel_rfl
theorem stP3 (n m : Nat) (c : Bt) (d : Dd) (k : Nat) (cs : Nat → Int) (F : Fl) : (evC JS Try.prog (callF Try.prog (KP 3 n c) 20 8) noL 20 (loopN Try.prog 67 5) (PS 3 n m c d k cs F) (kH 3 [1, 6, 7, 8] [6, 7] (gX 3 3 6 [1, 6, 7, 8] [6, 7]))).map (fun x => (mapTr (cutX 3 7) x.1, x.2)) = some (tS 3 n m c d k cs F, oP 3 n m c d k F) := by kernel_rfl
theorem stP4 (n m : Nat) (c : Bt) (d : Dd) (k : Nat) (cs : Nat → Int) (F : Fl) : (evC JS Try.prog (callF Try.prog (KP 4 n c) 20 8) noL 20 (loopN Try.prog 67 5) (PS 4 n m c d k cs F) (kH 3 [1, 6, 7, 8] [6, 7] (gX 4 3 6 [1, 6, 7, 8] [6, 7]))).map (fun x => (mapTr (cutX 4 7) x.1, x.2)) = some (tS 4 n m c d k cs F, oP 4 n m c d k F) := by kernel_rfl
end Go.Proofs.Ytllonddgbjgmdaa.P8
set_option linter.unusedVariables false
set_option linter.unusedSimpArgs false
set_option maxRecDepth 100000
namespace Go.Proofs.Ytllonddgbjgmdaa.P9
open Go.Sx Go.Sx.R0 Go.RowKit Go.Proofs.Ytllonddgbjgmdaa.W1 Go.Proofs.Ytllonddgbjgmdaa.W3 Go.Proofs.Ytllonddgbjgmdaa.W5 Go.Proofs.Ytllonddgbjgmdaa.W9 Go.Proofs.Ytllonddgbjgmdaa.W10 Go.Proofs.Ytllonddgbjgmdaa.P1 Go.Proofs.Ytllonddgbjgmdaa.P2 Go.Proofs.Ytllonddgbjgmdaa.P3 Go.Proofs.Ytllonddgbjgmdaa.P4 Go.Proofs.Ytllonddgbjgmdaa.P5 Go.Proofs.Ytllonddgbjgmdaa.P6 Go.Proofs.Ytllonddgbjgmdaa.P7 Go.Proofs.Ytllonddgbjgmdaa.P8

-- the tasks
def tOk (n : Nat) (x : Int × Int × Int) : Prop := 0 ≤ x.1 ∧ x.1 < (n : Int) ∧ 0 ≤ x.2.1 ∧ x.2.1 < 8
theorem addT_ok {n : Nat} {c : Bt} {i j : Nat} {L : TL} (hi : i < n) (hj : j < 8) (h : ∀ x ∈ L, tOk n x) : ∀ x ∈ addT c i j L, tOk n x := by
  unfold addT
  cases decide (c.d j i > 0) with
  | false => exact h
  | true =>
    intro x hx
    simp only [cond_true, List.mem_append, List.mem_singleton] at hx
    rcases hx with hx | rfl
    · exact h x hx
    · exact ⟨by simp only; omega, by simp only; omega, by simp only; omega, by simp only; omega⟩
theorem inn_ok {n : Nat} {c : Bt} {i : Nat} (hi : i < n) : ∀ (f j : Nat) (L : TL), j + f ≤ 8 → (∀ x ∈ L, tOk n x) → ∀ x ∈ inn c i f j L, tOk n x
  | 0, _, L, _, h => h
  | f + 1, j, L, hj, h => inn_ok hi f (j + 1) _ (by omega) (addT_ok hi (by omega) h)
theorem outL_ok {n : Nat} {c : Bt} : ∀ k, k ≤ n → ∀ x ∈ outL c k, tOk n x
  | 0, _ => by intro x hx; cases hx
  | k + 1, h => inn_ok (by omega) 8 0 _ (by omega) (outL_ok k (by omega))
theorem tsOf_ok (R n : Nat) (c : Bt) : TsOk (enS R n c) := fun i hi => by
  have hi : i < (outL c n).length := hi
  have h := outL_ok (c := c) n (Nat.le_refl n) ((outL c n)[i]) (List.getElem_mem _)
  have e : (outL c n).getD i (0, 0, 0) = (outL c n)[i] := by simp [List.getD, hi]
  show 0 ≤ ((outL c n).getD i (0, 0, 0)).1 ∧ ((outL c n).getD i (0, 0, 0)).1 < (n : Int) ∧ 0 ≤ ((outL c n).getD i (0, 0, 0)).2.1 ∧ ((outL c n).getD i (0, 0, 0)).2.1 < 8
  rw [e]
  exact h
-- what stays true of a floor
theorem FlOk.add {E : En} {R : Nat} {F : Fl} (h : FlOk E R F) (hw : F.w < 10) (p : Bool) {x : Int} (h0 : 0 ≤ x) (h1 : x < (E.M : Int)) : FlOk E R (F.add p x) := by
  refine ⟨h.1, by show F.w + 1 ≤ 10; omega, fun i hi => ?_⟩
  show 0 ≤ cond (Nat.blt i F.w) (F.wt i) x ∧ cond (Nat.blt i F.w) (F.wt i) x < (E.M : Int)
  by_cases hlt : i < F.w
  · rw [blt_lt hlt]; exact h.2.2 i hlt
  · rw [blt_ge (by omega)]; exact ⟨h0, h1⟩
theorem FlOk.del {E : En} {R : Nat} {F : Fl} (h : FlOk E R F) (k : Nat) : FlOk E R (Fl.del F k) := by
  refine ⟨h.1, by show F.w - 1 ≤ 10; have := h.2.1; omega, fun i hi => ?_⟩
  have hi : i < F.w - 1 := hi
  show 0 ≤ cond (Nat.blt i k) (F.wt i) (F.wt (i + 1)) ∧ cond (Nat.blt i k) (F.wt i) (F.wt (i + 1)) < (E.M : Int)
  cases Nat.blt i k with
  | true => exact h.2.2 i (by omega)
  | false => exact h.2.2 (i + 1) (by omega)
theorem FlOk.put {E : En} {R : Nat} {F : Fl} (h : FlOk E R F) {r k b j : Nat} {x : Int} (hr : r < R) (hj : j < 8) : FlOk E R ((F.mark r k).pour b j x) := by
  refine ⟨⟨fun s i hs => ?_, fun s i hs => ?_⟩, h.2.1, h.2.2⟩
  · show cond (Nat.beq s j && Nat.beq i b) _ (F.vt s i) = 0
    rw [show Nat.beq s j = false from beq_ne (by omega), Bool.false_and]
    exact h.1.1 s i hs
  · show cond (Nat.beq s r && Nat.beq i k) true (F.bk s i) = false
    rw [show Nat.beq s r = false from beq_ne (by omega), Bool.false_and]
    exact h.1.2 s i hs
theorem FlOk.come {E : En} {R : Nat} {F : Fl} (hT : TsOk E) (h1 : 1 ≤ R) (h : FlOk E R F) {b : Bool} (hw : b = false → F.w < 10) {x : Int} (h0 : 0 ≤ x) (hM : x < (E.M : Int)) : FlOk E R (Fl.come E R F b x) := by
  unfold Fl.come
  cases b with
  | true => exact ⟨h.1, h.2.1, h.2.2⟩
  | false =>
    have hw := hw rfl
    simp only [cond_false]
    cases F.was R (rm R x) x.toNat with
    | true => exact FlOk.add h hw true h0 hM
    | false =>
      obtain ⟨_, _, hj0, hj1⟩ := hT x.toNat (by omega)
      exact FlOk.add (FlOk.put h (rm_lt h1 h0).1 (by omega)) (by exact hw) true h0 hM
theorem FlOk.step {E : En} {R : Nat} {F : Fl} (hT : TsOk E) (h1 : 1 ≤ R) (h : FlOk E R F) (k : Int) {a : Int} (h0 : 0 ≤ a) : FlOk E R (P4.step E R F k a) := by
  unfold P4.step
  cases hc : (code E F k a == 0) with
  | false => exact h
  | true =>
    have hc : code E F k a = 0 := by simpa using hc
    unfold code at hc
    simp only [cond_true]
    cases h5 : (k == 5) with
    | true => exact ⟨h.1, h.2.1, h.2.2⟩
    | false =>
      cases h6 : (k == 6) with
      | true => exact ⟨h.1, h.2.1, h.2.2⟩
      | false =>
        cases h1' : (k == 1) with
        | true =>
          simp only [h5, h6, h1', cond_true, cond_false] at hc ⊢
          cases hM : decide (a ≥ (E.M : Int)) with
          | true => rw [hM] at hc; simp at hc
          | false =>
            cases hk : F.kn a.toNat with
            | true => rw [hM, hk] at hc; simp at hc
            | false =>
              cases hw : decide ((F.w : Int) ≥ 10) with
              | true => rw [hM, hk, hw] at hc; simp at hc
              | false =>
                have hM := of_decide_eq_false hM
                have hw := of_decide_eq_false hw
                exact FlOk.add h (by omega) false h0 (by omega)
        | false =>
          simp only [h5, h6, h1', cond_true, cond_false] at hc ⊢
          cases hA : decide (a ≥ (F.w : Int)) with
          | true => rw [hA] at hc; simp at hc
          | false =>
            have hA := of_decide_eq_false hA
            obtain ⟨x0, x1⟩ := h.2.2 a.toNat (by omega)
            have hw10 := h.2.1
            unfold P4.move
            cases h3 : (k == 3) with
            | false =>
              simp only [cond_false]
              cases (!(k == 4)) with
              | false => exact FlOk.del h _
              | true => exact FlOk.come hT h1 (FlOk.del h _) (fun _ => by show F.w - 1 < 10; omega) x0 x1
            | true =>
              simp only [cond_true]
              cases (!(k == 4)) with
              | false => exact h
              | true =>
                refine FlOk.come hT h1 h (fun hb => ?_) x0 x1
                cases hw : decide ((F.w : Int) ≥ 10) with
                | true =>
                  rw [show decide (a ≥ (F.w : Int)) = false from decide_eq_false hA, h3, hb, hw] at hc
                  simp at hc
                | false =>
                  have hw := of_decide_eq_false hw
                  omega
-- the deeds one behind the other
def sq (E : En) (R : Nat) (d : Dd) : Nat → Fl
  | 0 => F0
  | k + 1 => P4.step E R (sq E R d k) (d.k k) (d.a k)
def sc (E : En) (R : Nat) (d : Dd) (k : Nat) : Int := code E (sq E R d k) (d.k k) (d.a k)
theorem F0_ok (E : En) (R : Nat) : FlOk E R F0 := ⟨⟨fun _ _ _ => rfl, fun _ _ _ => rfl⟩, Nat.zero_le _, fun i hi => absurd hi (Nat.not_lt_zero i)⟩
theorem sq_ok {E : En} {R : Nat} (hT : TsOk E) (h1 : 1 ≤ R) {d : Dd} {m : Nat} (hd : ∀ i, i < m → 0 ≤ d.a i ∧ d.a i ≤ 999) : ∀ k, k ≤ m → FlOk E R (sq E R d k)
  | 0, _ => F0_ok E R
  | k + 1, h => FlOk.step hT h1 (sq_ok hT h1 hd k (by omega)) _ (hd k (by omega)).1
theorem apC_eq (l : List Nat) (cs : Nat → Int) (k i : Nat) (hi : i < k + 1) : crow cs i = apC l k cs (cs k) i := by
  unfold apC catF
  by_cases h : i < k
  · rw [blt_lt h]
    have : i - k = 0 := by omega
    rw [this]; rfl
  · have : i = k := by omega
    subst this
    rw [blt_ge (Nat.le_refl _), Nat.sub_self]; rfl
theorem pmS_le (R n m : Nat) (c : Bt) (d : Dd) (k : Nat) {cf cf' kf sf : Nat → List AV} (F : Fl) (h : ∀ i, i < k → cf' i = cf i) : HLe (pmS R n m c d k cf kf sf F) (pmS R n m c d k cf' kf sf F) :=
  HLe.app ⟨BLe.refl _, BLe.refl _, BLe.refl _, BLe.refl _, BLe.rows fun i hi => h i hi, BLe.refl _, BLe.refl _, BLe.refl _, BLe.refl _, BLe.refl _, BLe.refl _, trivial⟩ (HLe.refl _)
-- the loop
theorem bfz_can {R : Nat} (h1 : 1 ≤ R) (h2 : R ≤ 4) (M : Nat) : ∀ i, i < R → bfz (m0S R) 11 M R i = can 9 M i := fun i hi => by
  have hR : R = 1 ∨ R = 2 ∨ R = 3 ∨ R = 4 := by omega
  have hi' : i = 0 ∨ i = 1 ∨ i = 2 ∨ i = 3 := by omega
  rcases hR with rfl | rfl | rfl | rfl <;> rcases hi' with rfl | rfl | rfl | rfl <;> first | rfl | omega
theorem obA_true {k : Nat} (h : k + 1 ≤ few) : P8.obA k = true := by
  unfold P8.obA
  rw [Nat.ble_eq_true_of_le (show 0 + k ≤ k by omega), Nat.ble_eq_true_of_le (show 0 + 1 ≤ 1 by omega), Nat.ble_eq_true_of_le h]; rfl
theorem oP_true {R n m : Nat} {c : Bt} {d : Dd} {k : Nat} {F : Fl} (h1 : 1 ≤ R) (h2 : R ≤ 4) (hn : n ≤ 1000) (hm : m ≤ few) (hF : FlOk (enS R n c) R F) (hd : ∀ i, i < m → 0 ≤ d.a i ∧ d.a i ≤ 999) (hk : k < m) : oP R n m c d k F = true := by
  have hf := few_eq
  have hM := mOf_le c n
  have hq : pB (isDS (memS (enS R n c) R (bfz (m0S R) 11 (mOf c n) R) F) R (d.a k)) = true := pB_true ⟨n, mOf c n, c, tsOf c n, F, rfl, bfz_can h1 h2 _, tsOf_ok R n c, hF, (hd k hk).1, (hd k hk).2, by show mOf c n ≤ few; omega⟩
  unfold oP
  rw [hq, obA_true (by omega), inB_nat hk, blt_lt hk]
  cases decide (Int.ofNat k < (m : Int)) <;> cases (d.k k == 5) <;> cases (d.k k == 6) <;> cases wchS (enS R n c) F (d.k k) (d.a k) <;> rfl
def LE (R n m : Nat) (c : Bt) (d : Dd) (k : Nat) : St := PS R n m c d k (sc (enS R n c) R d) (sq (enS R n c) R d k)
theorem tS_le {R n m : Nat} {c : Bt} {d : Dd} {k : Nat} (h1 : 1 ≤ R) (h2 : R ≤ 4) (hm : m ≤ few) (hF : FlOk (enS R n c) R (sq (enS R n c) R d k)) (hk : k < m) : XLe (tS R n m c d k (sc (enS R n c) R d) (sq (enS R n c) R d k)).get (.nrm, LE R n m c d (k + 1)) := by
  have hf := few_eq
  have hw : IntKind.i64.wrap (Int.ofNat k + 1) = Int.ofNat (k + 1) := wrap_i64 (n := Int.ofNat k + 1) (by simp only [Int.ofNat_eq_natCast]; omega) (by simp only [Int.ofNat_eq_natCast]; omega)
  have hsl : (slS m (k + 1) (.int .i64 (IntKind.i64.wrap (Int.ofNat k + 1)))).map delit = (slS m (k + 1) (.int .i64 (Int.ofNat (k + 1)))).map delit := by rw [hw]
  have hFS : FS R n c (sq (enS R n c) R d k) = sq (enS R n c) R d k := toFS_eq h1 h2 _ _ hF.1
  unfold tS
  rw [hFS, ofNat_lt, decide_eq_true hk]
  unfold LE PS
  show XLe (Tr.get (.node (d.k k == 5) _ (.node (d.k k == 6) _ (.node _ _ _)))) _
  cases h5 : (d.k k == 5) with
  | true =>
    have hs : sq (enS R n c) R d (k + 1) = { sq (enS R n c) R d k with sv := (sq (enS R n c) R d k).kn } := by
      show P4.step _ _ _ _ _ = _
      unfold P4.step code
      rw [h5]; rfl
    rw [hs]
    refine ⟨rfl, hsl, ?_⟩
    exact pmS_le R n m c d (k + 1) (kf := Fl.krow (sq (enS R n c) R d k)) (sf := Fl.krow (sq (enS R n c) R d k)) (sq (enS R n c) R d k) (fun i hi => apC_eq _ (sc (enS R n c) R d) k i hi)
  | false =>
    cases h6 : (d.k k == 6) with
    | true =>
      have hs : sq (enS R n c) R d (k + 1) = { sq (enS R n c) R d k with kn := (sq (enS R n c) R d k).sv } := by
        show P4.step _ _ _ _ _ = _
        unfold P4.step code
        rw [h5, h6]; rfl
      rw [hs]
      refine ⟨rfl, hsl, ?_⟩
      exact pmS_le R n m c d (k + 1) (kf := Fl.srow (sq (enS R n c) R d k)) (sf := Fl.srow (sq (enS R n c) R d k)) (sq (enS R n c) R d k) (fun i hi => apC_eq _ (sc (enS R n c) R d) k i hi)
    | false =>
      cases wchS (enS R n c) (sq (enS R n c) R d k) (d.k k) (d.a k) with
      | true => exact ⟨rfl, hsl, pmS_le R n m c d (k + 1) (sq (enS R n c) R d (k + 1)) (fun i hi => apC_eq _ (sc (enS R n c) R d) k i hi)⟩
      | false => exact ⟨rfl, hsl, pmS_le R n m c d (k + 1) (sq (enS R n c) R d (k + 1)) (fun i hi => apC_eq _ (sc (enS R n c) R d) k i hi)⟩
theorem KP_ok {R : Nat} (h1 : 1 ≤ R) (h2 : R ≤ 4) (n : Nat) (c : Bt) : CallerTOk Try.prog (KP R n c) := addK_ok (doS h1 h2) (addK_ok (begS h1 h2 n c) extK_ok)
theorem stP {R : Nat} (h1 : 1 ≤ R) (h2 : R ≤ 4) (n m : Nat) (c : Bt) (d : Dd) (k : Nat) (cs : Nat → Int) (F : Fl) : (evC JS Try.prog (callF Try.prog (KP R n c) 20 8) noL 20 (loopN Try.prog 67 5) (PS R n m c d k cs F) (kH 3 [1, 6, 7, 8] [6, 7] (gX R 3 6 [1, 6, 7, 8] [6, 7]))).map (fun x => (mapTr (cutX R 7) x.1, x.2)) = some (tS R n m c d k cs F, oP R n m c d k F) := by
  have hR : R = 1 ∨ R = 2 ∨ R = 3 ∨ R = 4 := by omega
  rcases hR with rfl | rfl | rfl | rfl
  · exact stP1 n m c d k cs F
  · exact stP2 n m c d k cs F
  · exact stP3 n m c d k cs F
  · exact stP4 n m c d k cs F
theorem HLe.tr : ∀ {x y z : List Blk}, HLe x y → HLe y z → HLe x z
  | [], [], [], _, _ => trivial
  | _ :: _, _ :: _, _ :: _, ⟨h1, h2⟩, ⟨k1, k2⟩ => ⟨BLe.tr h1 k1, HLe.tr h2 k2⟩
theorem XLe.tr {x y z : AX × St} (h : XLe x y) (k : XLe y z) : XLe x z := ⟨h.1.trans k.1, h.2.1.trans k.2.1, HLe.tr h.2.2 k.2.2⟩
theorem cutX_le (R n : Nat) (t : Tr (AX × St)) {T : Tr (AX × St)} (h : mapTr (cutX R n) t = T) : XLe t.get T.get := by
  subst h
  rw [mapTr_get]
  exact ⟨rfl, rfl, cutA_le R n _⟩
theorem loopP {R n m : Nat} {c : Bt} {d : Dd} (h1 : 1 ≤ R) (h2 : R ≤ 4) (hn : n ≤ 1000) (hm : m ≤ few) (hd : ∀ i, i < m → 0 ≤ d.a i ∧ d.a i ≤ 999) : LoopOk Try.prog 3 (loopN Try.prog 67 5) (LE R n m c d 0) (.leaf (.ext 0, PE R n m c d m (sc (enS R n c) R d) (sq (enS R n c) R d m))) :=
  loop_allH (callF_ok sxApart sxMixed (KP_ok h1 h2 n c) (N := 20) 8) sxMixed (N := 20) (L := noL) (fun _ _ _ _ h => by cases h) [1, 6, 7, 8] [6, 7] (gX R 3 6 [1, 6, 7, 8] [6, 7]) (fun k => LE R n m c d k) m _ (fun h => by cases h)
    (fun k hk => by
      have hF := sq_ok (tsOf_ok R n c) h1 hd k (by omega)
      have he := stP h1 h2 n m c d k (sc (enS R n c) R d) (sq (enS R n c) R d k)
      rw [oP_true h1 h2 hn hm hF hd hk] at he
      obtain ⟨t, ht, hx⟩ := map_some he
      exact ⟨t, ht, XLe.tr (cutX_le _ _ _ hx) (tS_le h1 h2 hm hF hk)⟩)
    (by
      have he := stP h1 h2 n m c d m (sc (enS R n c) R d) (sq (enS R n c) R d m)
      have hz : oP R n m c d m (sq (enS R n c) R d m) = true := by
        unfold oP; rw [ofNat_lt, decide_eq_false (Nat.lt_irrefl m), imp_ff]
      rw [hz] at he
      obtain ⟨t, ht, hx⟩ := map_some he
      refine ⟨t, ht, XLe.tr (cutX_le _ _ _ hx) ?_⟩
      unfold tS
      rw [ofNat_lt, decide_eq_false (Nat.lt_irrefl m)]
      exact XLe.refl _)
end Go.Proofs.Ytllonddgbjgmdaa.P9
set_option linter.unusedVariables false
set_option linter.unusedSimpArgs false
set_option maxRecDepth 100000
namespace Go.Proofs.Ytllonddgbjgmdaa.P10
open Go.Sx Go.Sx.R0 Go.RowKit Go.Proofs.Ytllonddgbjgmdaa.W1 Go.Proofs.Ytllonddgbjgmdaa.W3 Go.Proofs.Ytllonddgbjgmdaa.W5 Go.Proofs.Ytllonddgbjgmdaa.W9 Go.Proofs.Ytllonddgbjgmdaa.W10 Go.Proofs.Ytllonddgbjgmdaa.P1 Go.Proofs.Ytllonddgbjgmdaa.P2 Go.Proofs.Ytllonddgbjgmdaa.P3 Go.Proofs.Ytllonddgbjgmdaa.P4 Go.Proofs.Ytllonddgbjgmdaa.P5 Go.Proofs.Ytllonddgbjgmdaa.P6 Go.Proofs.Ytllonddgbjgmdaa.P7 Go.Proofs.Ytllonddgbjgmdaa.P8 Go.Proofs.Ytllonddgbjgmdaa.P9

/-- a loop's first state, numbered anew, the rows of one block told by a table -/
noncomputable def loopGc (id : Nat) (ws : List Nat) (R B : Nat) (m : St → List Nat) (q : Nat) (s0 : St) (t : Tr (AX × St)) (L : LoopOr) : LoopOr := fun body st => bif Nat.beq (loopId body) id then
  some (t, andB (pmB B (m (maskSt ws st))) (deqS (cutX R q (.nrm, gcSt (m (maskSt ws st)) (maskSt ws st))).2 s0)) else L body st
theorem LoopOk.gcs {B : Nat} {body : Code} {st : St} {t : Tr (AX × St)} {m : List Nat} (hm : pmB B m = true) (h : LoopOk Try.prog B body (gcSt m st) t) : LoopOk Try.prog B body st t := fun F W0 ρ a W hr => by
  obtain ⟨h1, h2⟩ := hr.gc hm
  refine wp_mono (h F W0 _ a W h2) ?_
  rintro ex a' W' ⟨ρ', e1, e2, e3⟩
  exact ⟨ρ', e1, h1.trans e2, e3⟩
theorem loopGc_all {B : Nat} {f : FuncId} {id : Nat} {ws : List Nat} {R : Nat} {m : St → List Nat} {q : Nat} {s0 : St} {t : Tr (AX × St)} {L : LoopOr} (hn : (loopIds Try.prog f).Nodup) (h : LoopOk Try.prog B (loopN Try.prog f id) s0 t) (hL : LOk Try.prog B f L) : LOk Try.prog B f (loopGc id ws R B m q s0 t L) := fun fn c hf hc body st l hin hl => by
  unfold loopGc at hl
  cases hb : Nat.beq (loopId body) id with
  | false => rw [hb] at hl; exact hL fn c hf hc body st l hin hl
  | true =>
    rw [hb] at hl
    simp only [cond_true, Option.some.injEq, Prod.mk.injEq] at hl
    obtain ⟨rfl, he⟩ := hl
    obtain ⟨hp, he⟩ := andB_true he
    have he' := deqS_eq he
    rw [← he'] at h
    have hid := Nat.eq_of_beq_eq_true hb
    have hbo : bodyOf Try.prog f = c := by unfold bodyOf; rw [hf]; simp only; rw [hc]
    have hm := hin.mem
    have e : loopN Try.prog f id = body := by
      unfold loopN
      unfold loopIds at hn
      rw [hbo] at hn ⊢
      rw [← hid]
      exact find_nodup _ _ hm hn
    rw [e] at h
    exact LoopOk.masked (LoopOk.gcs hp (LoopOk.from h ⟨rfl, cutA_le R q _⟩))
def zf (i : Nat) : List AV := bif Nat.blt i 0 then List.take 1 (List.drop (i * 1) ([] : List AV)) else [.int .i64 0]
def LB (R n m : Nat) (c : Bt) (d : Dd) : St := ⟨slS m 0 (.int .i64 0), pmS R n m c d 0 zf F0.krow F0.srow F0⟩
theorem loopB {R n m : Nat} {c : Bt} {d : Dd} (h1 : 1 ≤ R) (h2 : R ≤ 4) (hn : n ≤ 1000) (hm : m ≤ few) (hd : ∀ i, i < m → 0 ≤ d.a i ∧ d.a i ≤ 999) : LoopOk Try.prog 3 (loopN Try.prog 67 5) (LB R n m c d) (.leaf (.ext 0, PE R n m c d m (sc (enS R n c) R d) (sq (enS R n c) R d m))) :=
  (loopP h1 h2 hn hm hd).from ⟨rfl, pmS_le R n m c d 0 F0 (fun i hi => absurd hi (Nat.not_lt_zero i))⟩
noncomputable def LP (R n m : Nat) (c : Bt) (d : Dd) (t : Tr (AX × St)) : LoopOr := loopGc 5 [1, 6, 7, 8] R 3 (autoR R 3 6) 7 (LB R n m c d) t noL
def hP (R n m : Nat) (c : Bt) (d : Dd) : List Blk := [.one false [.int .i64 (Int.ofNat R), .slc 2 0 n], .rows false m 2 d.row, .rows false n 9 c.row]
def rP (R n m : Nat) (c : Bt) (d : Dd) (C : Nat → Int) (F : Fl) : Tr (AV × Option (List Blk)) := .leaf (.tup [.ptr 3 0 0, .slc 4 0 m], some (pmS R n m c d m (crow C) F.krow F.srow F))
noncomputable def oPl (R n m : Nat) (c : Bt) (d : Dd) : Bool := andB (okBS R n c) (andB (deqS (LB R n m c d) (LB R n m c d)) true)
theorem pl1 (n m : Nat) (c : Bt) (d : Dd) (C : Nat → Int) (F : Fl) : evF Try.prog (KP 1 n c) (LP 1 n m c d (.leaf (.ext 0, PE 1 n m c d m C F))) 20 8 67 [.ptr 0 0 0, .slc 1 0 m] (hP 1 n m c d) = some (rP 1 n m c d C F, oPl 1 n m c d) := by kernel_rfl
theorem pl2 (n m : Nat) (c : Bt) (d : Dd) (C : Nat → Int) (F : Fl) : evF Try.prog (KP 2 n c) (LP 2 n m c d (.leaf (.ext 0, PE 2 n m c d m C F))) 20 8 67 [.ptr 0 0 0, .slc 1 0 m] (hP 2 n m c d) = some (rP 2 n m c d C F, oPl 2 n m c d) := by kernel_rfl
theorem pl3 (n m : Nat) (c : Bt) (d : Dd) (C : Nat → Int) (F : Fl) : evF Try.prog (KP 3 n c) (LP 3 n m c d (.leaf (.ext 0, PE 3 n m c d m C F))) 20 8 67 [.ptr 0 0 0, .slc 1 0 m] (hP 3 n m c d) = some (rP 3 n m c d C F, oPl 3 n m c d) := by kernel_rfl
theorem pl4 (n m : Nat) (c : Bt) (d : Dd) (C : Nat → Int) (F : Fl) : evF Try.prog (KP 4 n c) (LP 4 n m c d (.leaf (.ext 0, PE 4 n m c d m C F))) 20 8 67 [.ptr 0 0 0, .slc 1 0 m] (hP 4 n m c d) = some (rP 4 n m c d C F, oPl 4 n m c d) := by kernel_rfl
theorem oPl_true (R : Nat) {n : Nat} (hn : n ≤ 1000) (m : Nat) (c : Bt) (d : Dd) : oPl R n m c d = true := by unfold oPl; rw [okBS_true R hn, deqS_self]; rfl
def okD (m : Nat) (d : Dd) : Prop := m ≤ 1000 ∧ ∀ i, i < m → 0 ≤ d.a i ∧ d.a i ≤ 999
noncomputable def runPS (R n m : Nat) (c : Bt) (d : Dd) : List AV → List Blk → Option Lf := selRun (runAtH [.ptr 0 0 0, .slc 1 0 m] (hP R n m c d) (rP R n m c d (sc (enS R n c) R d) (sq (enS R n c) R d m)) (Nat.ble n 1000 && pB (okD m d)))
noncomputable def okPS (R n m : Nat) (c : Bt) (d : Dd) : Bool := andB (deq [.ptr 0 0 0, .slc 1 0 m] [.ptr 0 0 0, .slc 1 0 m]) (andB (deqH (hP R n m c d) (hP R n m c d)) (Nat.ble n 1000 && pB (okD m d)))
theorem okPS_true (R : Nat) {n m : Nat} (hn : n ≤ 1000) (c : Bt) {d : Dd} (hd : okD m d) : okPS R n m c d = true := by unfold okPS; rw [deq_self, deqH_self, Nat.ble_eq_true_of_le hn, pB_true hd]; rfl
theorem playS {R : Nat} (h1 : 1 ≤ R) (h2 : R ≤ 4) (n m : Nat) (c : Bt) (d : Dd) : SumOk Try.prog 67 (runPS R n m c d) := sum_atH sxApart sxMixed (KP_ok h1 h2 n c) (LP R n m c d (.leaf (.ext 0, PE R n m c d m (sc (enS R n c) R d) (sq (enS R n c) R d m)))) (N := 20) (d := 8) fun hg => by
  simp only [Bool.and_eq_true] at hg
  have hn := Nat.le_of_ble_eq_true hg.1
  have hd := pB_of hg.2
  have hf := few_eq
  have hm := hd.1
  refine ⟨loopGc_all (B := 3) (by decide +kernel) (loopB h1 h2 hn (by omega) hd.2) noL_all, rP R n m c d (sc (enS R n c) R d) (sq (enS R n c) R d m), ?_, LLe.refl _⟩
  rw [← oPl_true R hn m c d]
  have hR : R = 1 ∨ R = 2 ∨ R = 3 ∨ R = 4 := by omega
  rcases hR with rfl | rfl | rfl | rfl
  · exact pl1 n m c d _ _
  · exact pl2 n m c d _ _
  · exact pl3 n m c d _ _
  · exact pl4 n m c d _ _
end Go.Proofs.Ytllonddgbjgmdaa.P10
