/- Texts of one claim, put together. -/
import Derived.Test.YtllonddgbjgmdaaSxSelM
import Derived.Test.YtllonddgbjgmdaaG2
set_option linter.unusedSimpArgs false
set_option linter.unusedVariables false
namespace Go.Sx
open Go.RowKit
/-- the same, the part of memory being named by a function -/
def selRunR (ref : List AV → List Blk → List Nat) (run : List AV → List Blk → Option Lf) : List AV → List Blk → Option Lf := fun args H =>
  bif ltN (ref args H) (lenB H) && nodN (ref args H) then (match run (renVL (idxP (ref args H)) args) (gcH (idxP (ref args H)) H (ref args H)) with
  | some (t, o) => bif okTr (ref args H) (gcH (idxP (ref args H)) H (ref args H)) t then some (mapTr (fwdM (ref args H) H) t, o) else none
  | none => none) else none
def rowsN (f : Nat → List AV) : Nat → Nat → List Nat → List Nat
  | _, 0, acc => acc
  | i, n + 1, acc => rowsN f (i + 1) n (refVL (f i) acc)
/-- the blocks that the first rows of blocks of one cell name -/
def rowsB (R : Nat) (H : List Blk) : List Nat → List Nat → List Nat
  | [], acc => acc
  | b :: t, acc => rowsB R H t (match blkOf H b with | some (.rows _ _ 1 f) => rowsN f 0 R acc | _ => acc)
def refX (R : Nat) (args : List AV) (H : List Blk) : List Nat := rowsB R H (refC args H) (refC args H)
/-- the first blocks, those that the slots name, those that these name, and those of rows -/
def autoX (R B : Nat) (st : St) : List Nat :=
  let l := refB st.heap (refB st.heap (refVL st.slots (iotaX B [])) (refVL st.slots (iotaX B []))) (refB st.heap (refVL st.slots (iotaX B [])) (refVL st.slots (iotaX B [])))
  rowsB R st.heap l l
where iotaX : Nat → List Nat → List Nat
  | 0, l => l
  | n + 1, l => iotaX n (n :: l)

section
variable {P : Program}
/-- a summary of a call that writes, at a small memory, is one at any larger memory -/
theorem sum_selR {ref : List AV → List Blk → List Nat} (hN : NoApart P) (hm : P.follows .mixedOrders = true) {f : FuncId} {run : List AV → List Blk → Option Lf}
    (h : ∀ args H t, run args H = some (t, true) → (∃ (ρ : List Place) (vals : List Value), VRels ρ args vals) → ∃ (K : CallerT) (L : LoopOr) (N d : Nat) (T' : Tr (AV × Option (List Blk))) (args' : List AV) (H2 : List Blk), HLe H H2 ∧ CallerTOk P K ∧
      (∀ fn c, P.funcs[f]? = some fn → fn.body = some c → ∀ body st l, LoopIn body c → L body st = some (l, true) → LoopOk P H2.length body st l) ∧ (∀ (ρ : List Place) (vals : List Value), VRels ρ args vals → VRels ρ args' vals) ∧ evM P K L N d f args' H2 = some (T', true) ∧ LLe T'.get t.get) : SumOk P f (selRunR ref run) := by
  intro args H t hr F W0 ρ W vals hC hv
  unfold selRunR at hr
  obtain ⟨hlt, hr⟩ := cond_some hr
  simp only [Bool.and_eq_true] at hlt
  obtain ⟨hlt, hnd⟩ := hlt
  have hlt := ltN_spec hlt
  have hnd := nodN_spec hnd
  rw [lenB_eq] at hlt
  split at hr
  · rename_i t0 o h0
    obtain ⟨hfr, hr⟩ := cond_some hr
    simp only [Option.some.injEq, Prod.mk.injEq] at hr
    obtain ⟨rfl, rfl⟩ := hr
    obtain ⟨K, L, N, d, T', args', H2, hH2, hK, hL, hargs, he, hle, hle2⟩ := h _ _ t0 h0 ⟨_, _, renVL_rel (sel_ren ρ (ref args H)) hv⟩
    have hb : ∃ fn, P.funcs[f]? = some fn ∧ fn.body.isSome = true := by
      unfold evM at he
      split at he
      · rename_i fn hf
        exact ⟨fn, hf, evFnM_body he⟩
      · cases he
    obtain ⟨fn, hf, hb⟩ := hb
    rw [enter_run hN hf hb, mapTr_get]
    generalize hmm : ref args H = m at *
    have hCm : Cls (Fm ρ H m W) W ρ H W → Cls (Fm ρ H m W) W (selP ρ m) (gcH (idxP m) H m) W := fun hc => hc.gc m fun k l b x hk hl _ _ => by
      have h1 := (List.getElem?_eq_some_iff.1 hk).1
      exact (List.getElem?_inj h1 hnd).1 (by rw [hk, hl])
    -- writable blocks outside the part: told as read only
    have hC0 : Cls (Fm ρ H m W) W (selP ρ m) (gcH (idxP m) H m) W := by
      have hg := hC.gc m fun k l b x hk hl _ _ => by
        have h1 := (List.getElem?_eq_some_iff.1 hk).1
        exact (List.getElem?_inj h1 hnd).1 (by rw [hk, hl])
      refine ⟨hg.rel, ⟨rfl, rfl, rfl, Nat.le_refl _, fun _ _ => rfl⟩, fun k hk => hk.1, fun j y q hy hq hw hc hF => ?_⟩
      rw [gcH_get, Option.map_eq_some_iff] at hy
      obtain ⟨b, hb', hy⟩ := hy
      rw [selP_get, hb'] at hq
      simp only [Option.map_some, Option.some.injEq] at hq
      cases hx : H[b]? with
      | none => rw [hx] at hy; subst hy; cases hw
      | some x =>
        rw [hx] at hy
        subst hy
        rw [renB_wr] at hw
        have hlb : b < ρ.length := by rw [hC.rel.len]; exact (List.getElem?_eq_some_iff.1 hx).1
        have hp : ρ[b]? = some q := by
          rw [List.getElem?_eq_getElem hlb]
          simp [List.getD, List.getElem?_eq_getElem hlb] at hq
          rw [hq]
        exact hF.2 b x q (List.mem_of_getElem? hb') hx hp hw hc rfl
    refine (evM_ok hN hm hK hL he (hC0.weak hH2) (hargs _ _ (renVL_rel (sel_ren ρ m) hv))).mono fun e W' ⟨u, heu, ρ1, hext, hc1, hu, _⟩ => ⟨u, heu, ?_⟩
    have hu0 : VRel ρ1 t0.get.1 u := delitD_iff.1 (by rw [← hle]; exact delitD_iff.2 hu)
    obtain ⟨v, H1, hget, hk, hfr'⟩ := okTr_get m _ t0 hfr
    rw [hget] at hle2 hu0 ⊢
    generalize T'.get = T at *
    obtain ⟨v', H1'⟩ := T
    cases H1' with
    | none => exact hle2.elim
    | some H1' =>
      simp only [Sx.hp] at hc1
      have hc2 := hc1.weak hle2
      rw [dropN_eq] at hfr'
      obtain ⟨hren, hcl⟩ := hC.growM hnd hlt hc2 hext hk hfr'
      refine ⟨ρ ++ ρ1.drop m.length, fun b p hp => by rw [List.getElem?_append_left (List.getElem?_eq_some_iff.1 hp).1]; exact hp, ?_, ?_, ?_⟩
      · simp only [Sx.hp, fwdM, appH_eq, dropN_eq, lenB_eq]; exact hcl
      · simp only [fwdM, lenB_eq]; exact renV_rel hren hu0
      · simp only [Sx.hp, fwdM, appH_eq]; simp [Keep, putBk_len]
  · cases hr
end
end Go.Sx
set_option linter.unusedVariables false
set_option linter.unusedSimpArgs false
set_option maxRecDepth 100000
namespace Go.Proofs.Ytllonddgbjgmdaa.P1
open Go.Sx Go.Sx.R0 Go.RowKit Go.Proofs.Ytllonddgbjgmdaa.W1 Go.Proofs.Ytllonddgbjgmdaa.W5

/-- a floor -/
structure Fl where
  vt : Nat → Nat → Int
  bk : Nat → Nat → Bool
  kn : Nat → Bool
  sv : Nat → Bool
  w : Nat
  wb : Nat → Bool
  wt : Nat → Int
/-- the tasks -/
structure Ts where
  b : Nat → Int
  j : Nat → Int
  d : Nat → Int
/-- what stays -/
structure En where
  fw : Bool
  ft : Bool
  fb : Bool
  n : Nat
  M : Nat
  ba : Nat → List AV
  t : Ts
def Ts.row (t : Ts) (i : Nat) : List AV := [.int .i64 (t.b i), .int .i64 (t.j i), .int .i64 (t.d i)]
def Fl.vrow (F : Fl) (i : Nat) : List AV := [.int .i64 (F.vt 0 i), .int .i64 (F.vt 1 i), .int .i64 (F.vt 2 i), .int .i64 (F.vt 3 i), .int .i64 (F.vt 4 i), .int .i64 (F.vt 5 i), .int .i64 (F.vt 6 i), .int .i64 (F.vt 7 i)]
def Fl.brow (F : Fl) (r i : Nat) : List AV := [.bool (F.bk r i)]
def Fl.krow (F : Fl) (i : Nat) : List AV := [.bool (F.kn i)]
def Fl.srow (F : Fl) (i : Nat) : List AV := [.bool (F.sv i)]
def Fl.wrow (F : Fl) (i : Nat) : List AV := [.bool (F.wb i), .int .i64 (F.wt i)]
def bks (M : Nat) (F : Fl) (R : Nat) : List Blk := match R with
  | 1 => [.rows true M 1 (F.brow 0)]
  | 2 => [.rows true M 1 (F.brow 0), .rows true M 1 (F.brow 1)]
  | 3 => [.rows true M 1 (F.brow 0), .rows true M 1 (F.brow 1), .rows true M 1 (F.brow 2)]
  | 4 => [.rows true M 1 (F.brow 0), .rows true M 1 (F.brow 1), .rows true M 1 (F.brow 2), .rows true M 1 (F.brow 3)]
  | _ => []
def can (c M : Nat) (i : Nat) : List AV := [.slc (c + i) 0 M]
/-- memory of the reference's run: `w7` the block of the wire, `wl` its length -/
def hdS (E : En) (R : Nat) (bf : Nat → List AV) (F : Fl) (w7 : Nat) (vf : Nat → List AV) (wB : Blk) (wl : Nat) : List Blk :=
  [.one true [.ptr 1 0 0, .slc 2 0 E.M, .slc 3 0 E.n, .slc 4 0 R, .slc 5 0 E.M, .slc 6 0 E.M, .slc w7 0 wl], .one E.fw [.int .i64 (Int.ofNat R), .slc 8 0 E.n], .rows E.ft E.M 3 E.t.row,
   .rows true E.n 8 vf, .rows true R 1 bf, .rows true E.M 1 F.krow, .rows true E.M 1 F.srow, wB, .rows E.fb E.n 9 E.ba]
/-- memory of the program's shop -/
def hdI (E : En) (R : Nat) (bf : Nat → List AV) (F : Fl) (w7 : Nat) (vf : Nat → List AV) (wB : Blk) (wl : Nat) : List Blk :=
  [.one true [.int .i64 (Int.ofNat R), .slc 1 0 E.n, .slc 2 0 E.M, .slc 3 0 E.n, .slc 4 0 R, .slc 5 0 E.M, .slc 6 0 E.M, .slc w7 0 wl], .rows E.fb E.n 9 E.ba, .rows E.ft E.M 3 E.t.row,
   .rows true E.n 8 vf, .rows true R 1 bf, .rows true E.M 1 F.krow, .rows true E.M 1 F.srow, wB]
def memS (E : En) (R : Nat) (bf : Nat → List AV) (F : Fl) : List Blk := hdS E R bf F 7 F.vrow (.rows true F.w 2 F.wrow) F.w ++ bks E.M F R
def memI (E : En) (R : Nat) (bf : Nat → List AV) (F : Fl) : List Blk := hdI E R bf F 7 F.vrow (.rows true F.w 2 F.wrow) F.w ++ bks E.M F R
/-- slots and cells told anew behind regions -/
noncomputable def rwL (f : Nat → Option (List AV)) (L : LoopOr) : LoopOr := fun c st => match c with
  | .exit id => match f id with | some l => some (.leaf (.nrm, ⟨l, []⟩), true) | none => none
  | c => L c st
theorem rwL_all {B : Nat} {f : FuncId} (g : Nat → Option (List AV)) {L : LoopOr} (hn : (loopIds Try.prog f).all (fun n => Nat.blt 0 n) = true) (hL : LOk Try.prog B f L) : LOk Try.prog B f (rwL g L) := fun fn c hf hc body st l hin hl => by
  unfold rwL at hl
  split at hl
  · rename_i id
    have hm := hin.mem
    have e : bodyOf Try.prog f = c := by unfold bodyOf; rw [hf]; simp only; rw [hc]
    rw [List.all_eq_true] at hn
    have := hn (loopId (.exit id)) (by unfold loopIds; rw [e]; exact List.mem_map_of_mem hm)
    simp [loopId, Nat.blt_eq] at this
  · exact hL fn c hf hc _ st l hin hl
-- what a note makes of the floor
def Fl.know (F : Fl) (k : Nat) : Fl := { F with kn := fun i => cond (Nat.beq i k) true (F.kn i) }
def Fl.mark (F : Fl) (r k : Nat) : Fl := { F with bk := fun s i => cond (Nat.beq s r && Nat.beq i k) true (F.bk s i) }
def Fl.pour (F : Fl) (b j : Nat) (d : Int) : Fl := { F with vt := fun s i => cond (Nat.beq s j && Nat.beq i b) (IntKind.i64.wrap (F.vt s b + d)) (F.vt s i) }
def Fl.add (F : Fl) (p : Bool) (x : Int) : Fl := { F with w := F.w + 1, wb := fun i => cond (Nat.blt i F.w) (F.wb i) p, wt := fun i => cond (Nat.blt i F.w) (F.wt i) x }
def Fl.was (F : Fl) (R room k : Nat) : Bool := match R with
  | 1 => F.bk 0 k
  | 2 => cond (Nat.beq room 0) (F.bk 0 k) (F.bk 1 k)
  | 3 => cond (Nat.beq room 0) (F.bk 0 k) (cond (Nat.beq room 1) (F.bk 1 k) (F.bk 2 k))
  | _ => cond (Nat.beq room 0) (F.bk 0 k) (cond (Nat.beq room 1) (F.bk 1 k) (cond (Nat.beq room 2) (F.bk 2 k) (F.bk 3 k)))
def wNew (p : Bool) (x : Int) : Nat → List AV := fun i => bif Nat.blt i 1 then List.take 2 (List.drop (i * 2) [.bool p, .int .i64 x]) else [.bool false, .int .i64 0]
def rwS (R room jar M : Nat) : Nat → Option (List AV) := fun id => match id with | 3 => some [.int .i64 4, .lit (.int .i64 (Int.ofNat room))] | 5 => some [.ptr (10 + R) 0 1, .lit (.int .i64 (Int.ofNat jar))] | _ => none
def rwI (R room jar M : Nat) : Nat → Option (List AV) := fun id => match id with | 1 => some [.ptr (9 + R) 0 1, .lit (.int .i64 (Int.ofNat jar))] | 4 => some [.int .i64 6, .slc (8 + room) 0 M] | _ => none
def ntB (p : Bool) (x : Int) : Blk := .one true [.bool p, .int .i64 x]
def tkB (E : En) (jar k : Nat) : Blk := .one true [.int .i64 (E.t.b k), .lit (.int .i64 (Int.ofNat jar)), .int .i64 (E.t.d k)]
def wiB (F : Fl) (p : Bool) (x : Int) : Blk := .rows true (F.w + 1) 2 (catF F.w F.wrow (wNew p x))
def puF (E : En) (F : Fl) (jar k : Nat) : Nat → List AV := upd F.vrow (E.t.b k).toNat (pt (F.vrow (E.t.b k).toNat) jar (.int .i64 (IntKind.i64.wrap (F.vt jar (E.t.b k).toNat + E.t.d k))))
def rawS (E : En) (R room jar : Nat) (F : Fl) (back : Bool) (x : Int) : Tr (AV × Option (List Blk)) :=
  .node back (.leaf (.tup [], some (memS E R (can 9 E.M) (F.know x.toNat) ++ [ntB back x])))
    (.node (bif F.bk room x.toNat then false else true)
      (.leaf (.tup [], some (hdS E R (can 9 E.M) F (12 + R) (puF E F jar x.toNat) .dead (F.w + 1) ++ bks E.M (F.mark room x.toNat) R ++ [ntB back x, tkB E jar x.toNat, .rows true 1 2 (wNew true x), wiB F true x])))
      (.leaf (.tup [], some (hdS E R (can 9 E.M) F (11 + R) F.vrow .dead (F.w + 1) ++ bks E.M F R ++ [ntB back x, .rows true 1 2 (wNew true x), wiB F true x]))))
def rawI (E : En) (R room jar : Nat) (F : Fl) (back : Bool) (x : Int) : Tr (AV × Option (List Blk)) :=
  .node back (.leaf (.tup [], some (memI E R (can 8 E.M) (F.know x.toNat) ++ [ntB back x, tkB E jar x.toNat])))
    (.node (bif F.bk room x.toNat then false else true)
      (.leaf (.tup [], some (hdI E R (can 8 E.M) F (11 + R) (puF E F jar x.toNat) .dead (F.w + 1) ++ bks E.M (F.mark room x.toNat) R ++ [ntB back x, tkB E jar x.toNat, .rows true 1 2 (wNew true x), wiB F true x])))
      (.leaf (.tup [], some (hdI E R (can 8 E.M) F (11 + R) F.vrow .dead (F.w + 1) ++ bks E.M F R ++ [ntB back x, tkB E jar x.toNat, .rows true 1 2 (wNew true x), wiB F true x]))))
noncomputable def obX (E : En) (x : Int) : Bool := andB (inB x E.M) (andB (Nat.blt x.toNat E.M) true)
noncomputable def obR (R room : Nat) (x : Int) : Bool := andB (deqA (.int .i64 (x.tmod (Int.ofNat R))) (.int .i64 (Int.ofNat room))) true
noncomputable def obJ (E : En) (jar k : Nat) : Bool := andB (deqA (.int .i64 (E.t.j k)) (.int .i64 (Int.ofNat jar))) true
noncomputable def obW (F : Fl) : Bool := andB (andB (andB (andB (Nat.ble (0 + F.w) F.w) true) (Nat.ble (F.w + 1) few)) true) true
noncomputable def obB (E : En) (k : Nat) (r : Bool) : Bool := andB (andB (inB (E.t.b k) E.n) (andB (Nat.blt (E.t.b k).toNat E.n) (andB (inB (E.t.b k) E.n) true))) (andB (Nat.blt (E.t.b k).toNat E.n) r)
noncomputable def obS (E : En) (R room jar : Nat) (F : Fl) (back : Bool) (x : Int) : Bool :=
  andB (impB back (obX E x)) (impB (!back) (andB (obR R room x) (andB (obX E x)
    (andB (impB (bif F.bk room x.toNat then false else true) (andB (obX E x) (andB (obJ E jar x.toNat) (andB (andB (inB (E.t.b x.toNat) E.n) (andB (Nat.blt (E.t.b x.toNat).toNat E.n) (andB (inB (E.t.b x.toNat) E.n) true))) (andB (Nat.blt (E.t.b x.toNat).toNat E.n) (andB (inB x E.M) (andB (Nat.blt x.toNat E.M) (obW F))))))))
      (impB (!bif F.bk room x.toNat then false else true) (obW F))))))
noncomputable def obI (E : En) (R room jar : Nat) (F : Fl) (back : Bool) (x : Int) : Bool :=
  andB (obX E x) (andB (obJ E jar x.toNat) (andB (impB back (obX E x)) (impB (!back) (andB (andB (inB (x.tmod (Int.ofNat R)) R) (andB (Nat.blt (x.tmod (Int.ofNat R)).toNat R) true)) (andB (andB (deqA (.slc (8 + (x.tmod (Int.ofNat R)).toNat) 0 E.M) (.slc (8 + room) 0 E.M)) true)
    (andB (inB x E.M) (andB (Nat.blt x.toNat E.M) (andB (impB (bif F.bk room x.toNat then false else true) (andB (inB x E.M) (andB (Nat.blt x.toNat E.M) (obB E x.toNat (obW F)))))
      (impB (!bif F.bk room x.toNat then false else true) (obW F))))))))))
end Go.Proofs.Ytllonddgbjgmdaa.P1
