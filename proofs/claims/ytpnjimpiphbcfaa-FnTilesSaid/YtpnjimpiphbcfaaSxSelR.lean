/- Calls that write, told at a small memory that the caller names; memory told by less. -/
import Derived.Test.YtpnjimpiphbcfaaSxSelM
set_option linter.unusedSimpArgs false
set_option linter.unusedVariables false
namespace Go.Sx
open Go.RowKit
/-- the same, the part of memory being named by a function -/
def selRunR (ref : List AV → List Blk → List Nat) (run : List AV → List Blk → Option Lf) : List AV → List Blk → Option Lf := fun args H =>
  bif ltN (ref args H) (lenB H) && nodN (ref args H) then (match run (renVL (idxP (ref args H)) args) (gcH (idxP (ref args H)) H (ref args H)) with
  | some (t, o) => bif okTr (ref args H) (gcH (idxP (ref args H)) H (ref args H)) t then some (mapTr (fwdM (ref args H) H) t, o) else none
  | none => none) else none
def rowsN (f : Nat → List AV) : Nat → Nat → List Nat → List Nat
  | _, 0, acc => acc
  | i, n + 1, acc => rowsN f (i + 1) n (refVL (f i) acc)
/-- the blocks that the first rows of blocks of one cell name -/
def rowsB (R : Nat) (H : List Blk) : List Nat → List Nat → List Nat
  | [], acc => acc
  | b :: t, acc => rowsB R H t (match blkOf H b with | some (.rows _ _ 1 f) => rowsN f 0 R acc | _ => acc)
def refX (R : Nat) (args : List AV) (H : List Blk) : List Nat := rowsB R H (refC args H) (refC args H)
/-- the first blocks, those that the slots name, those that these name, and those of rows -/
def autoX (R B : Nat) (st : St) : List Nat :=
  let l := refB st.heap (refB st.heap (refVL st.slots (iotaX B [])) (refVL st.slots (iotaX B []))) (refB st.heap (refVL st.slots (iotaX B [])) (refVL st.slots (iotaX B [])))
  rowsB R st.heap l l
where iotaX : Nat → List Nat → List Nat
  | 0, l => l
  | n + 1, l => iotaX n (n :: l)

section
variable {P : Program}
/-- a summary of a call that writes, at a small memory, is one at any larger memory -/
theorem sum_selR {ref : List AV → List Blk → List Nat} (hN : NoApart P) (hm : P.follows .mixedOrders = true) {f : FuncId} {run : List AV → List Blk → Option Lf}
    (h : ∀ args H t, run args H = some (t, true) → (∃ (ρ : List Place) (vals : List Value), VRels ρ args vals) → ∃ (K : CallerT) (L : LoopOr) (N d : Nat) (T' : Tr (AV × Option (List Blk))) (args' : List AV) (H2 : List Blk), HLe H H2 ∧ CallerTOk P K ∧
      (∀ fn c, P.funcs[f]? = some fn → fn.body = some c → ∀ body st l, LoopIn body c → L body st = some (l, true) → LoopOk P H2.length body st l) ∧ (∀ (ρ : List Place) (vals : List Value), VRels ρ args vals → VRels ρ args' vals) ∧ evM P K L N d f args' H2 = some (T', true) ∧ LLe T'.get t.get) : SumOk P f (selRunR ref run) := by
  intro args H t hr F W0 ρ W vals hC hv
  unfold selRunR at hr
  obtain ⟨hlt, hr⟩ := cond_some hr
  simp only [Bool.and_eq_true] at hlt
  obtain ⟨hlt, hnd⟩ := hlt
  have hlt := ltN_spec hlt
  have hnd := nodN_spec hnd
  rw [lenB_eq] at hlt
  split at hr
  · rename_i t0 o h0
    obtain ⟨hfr, hr⟩ := cond_some hr
    simp only [Option.some.injEq, Prod.mk.injEq] at hr
    obtain ⟨rfl, rfl⟩ := hr
    obtain ⟨K, L, N, d, T', args', H2, hH2, hK, hL, hargs, he, hle, hle2⟩ := h _ _ t0 h0 ⟨_, _, renVL_rel (sel_ren ρ (ref args H)) hv⟩
    have hb : ∃ fn, P.funcs[f]? = some fn ∧ fn.body.isSome = true := by
      unfold evM at he
      split at he
      · rename_i fn hf
        exact ⟨fn, hf, evFnM_body he⟩
      · cases he
    obtain ⟨fn, hf, hb⟩ := hb
    rw [enter_run hN hf hb, mapTr_get]
    generalize hmm : ref args H = m at *
    have hCm : Cls (Fm ρ H m W) W ρ H W → Cls (Fm ρ H m W) W (selP ρ m) (gcH (idxP m) H m) W := fun hc => hc.gc m fun k l b x hk hl _ _ => by
      have h1 := (List.getElem?_eq_some_iff.1 hk).1
      exact (List.getElem?_inj h1 hnd).1 (by rw [hk, hl])
    -- writable blocks outside the part: told as read only
    have hC0 : Cls (Fm ρ H m W) W (selP ρ m) (gcH (idxP m) H m) W := by
      have hg := hC.gc m fun k l b x hk hl _ _ => by
        have h1 := (List.getElem?_eq_some_iff.1 hk).1
        exact (List.getElem?_inj h1 hnd).1 (by rw [hk, hl])
      refine ⟨hg.rel, ⟨rfl, rfl, rfl, Nat.le_refl _, fun _ _ => rfl⟩, fun k hk => hk.1, fun j y q hy hq hw hc hF => ?_⟩
      rw [gcH_get, Option.map_eq_some_iff] at hy
      obtain ⟨b, hb', hy⟩ := hy
      rw [selP_get, hb'] at hq
      simp only [Option.map_some, Option.some.injEq] at hq
      cases hx : H[b]? with
      | none => rw [hx] at hy; subst hy; cases hw
      | some x =>
        rw [hx] at hy
        subst hy
        rw [renB_wr] at hw
        have hlb : b < ρ.length := by rw [hC.rel.len]; exact (List.getElem?_eq_some_iff.1 hx).1
        have hp : ρ[b]? = some q := by
          rw [List.getElem?_eq_getElem hlb]
          simp [List.getD, List.getElem?_eq_getElem hlb] at hq
          rw [hq]
        exact hF.2 b x q (List.mem_of_getElem? hb') hx hp hw hc rfl
    refine (evM_ok hN hm hK hL he (hC0.weak hH2) (hargs _ _ (renVL_rel (sel_ren ρ m) hv))).mono fun e W' ⟨u, heu, ρ1, hext, hc1, hu, _⟩ => ⟨u, heu, ?_⟩
    have hu0 : VRel ρ1 t0.get.1 u := delitD_iff.1 (by rw [← hle]; exact delitD_iff.2 hu)
    obtain ⟨v, H1, hget, hk, hfr'⟩ := okTr_get m _ t0 hfr
    rw [hget] at hle2 hu0 ⊢
    generalize T'.get = T at *
    obtain ⟨v', H1'⟩ := T
    cases H1' with
    | none => exact hle2.elim
    | some H1' =>
      simp only [Sx.hp] at hc1
      have hc2 := hc1.weak hle2
      rw [dropN_eq] at hfr'
      obtain ⟨hren, hcl⟩ := hC.growM hnd hlt hc2 hext hk hfr'
      refine ⟨ρ ++ ρ1.drop m.length, fun b p hp => by rw [List.getElem?_append_left (List.getElem?_eq_some_iff.1 hp).1]; exact hp, ?_, ?_, ?_⟩
      · simp only [Sx.hp, fwdM, appH_eq, dropN_eq, lenB_eq]; exact hcl
      · simp only [fwdM, lenB_eq]; exact renV_rel hren hu0
      · simp only [Sx.hp, fwdM, appH_eq]; simp [Keep, putBk_len]
  · cases hr
end
end Go.Sx
