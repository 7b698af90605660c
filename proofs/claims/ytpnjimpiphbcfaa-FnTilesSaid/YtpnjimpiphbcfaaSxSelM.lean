/- Calls that write in memory that was there, told at a small memory. -/
import Derived.Test.YtpnjimpiphbcfaaSxGc
set_option linter.unusedSimpArgs false
set_option linter.unusedVariables false
namespace Go.Sx
open Go.RowKit

/-- blocks put back to their places -/
def putBk : List Blk → List Nat → List Blk → List Blk
  | H, [], _ => H
  | H, _ :: _, [] => H
  | H, b :: t, x :: L => putBk (setB H b x) t L
/-- what was dead stays dead; what could not be written can't be -/
def keptB : List Blk → List Blk → Bool
  | [], _ => true
  | _ :: _, [] => false
  | x :: t, y :: u => (x.wr || !y.wr) && (x.live || !y.live) && keptB t u
def fwdM (m : List Nat) (H : List Blk) (x : AV × Option (List Blk)) : AV × Option (List Blk) :=
  match x with
  | (v, none) => (renV (fwd m (lenB H)) v, none)
  | (v, some H') => (renV (fwd m (lenB H)) v, some (appH (putBk H m (renBL (fwd m (lenB H)) H')) (renBL (fwd m (lenB H)) (dropN m H'))))
def okTr (m : List Nat) (S : List Blk) : Tr (AV × Option (List Blk)) → Bool
  | .leaf (_, none) => false
  | .leaf (_, some H') => keptB S H' && allFresh (dropN m H')
  | .node _ l r => okTr m S l && okTr m S r
def selRunM (run : List AV → List Blk → Option Lf) : List AV → List Blk → Option Lf := fun args H =>
  bif ltN (refC args H) (lenB H) && nodN (refC args H) then (match run (renVL (idxP (refC args H)) args) (gcH (idxP (refC args H)) H (refC args H)) with
  | some (t, o) => bif okTr (refC args H) (gcH (idxP (refC args H)) H (refC args H)) t then some (mapTr (fwdM (refC args H) H) t, o) else none
  | none => none) else none

theorem okTr_get (m : List Nat) (S : List Blk) : ∀ (t : Tr (AV × Option (List Blk))), okTr m S t = true → ∃ v H', t.get = (v, some H') ∧ keptB S H' = true ∧ allFresh (dropN m H') = true
  | .leaf (v, none), h => by simp [okTr] at h
  | .leaf (v, some H'), h => by
    simp only [okTr, Bool.and_eq_true] at h
    exact ⟨v, H', rfl, h.1, h.2⟩
  | .node b l r, h => by
    simp only [okTr, Bool.and_eq_true] at h
    cases b with
    | true => exact okTr_get m S l h.1
    | false => exact okTr_get m S r h.2
theorem setB_len (H : List Blk) (b : Nat) (y : Blk) : (setB H b y).length = H.length := by rw [setB_eq, List.length_set]
theorem putBk_len : ∀ (H : List Blk) (m : List Nat) (L : List Blk), (putBk H m L).length = H.length
  | H, [], L => by simp [putBk]
  | H, b :: t, [] => by simp [putBk]
  | H, b :: t, x :: L => by simp only [putBk]; rw [putBk_len, setB_len]
theorem putBk_not : ∀ (H : List Blk) (m : List Nat) (L : List Blk) (b : Nat), b ∉ m → (putBk H m L)[b]? = H[b]?
  | H, [], L, b, _ => by simp [putBk]
  | H, c :: t, [], b, _ => by simp [putBk]
  | H, c :: t, x :: L, b, hb => by
    simp only [putBk]
    rw [putBk_not _ t L b (fun h => hb (List.mem_cons_of_mem _ h)), setB_eq, List.getElem?_set_ne]
    rintro rfl
    exact hb List.mem_cons_self
theorem putBk_at : ∀ (H : List Blk) (m : List Nat) (L : List Blk) (j b : Nat), m.Nodup → m[j]? = some b → b < H.length → m.length ≤ L.length → (putBk H m L)[b]? = L[j]?
  | H, [], L, j, b, _, h, _, _ => by simp at h
  | H, c :: t, [], j, b, _, _, _, hl => by simp at hl
  | H, c :: t, x :: L, 0, b, hnd, h, hb, _ => by
    simp at h; subst h
    simp only [putBk]
    rw [putBk_not _ t L c (List.nodup_cons.1 hnd).1, setB_eq, List.getElem?_set_self hb]
    simp
  | H, c :: t, x :: L, j + 1, b, hnd, h, hb, hl => by
    simp only [putBk]
    rw [putBk_at _ t L j b (List.nodup_cons.1 hnd).2 (by simpa using h) (by rw [setB_len]; exact hb) (by simpa using hl)]
    simp
theorem keptB_get : ∀ {S L : List Blk} {j : Nat} {x y : Blk}, keptB S L = true → S[j]? = some x → L[j]? = some y → (y.wr = true → x.wr = true) ∧ (y.live = true → x.live = true)
  | [], _, j, x, y, _, h, _ => by simp at h
  | _ :: _, [], j, x, y, h, _, _ => by simp [keptB] at h
  | a :: t, b :: u, 0, x, y, h, hx, hy => by
    simp only [keptB, Bool.and_eq_true, Bool.or_eq_true, Bool.not_eq_true'] at h
    simp at hx hy; subst hx; subst hy
    refine ⟨fun hw => ?_, fun hl => ?_⟩
    · rcases h.1.1 with h1 | h1
      · exact h1
      · rw [hw] at h1; cases h1
    · rcases h.1.2 with h1 | h1
      · exact h1
      · rw [hl] at h1; cases h1
  | a :: t, b :: u, j + 1, x, y, h, hx, hy => by
    simp only [keptB, Bool.and_eq_true] at h
    exact keptB_get h.2 (by simpa using hx) (by simpa using hy)
theorem keptB_len : ∀ {S L : List Blk}, keptB S L = true → S.length ≤ L.length
  | [], _, _ => Nat.zero_le _
  | _ :: _, [], h => by simp [keptB] at h
  | a :: t, b :: u, h => by
    simp only [keptB, Bool.and_eq_true] at h
    simpa using keptB_len h.2

/-- what a call within a part of memory must leave -/
def Fm (ρ : List Place) (H : List Blk) (m : List Nat) (W : World) (k : Nat) : Prop :=
  k < W.heap.size ∧ ∀ (b : Nat) (x : Blk) (p : Place), b ∈ m → H[b]? = some x → ρ[b]? = some p → x.wr = true → p.cap ≠ 0 → p.blk ≠ k

theorem Cls.growM {F : Nat → Prop} {W0 W W' : World} {ρ ρ1 : List Place} {H H1 : List Blk} {m : List Nat} (h : Cls F W0 ρ H W) (hnd : m.Nodup) (hlt : ∀ b ∈ m, b < H.length)
    (h' : Cls (Fm ρ H m W) W ρ1 H1 W') (he : Ext (selP ρ m) ρ1) (hk : keptB (gcH (idxP m) H m) H1 = true) (hf : allFresh (H1.drop m.length) = true) :
    Ren (fwd m H.length) ρ1 (ρ ++ ρ1.drop m.length) ∧ Cls F W0 (ρ ++ ρ1.drop m.length) (putBk H m (renBL (fwd m H.length) H1) ++ renBL (fwd m H.length) (H1.drop m.length)) W' := by
  have hE : Ext ρ (ρ ++ ρ1.drop m.length) := fun b p hp => by rw [List.getElem?_append_left (List.getElem?_eq_some_iff.1 hp).1]; exact hp
  have hl1 : ρ1.length = H1.length := h'.rel.len
  have hlm : m.length ≤ ρ1.length := by have := he.len; simpa [selP] using this
  have hlr := h.rel.len
  -- the places of the part
  have hsel : ∀ (j b : Nat) (p : Place), m[j]? = some b → ρ1[j]? = some p → ρ[b]? = some p := fun j b p hm hp => by
    have hb := hlt b (List.mem_of_getElem? hm)
    have h1 : (selP ρ m)[j]? = some ρ[b] := by rw [selP_get, hm]; simp [List.getD, List.getElem?_eq_getElem (show b < ρ.length by omega)]
    have h2 := he j _ h1
    rw [hp] at h2
    cases h2
    rw [List.getElem?_eq_getElem]
  have hren : Ren (fwd m H.length) ρ1 (ρ ++ ρ1.drop m.length) := fun j k p hg hp => by
    unfold fwd at hg
    rw [nthN_eq] at hg
    cases hm : m[j]? with
    | some b =>
      rw [hm] at hg
      simp only [Option.some.injEq] at hg
      subst hg
      have hb := hlt b (List.mem_of_getElem? hm)
      rw [List.getElem?_append_left (by omega)]
      exact hsel j b p hm hp
    | none =>
      rw [hm] at hg
      simp only [Option.some.injEq, lenN_eq] at hg
      have hj : m.length ≤ j := List.getElem?_eq_none_iff.1 hm
      subst hg
      rw [List.getElem?_append_right (by omega), List.getElem?_drop, show m.length + (H.length + (j - m.length) - ρ.length) = j by omega]
      exact hp
  refine ⟨hren, ?_⟩
  have hlen1 : (putBk H m (renBL (fwd m H.length) H1)).length = H.length := putBk_len _ _ _
  -- a block is an old one, or one of the call's
  have old : ∀ (b : Nat) (x : Blk) (p : Place), (putBk H m (renBL (fwd m H.length) H1) ++ renBL (fwd m H.length) (H1.drop m.length))[b]? = some x → (ρ ++ ρ1.drop m.length)[b]? = some p →
      (b ∉ m ∧ b < H.length ∧ H[b]? = some x ∧ ρ[b]? = some p) ∨ (∃ j y, H1[j]? = some y ∧ x = renB (fwd m H.length) y ∧ ρ1[j]? = some p ∧
        ((m[j]? = some b ∧ ρ[b]? = some p) ∨ (m.length ≤ j ∧ b = H.length + (j - m.length) ∧ (x.live = true → y.wr = true)))) := by
    intro b x p hx hp
    rcases Nat.lt_or_ge b H.length with hb | hb
    · rw [List.getElem?_append_left (by omega)] at hx
      rw [List.getElem?_append_left (by omega)] at hp
      by_cases hbm : b ∈ m
      · right
        obtain ⟨j, hj⟩ := List.mem_iff_getElem?.1 hbm
        have hjm : j < m.length := (List.getElem?_eq_some_iff.1 hj).1
        rw [putBk_at H m _ j b hnd hj hb (by rw [renBL_len]; omega), renBL_get, Option.map_eq_some_iff] at hx
        obtain ⟨y, hy, rfl⟩ := hx
        have hq : ρ1[j]? = some ρ1[j] := List.getElem?_eq_getElem (by omega)
        have := hsel j b _ hj hq
        rw [hp] at this; cases this
        exact ⟨j, y, hy, rfl, hq, .inl ⟨hj, hp⟩⟩
      · left
        rw [putBk_not _ _ _ _ hbm] at hx
        exact ⟨hbm, hb, hx, hp⟩
    · right
      rw [List.getElem?_append_right (by omega), renBL_get, Option.map_eq_some_iff] at hx
      rw [List.getElem?_append_right (by omega), List.getElem?_drop, hlr] at hp
      obtain ⟨y, hy, rfl⟩ := hx
      rw [hlen1] at hy
      refine ⟨m.length + (b - H.length), y, by rw [List.getElem?_drop] at hy; exact hy, rfl, hp, .inr ⟨by omega, by omega, fun hlv => ?_⟩⟩
      rw [renB_live] at hlv
      exact fresh_wr (allFresh_get hf _ _ hy) hlv
  -- what a block of the part was
  have was : ∀ (j b : Nat) (y : Blk), m[j]? = some b → H1[j]? = some y → ∃ x, H[b]? = some x ∧ (y.wr = true → x.wr = true) ∧ (y.live = true → x.live = true) := fun j b y hm hy => by
    have hb := hlt b (List.mem_of_getElem? hm)
    refine ⟨H[b], List.getElem?_eq_getElem hb, ?_⟩
    have h1 : (gcH (idxP m) H m)[j]? = some (renB (idxP m) H[b]) := by rw [gcH_get, hm]; simp [List.getElem?_eq_getElem hb]
    have := keptB_get hk h1 hy
    rwa [renB_wr, renB_live] at this
  -- a block of the call's that is new lies apart from old ones
  have new : ∀ (j : Nat) (y : Blk) (q : Place), H1[j]? = some y → ρ1[j]? = some q → y.wr = true → q.cap ≠ 0 → W.heap.size ≤ q.blk ∨ ∃ b x p, b ∈ m ∧ H[b]? = some x ∧ ρ[b]? = some p ∧ x.wr = true ∧ p.cap ≠ 0 ∧ p.blk = q.blk := fun j y q hy hq hw hc => by
    have := h'.free j y q hy hq hw hc
    by_cases hs : q.blk < W.heap.size
    · right
      apply Classical.byContradiction
      intro hno
      exact this ⟨hs, fun b x p hb hx hp hxw hpc e => hno ⟨b, x, p, hb, hx, hp, hxw, hpc, e⟩⟩
    · left; omega
  refine ⟨⟨by simp [renBL_len, putBk_len, hlr, hl1], fun b x p hx hp => ?_, fun b c x y p q hne hx hy hp hq hw hlv hcp hcq => ?_⟩, ⟨h'.fr.os.trans h.fr.os, h'.fr.tape.trans h.fr.tape, h'.fr.output.trans h.fr.output, Nat.le_trans h.fr.size h'.fr.size, fun k hF => ?_⟩, h.low, fun b x p hx hp hw hcp hF => ?_⟩
  · rcases old b x p hx hp with ⟨hbm, hb, h1, h2⟩ | ⟨j, y, h1, rfl, h2, _⟩
    · refine BRel.ext hE ((h.rel.blk b x p h1 h2).same fun hl hc => h'.fr.keep _ ⟨h.rel.lt h1 h2 hl hc, fun b' x' p' hb' hx' hp' hw' hc' => ?_⟩)
      exact h.rel.apart b' b x' x p' p (fun e => hbm (e ▸ hb')) hx' h1 hp' h2 hw' hl hc' hc
    · exact renB_rel hren (h'.rel.blk j y p h1 h2)
  · rcases old b x p hx hp with ⟨hbm, hb, h1, h2⟩ | ⟨j, u, h1, rfl, h2, h3⟩
    · rcases old c y q hy hq with ⟨hcm, hc, k1, k2⟩ | ⟨i, v, k1, rfl, k2, k3⟩
      · exact h.rel.apart b c x y p q hne h1 k1 h2 k2 hw hlv hcp hcq
      · rcases k3 with ⟨k3, k4⟩ | ⟨k3, _, k4⟩
        · obtain ⟨z, hz, _, hz2⟩ := was i c v k3 k1
          rw [renB_live] at hlv
          exact h.rel.apart b c x z p q hne h1 hz h2 k4 hw (hz2 hlv) hcp hcq
        · have hvw := k4 hlv
          rcases new i v q k1 k2 hvw hcq with hs | ⟨b', x', p', hb', hx', hp', hw', hc', e⟩
          · have := h.rel.lt h1 h2 (wr_live hw) hcp
            omega
          · rw [← e]
            exact (h.rel.apart b' b x' x p' p (fun e => hbm (e ▸ hb')) hx' h1 hp' h2 hw' (wr_live hw) hc' hcp).symm
    · rw [renB_wr] at hw
      rcases old c y q hy hq with ⟨hcm, hc, k1, k2⟩ | ⟨i, v, k1, rfl, k2, k3⟩
      · rcases h3 with ⟨h3, h4⟩ | ⟨h3, _, h4⟩
        · obtain ⟨z, hz, hz1, _⟩ := was j b u h3 h1
          exact h.rel.apart b c z y p q hne hz k1 h4 k2 (hz1 hw) hlv hcp hcq
        · rcases new j u p h1 h2 hw hcp with hs | ⟨b', x', p', hb', hx', hp', hw', hc', e⟩
          · have := h.rel.lt k1 k2 hlv hcq
            omega
          · rw [← e]
            exact h.rel.apart b' c x' y p' q (fun e => hcm (e ▸ hb')) hx' k1 hp' k2 hw' hlv hc' hcq
      · rw [renB_live] at hlv
        refine h'.rel.apart j i u v p q (fun e => ?_) h1 k1 h2 k2 hw hlv hcp hcq
        subst e
        rcases h3 with ⟨h3, _⟩ | ⟨h3, h3', _⟩
        · rcases k3 with ⟨k3, _⟩ | ⟨k3, _, _⟩
          · rw [h3] at k3; cases k3; exact hne rfl
          · have := (List.getElem?_eq_some_iff.1 h3).1; omega
        · rcases k3 with ⟨k3, _⟩ | ⟨_, k3', _⟩
          · have := (List.getElem?_eq_some_iff.1 k3).1; omega
          · omega
  · refine (h'.fr.keep k ⟨Nat.lt_of_lt_of_le (h.low k hF) h.fr.size, fun b x p hb hx hp hw hc e => ?_⟩).trans (h.fr.keep k hF)
    subst e
    exact h.free b x p hx hp hw hc hF
  · rcases old b x p hx hp with ⟨hbm, hb, h1, h2⟩ | ⟨j, u, h1, rfl, h2, h3⟩
    · exact h.free b x p h1 h2 hw hcp hF
    · rw [renB_wr] at hw
      rcases h3 with ⟨h3, h4⟩ | ⟨h3, _, _⟩
      · obtain ⟨z, hz, hz1, _⟩ := was j b u h3 h1
        exact h.free b z p hz h4 (hz1 hw) hcp hF
      · rcases new j u p h1 h2 hw hcp with hs | ⟨b', x', p', hb', hx', hp', hw', hc', e⟩
        · have := h.low _ hF
          have := h.fr.size
          omega
        · rw [← e] at hF
          exact h.free b' x' p' hx' hp' hw' hc' hF

section
variable {P : Program}
/-- a summary of a call that writes, at a small memory, is one at any larger memory -/
theorem sum_selMG (hN : NoApart P) (hm : P.follows .mixedOrders = true) {f : FuncId} {run : List AV → List Blk → Option Lf}
    (h : ∀ args H t, run args H = some (t, true) → (∃ (ρ : List Place) (vals : List Value), VRels ρ args vals) → ∃ (K : CallerT) (L : LoopOr) (N d : Nat) (T' : Tr (AV × Option (List Blk))) (args' : List AV), CallerTOk P K ∧
      (∀ fn c, P.funcs[f]? = some fn → fn.body = some c → ∀ body st l, LoopIn body c → L body st = some (l, true) → LoopOk P H.length body st l) ∧ (∀ (ρ : List Place) (vals : List Value), VRels ρ args vals → VRels ρ args' vals) ∧ evM P K L N d f args' H = some (T', true) ∧ LLe T'.get t.get) : SumOk P f (selRunM run) := by
  intro args H t hr F W0 ρ W vals hC hv
  unfold selRunM at hr
  obtain ⟨hlt, hr⟩ := cond_some hr
  simp only [Bool.and_eq_true] at hlt
  obtain ⟨hlt, hnd⟩ := hlt
  have hlt := ltN_spec hlt
  have hnd := nodN_spec hnd
  rw [lenB_eq] at hlt
  split at hr
  · rename_i t0 o h0
    obtain ⟨hfr, hr⟩ := cond_some hr
    simp only [Option.some.injEq, Prod.mk.injEq] at hr
    obtain ⟨rfl, rfl⟩ := hr
    obtain ⟨K, L, N, d, T', args', hK, hL, hargs, he, hle, hle2⟩ := h _ _ t0 h0 ⟨_, _, renVL_rel (sel_ren ρ (refC args H)) hv⟩
    have hb : ∃ fn, P.funcs[f]? = some fn ∧ fn.body.isSome = true := by
      unfold evM at he
      split at he
      · rename_i fn hf
        exact ⟨fn, hf, evFnM_body he⟩
      · cases he
    obtain ⟨fn, hf, hb⟩ := hb
    rw [enter_run hN hf hb, mapTr_get]
    generalize hmm : refC args H = m at *
    have hCm : Cls (Fm ρ H m W) W ρ H W → Cls (Fm ρ H m W) W (selP ρ m) (gcH (idxP m) H m) W := fun hc => hc.gc m fun k l b x hk hl _ _ => by
      have h1 := (List.getElem?_eq_some_iff.1 hk).1
      exact (List.getElem?_inj h1 hnd).1 (by rw [hk, hl])
    -- writable blocks outside the part: told as read only
    have hC0 : Cls (Fm ρ H m W) W (selP ρ m) (gcH (idxP m) H m) W := by
      have hg := hC.gc m fun k l b x hk hl _ _ => by
        have h1 := (List.getElem?_eq_some_iff.1 hk).1
        exact (List.getElem?_inj h1 hnd).1 (by rw [hk, hl])
      refine ⟨hg.rel, ⟨rfl, rfl, rfl, Nat.le_refl _, fun _ _ => rfl⟩, fun k hk => hk.1, fun j y q hy hq hw hc hF => ?_⟩
      rw [gcH_get, Option.map_eq_some_iff] at hy
      obtain ⟨b, hb', hy⟩ := hy
      rw [selP_get, hb'] at hq
      simp only [Option.map_some, Option.some.injEq] at hq
      cases hx : H[b]? with
      | none => rw [hx] at hy; subst hy; cases hw
      | some x =>
        rw [hx] at hy
        subst hy
        rw [renB_wr] at hw
        have hlb : b < ρ.length := by rw [hC.rel.len]; exact (List.getElem?_eq_some_iff.1 hx).1
        have hp : ρ[b]? = some q := by
          rw [List.getElem?_eq_getElem hlb]
          simp [List.getD, List.getElem?_eq_getElem hlb] at hq
          rw [hq]
        exact hF.2 b x q (List.mem_of_getElem? hb') hx hp hw hc rfl
    refine (evM_ok hN hm hK hL he hC0 (hargs _ _ (renVL_rel (sel_ren ρ m) hv))).mono fun e W' ⟨u, heu, ρ1, hext, hc1, hu, _⟩ => ⟨u, heu, ?_⟩
    have hu0 : VRel ρ1 t0.get.1 u := delitD_iff.1 (by rw [← hle]; exact delitD_iff.2 hu)
    obtain ⟨v, H1, hget, hk, hfr'⟩ := okTr_get m _ t0 hfr
    rw [hget] at hle2 hu0 ⊢
    generalize T'.get = T at *
    obtain ⟨v', H1'⟩ := T
    cases H1' with
    | none => exact hle2.elim
    | some H1' =>
      simp only [Sx.hp] at hc1
      have hc2 := hc1.weak hle2
      rw [dropN_eq] at hfr'
      obtain ⟨hren, hcl⟩ := hC.growM hnd hlt hc2 hext hk hfr'
      refine ⟨ρ ++ ρ1.drop m.length, fun b p hp => by rw [List.getElem?_append_left (List.getElem?_eq_some_iff.1 hp).1]; exact hp, ?_, ?_, ?_⟩
      · simp only [Sx.hp, fwdM, appH_eq, dropN_eq, lenB_eq]; exact hcl
      · simp only [fwdM, lenB_eq]; exact renV_rel hren hu0
      · simp only [Sx.hp, fwdM, appH_eq]; simp [Keep, putBk_len]
  · cases hr
theorem sum_selM (hN : NoApart P) (hm : P.follows .mixedOrders = true) {f : FuncId} {run : List AV → List Blk → Option Lf}
    (h : ∀ args H t, run args H = some (t, true) → ∃ (K : CallerT) (L : LoopOr) (N d : Nat) (T' : Tr (AV × Option (List Blk))), CallerTOk P K ∧
      (∀ fn c, P.funcs[f]? = some fn → fn.body = some c → ∀ body st l, LoopIn body c → L body st = some (l, true) → LoopOk P H.length body st l) ∧ evM P K L N d f args H = some (T', true) ∧ LLe T'.get t.get) : SumOk P f (selRunM run) :=
  sum_selMG hN hm fun args H t hr _ => by
    obtain ⟨K, L, N, d, T', h1, h2, h3, h4⟩ := h args H t hr
    exact ⟨K, L, N, d, T', args, h1, h2, fun _ _ h => h, h3, h4⟩
end
end Go.Sx
