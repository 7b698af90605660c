/- Curves of samples: what is computed is the same. -/
import Derived.Test.YtibdnhjldifpaaaSxU7
set_option linter.unusedVariables false
set_option linter.unusedSimpArgs false
set_option maxRecDepth 100000
set_option exponentiation.threshold 3000
namespace Go.Proofs.Ytibdnhjldifpaaa.U6
open Go.Sx Go.Sx.Fl Go.Sx.C6 Go.RowKit Go.Proofs.Ytibdnhjldifpaaa.S6 Go.Proofs.Ytibdnhjldifpaaa.G6 Go.Proofs.Ytibdnhjldifpaaa.V6 Go.Proofs.Ytibdnhjldifpaaa.H6

-- what is computed, in numbers
theorem k16_congr {f f' : Nat → Option Nat} (h : ∀ i, i < 16 → f i = f' i) : f32L f = f32L f' := by
  unfold f32L k16
  rw [h 0 (by omega), h 1 (by omega), h 2 (by omega), h 3 (by omega), h 4 (by omega), h 5 (by omega), h 6 (by omega), h 7 (by omega), h 8 (by omega), h 9 (by omega), h 10 (by omega), h 11 (by omega), h 12 (by omega), h 13 (by omega), h 14 (by omega), h 15 (by omega)]
theorem fs_congr {f f' : Nat → Option Nat} : ∀ {n : Nat}, (∀ k, k < n → f k = f' k) → fs f n = fs f' n
  | 0, _ => rfl
  | n + 1, h => by simp only [fs]; rw [h n (by omega), fs_congr fun k hk => h k (by omega)]
theorem lsI_congr {f f' : Nat → Option Nat} : ∀ {n : Nat}, (∀ k, k < n → f k = f' k) → lsI f n = lsI f' n
  | 0, _ => rfl
  | n + 1, h => by simp only [lsI]; rw [h n (by omega), lsI_congr fun k hk => h k (by omega)]
theorem msI_congr {f f' : Nat → Option Nat} : ∀ {n : Nat}, (∀ k, k < n → f k = f' k) → msI f n = msI f' n
  | 0, _ => rfl
  | n + 1, h => by simp only [msI]; rw [h n (by omega), msI_congr fun k hk => h k (by omega)]
/-- what is known of what came in -/
structure Rg (n : Nat) (C : Nat → Nat → Int) (g : Gg) : Prop where
  b : ∀ i, i < 16 → -32768 ≤ g.b i ∧ g.b i ≤ 32767
  w : ∀ i, i < 16 → -32768 ≤ g.w i ∧ g.w i ≤ 32767
  k : ∀ i, FOk .f32 (g.k i)
  c : ∀ k, k < n → ∀ i, i < 16 → -32768 ≤ C i k ∧ C i k ≤ 32767
theorem cv_eq {n : Nat} {T : Nat → Int} {C : Nat → Nat → Int} {g : Gg} (r : Rg n C g) {i k : Nat} (hi : i < 16) (hk : k < n) : cv d32 T C g i k = cv d64 T C g i k := by
  unfold cv ln lane
  rw [d32_eq (r.c k hk i hi) (r.b i hi), d64_eq (r.c k hk i hi) (r.b i hi), d32_eq (r.w i hi) (r.b i hi), d64_eq (r.w i hi) (r.b i hi)]
theorem FOk_cases {o : Option Nat} (h : FOk .f32 o) : o = none ∨ ∃ x, o = some x ∧ (FloatKind.f32.decode x).isNaN = false := by
  obtain ⟨b, hb, rfl⟩ := h
  unfold nrm
  cases hn : (FloatKind.f32.decode b).isNaN with
  | true => exact .inl rfl
  | false => exact .inr ⟨b, rfl, hn⟩
theorem gtr_zero {o : Option Nat} (ho : ∀ x, o = some x → Wd x) (h : fcmp .gtr .f32 o (some 0) = true) : ∃ x, o = some x ∧ Wd x ∧ 0 < key x := by
  cases o with
  | none => rw [fcmp_eq] at h; cases h
  | some x =>
    have hx := ho x rfl
    rw [(fcmp_key hx (show Wd 0 from ⟨by decide, by decide +kernel⟩)).2] at h
    have := of_decide_eq_true h
    rw [show key 0 = 0 by decide] at this
    exact ⟨x, rfl, hx, this⟩
theorem geq_of_gtr {o : Option Nat} {x : Nat} (h : fcmp .gtr .f32 o (some x) = true) : fcmp .geq .f32 o (some x) = true := by
  rw [fcmp_eq] at *
  unfold fcmpReal at *
  cases o with
  | none => cases h
  | some y =>
    simp only at *
    rw [h]; rfl
theorem lane_num {f k : Option Nat} {c b w : Int} (hc : -32768 ≤ c ∧ c ≤ 32767) (hb : -32768 ≤ b ∧ b ≤ 32767) (hw : -32768 ≤ w ∧ w ≤ 32767) (hbw : b < w) (hk : FOk .f32 k) (hkk : kk k = true) (hf : ∀ x, f = some x → Wd x) (hp : fcmp .gtr .f32 f (some 0) = true) :
    ∃ a, lane d64 f c b k w = some a ∧ Wd a := by
  unfold lane
  rw [d64_eq hc hb, d64_eq hw hb]
  obtain ⟨h1, h2⟩ := cond_t hkk
  obtain ⟨B, ⟨y, t, rfl, hy, _⟩, hB⟩ := LE_of_cmp (k := 1) (FOk_cases hk) NV_one (geq_of_gtr h1) h2
  obtain ⟨x, hx, _, hxf⟩ := fofI_num (c - b)
  have hxf := hxf (by omega)
  obtain ⟨Z, hZ, z, hz1, hz2, hz3⟩ := mul_num hxf hy
  have hZl : Z ≤ 65535 * 2 ^ 1074 := by
    have e : (c - b).natAbs * 2 ^ 1074 * B ≤ 65535 * 2 ^ 1074 * (1 * 2 ^ 1074) := Nat.mul_le_mul (Nat.mul_le_mul_right _ (by omega)) hB
    rw [hZ, Nat.one_mul] at e
    exact Nat.le_of_mul_le_mul_right e (Nat.two_pow_pos _)
  have hzf : FinS .f32 z (decide (c - b < 0) ^^ t) (valR 23 925 (g32 Z)) := by rw [hz3]; exact read_rung _ (g_lt (k := 65535) (by decide) hZl)
  obtain ⟨u, hu, _, huf⟩ := fofI_num (w - b)
  have huf := huf (by omega)
  rw [decide_eq_false (show ¬ w - b < 0 by omega)] at huf
  obtain ⟨fx, rfl, hfx, hfp⟩ := gtr_zero hf hp
  obtain ⟨v, hv1, hv2, hv3⟩ := mul_pos huf (by
    have : 1 * 2 ^ 1074 ≤ (w - b).natAbs * 2 ^ 1074 := Nat.mul_le_mul_right _ (by omega)
    omega) hfx hfp
  obtain ⟨q, hq1, hq2⟩ := quo_num hzf hv2 hv3
  exact ⟨q, by rw [hx, hz1, hu, hv1, hq1], hq2⟩
theorem vS_get : ∀ {bs ws : List Int} {ks : List (Option Nat)} {d : Bool}, C6.vS bs ws ks d = true → ∀ (i : Nat) (b w : Int) (k : Option Nat), bs[i]? = some b → ws[i]? = some w → ks[i]? = some k → b < w ∧ kk k = true
  | b :: bs, w :: ws, k :: ks, d, h, i, b', w', k', h1, h2, h3 => by
    simp only [C6.vS] at h
    cases hx : cond (decide (w ≤ b)) true (!kk k) with
    | true => rw [hx] at h; cases h
    | false =>
      rw [hx] at h
      cases i with
      | zero =>
        simp at h1 h2 h3
        subst h1 h2 h3
        cases hd : decide (w ≤ b) with
        | true => rw [hd] at hx; cases hx
        | false =>
          rw [hd] at hx
          have := of_decide_eq_false hd
          exact ⟨by omega, by simpa using hx⟩
      | succ i => exact vS_get h i b' w' k' (by simpa using h1) (by simpa using h2) (by simpa using h3)
  | [], _, _, _, _, i, _, _, _, h1, _, _ => by simp at h1
  | _ :: _, [], _, _, _, i, _, _, _, _, h2, _ => by simp at h2
  | _ :: _, _ :: _, [], _, _, i, _, _, _, _, _, h3 => by simp at h3
theorem w16_get (f : Nat → Int) : ∀ i, i < 16 → (w16 f)[i]? = some (f i)
  | 0, _ => rfl
  | 1, _ => rfl
  | 2, _ => rfl
  | 3, _ => rfl
  | 4, _ => rfl
  | 5, _ => rfl
  | 6, _ => rfl
  | 7, _ => rfl
  | 8, _ => rfl
  | 9, _ => rfl
  | 10, _ => rfl
  | 11, _ => rfl
  | 12, _ => rfl
  | 13, _ => rfl
  | 14, _ => rfl
  | 15, _ => rfl
  | i + 16, h => absurd h (by omega)
theorem k16_get (f : Nat → Option Nat) : ∀ i, i < 16 → (k16 f)[i]? = some (f i)
  | 0, _ => rfl
  | 1, _ => rfl
  | 2, _ => rfl
  | 3, _ => rfl
  | 4, _ => rfl
  | 5, _ => rfl
  | 6, _ => rfl
  | 7, _ => rfl
  | 8, _ => rfl
  | 9, _ => rfl
  | 10, _ => rfl
  | 11, _ => rfl
  | 12, _ => rfl
  | 13, _ => rfl
  | 14, _ => rfl
  | 15, _ => rfl
  | i + 16, h => absurd h (by omega)
theorem gV_get {g : Gg} (h : gV g = true) {i : Nat} (hi : i < 16) : g.b i < g.w i ∧ kk (g.k i) = true := vS_get h i _ _ _ (w16_get _ i hi) (w16_get _ i hi) (k16_get _ i hi)
theorem cv_num {n : Nat} {T : Nat → Int} {C : Nat → Nat → Int} {g : Gg} (r : Rg n C g) (hg : gV g = true) (ho : okk n T g = true) {i k : Nat} (hi : i < 16) (hk : k < n) : ∃ a, cv d64 T C g i k = some a ∧ Wd a := by
  obtain ⟨h1, h2⟩ := gV_get hg hi
  exact lane_num (r.c k hk i hi) (r.b i hi) (r.w i hi) h1 (r.k i) h2 (fun x hx => fop_wd hx) (allB_true.1 ho k hk)
/-- least and most, in the reference's way and in the program's -/
theorem ends {f : Nat → Option Nat} : ∀ {n : Nat}, (∀ k, k < n + 1 → ∃ a, f k = some a ∧ Wd a) → ∃ mS lS mI lI, msS f (n + 1) = some mS ∧ lsS f (n + 1) = some lS ∧ msI f (n + 1) = some mI ∧ lsI f (n + 1) = some lI ∧ Fl.Ends mS lS mI lI
  | 0, h => by
    obtain ⟨a, ha, hw⟩ := h 0 (by omega)
    exact ⟨a, a, a, a, by simpa [msS] using ha, by simpa [lsS] using ha, by simpa [msI] using ha, by simpa [lsI] using ha, Ends.start hw⟩
  | n + 1, h => by
    obtain ⟨mS, lS, mI, lI, h1, h2, h3, h4, he⟩ := ends (n := n) fun k hk => h k (by omega)
    obtain ⟨a, ha, hw⟩ := h (n + 1) (by omega)
    have e0 : (Int.ofNat (n + 1) == 0) = false := by
      simp only [Int.ofNat_eq_natCast, beq_eq_false_iff_ne, ne_eq]; omega
    refine ⟨_, _, _, _, ?_, ?_, ?_, ?_, he.step hw⟩
    · rw [msS, e0, h1, ha, (fcmp_key hw he.wm).2]
      by_cases hc : key a > key mS
      · rw [decide_eq_true hc, if_pos hc]; rfl
      · rw [decide_eq_false hc, if_neg hc]; rfl
    · rw [lsS, e0, h2, ha, (fcmp_key hw he.wl).1]
      by_cases hc : key a < key lS
      · rw [decide_eq_true hc, if_pos hc]; rfl
      · rw [decide_eq_false hc, if_neg hc]; rfl
    · rw [msI, e0, h3, ha]; exact fmax_key he.wmI hw
    · rw [lsI, e0, h4, ha]; exact fmin_key he.wlI hw
theorem sp_eq {n : Nat} {T : Nat → Int} {C : Nat → Nat → Int} {g : Gg} (r : Rg n C g) (hg : gV g = true) (ho : okk n T g = true) (h0 : 0 < n) {i : Nat} (hi : i < 16) : spI n T C g i = spS n T C g i := by
  obtain ⟨m, rfl⟩ : ∃ m, n = m + 1 := ⟨n - 1, by omega⟩
  unfold spI spS
  rw [msI_congr fun k hk => cv_eq (T := T) r hi hk, lsI_congr fun k hk => cv_eq (T := T) r hi hk]
  obtain ⟨mS, lS, mI, lI, h1, h2, h3, h4, he⟩ := ends (n := m) (f := cv d64 T C g i) fun k hk => cv_num r hg ho hi hk
  rw [h1, h2, h3, h4]
  exact he.spread
theorem mn_eq {n : Nat} {T : Nat → Int} {C : Nat → Nat → Int} {g : Gg} (r : Rg n C g) {i : Nat} (hi : i < 16) : mnv d32 n T C g i = mnv d64 n T C g i := by
  unfold mnv
  rw [fs_congr fun k hk => cv_eq (T := T) r hi hk]

noncomputable def lfU (n : Nat) (T : Nat → Int) (C : Nat → Nat → Int) (g : Gg) : AV × Option (List Blk) := (.tup [.agg (f32L (ua n T C g)), .agg (f32L (ub n T C g)), .int .i64 (uc n T g)], none)
theorem TUs_le (n : Nat) (T : Nat → Int) (C : Nat → Nat → Int) (g : Gg) : LLe (TUs n T C g).get (lfU n T C g) := by
  have e1 : ua n T C g = fun i => cond (uc n T g == 0) (mnv d64 n T C g i) (some 0) := rfl
  have e2 : ub n T C g = fun i => cond (uc n T g == 0) (spS n T C g i) (some 0) := rfl
  unfold lfU
  rw [e1, e2]
  unfold TUs uc
  cases gV g <;> cases V6.vS n T <;> cases ((n : Int) == 0) <;> cases okk n T g <;> exact LLe.of rfl rfl rfl
theorem TUi_le {n : Nat} {T : Nat → Int} {C : Nat → Nat → Int} {g : Gg} (r : Rg n C g) : LLe (TUi n T C g).get (lfU n T C g) := by
  have e1 : ua n T C g = fun i => cond (uc n T g == 0) (mnv d64 n T C g i) (some 0) := rfl
  have e2 : ub n T C g = fun i => cond (uc n T g == 0) (spS n T C g i) (some 0) := rfl
  unfold lfU
  rw [e1, e2]
  unfold TUi uc sc
  cases hg : gV g <;> cases V6.vS n T <;> cases h0 : ((n : Int) == 0) <;> cases ho : okk n T g <;> first | exact LLe.of rfl rfl rfl | skip
  refine LLe.of ?_ rfl rfl
  have hn : 0 < n := by
    have : ¬ (n : Int) = 0 := by simpa using h0
    omega
  show AV.tup [.agg (f32L (mnv d32 n T C g)), .agg (f32L (spI n T C g)), .int .i64 0] = AV.tup [.agg (f32L (mnv d64 n T C g)), .agg (f32L (spS n T C g)), .int .i64 0]
  rw [k16_congr fun i hi => mn_eq r hi, k16_congr fun i hi => sp_eq r hg ho hn hi]
noncomputable def runU (n : Nat) (T : Nat → Int) (C : Nat → Nat → Int) (g : Gg) : List AV → List Blk → Option Lf := selRun (runAtH (AU n g) (roH n T C) (.leaf (lfU n T C g)) (Nat.ble n few))
theorem oUs_true (n : Nat) (v u k : Bool) {q1 q2 q3 c : Bool} (h1 : q1 = true) (h2 : q2 = true) (h3 : q3 = true) (hc : ((n : Int) == 0) = false → c = true) : oUs n v u k q1 q2 q3 c = true := by
  subst h1 h2 h3
  unfold oUs
  cases h : ((n : Int) == 0) with
  | true => cases v <;> cases u <;> cases k <;> cases c <;> rfl
  | false => rw [hc h]; cases v <;> cases u <;> cases k <;> rfl
theorem oUi_true (c : Int) (v : Bool) {q1 q2 q3 : Bool} (h1 : q1 = true) (h2 : q2 = true) (h3 : q3 = true) : oUi c v q1 q2 q3 = true := by
  subst h1 h2 h3
  unfold oUi
  cases v <;> cases (c != 0) <;> rfl
theorem sumUs (n : Nat) (T : Nat → Int) (C : Nat → Nat → Int) (g : Gg) : SumOk Try.prog 13 (runU n T C g) := sum_atH sxApart sxMixed (uK_ok n T C g) (LB n T C g (cv d64 T C g)) (N := 20) (d := 8) fun hn => by
  refine ⟨LB_ok n (Nat.le_of_ble_eq_true hn) T C g _, TUs n T C g, ?_, TUs_le n T C g⟩
  rw [evUs, oUs_true n _ _ _ (ogS_true g) (okH_true hn T C) (deqS_self _) fun h0 => chq_true (q := qB n T C g) (by have : ¬ (n : Int) = 0 := (by simpa using h0); omega) (by omega) fun j => deqS_self _]
theorem tr_of {n : Nat} {T : Nat → Int} (h : V6.vS n T = true) : ∀ k, k < n → tr (T k) = true := fun k hk => by
  have h1 := allB_true.1 (andB_true h).1 k hk
  have h2 : V6.bad T k = false := by simpa [V6.ok] using h1
  unfold V6.bad at h2
  cases hi : V6.inT (T k) with
  | false => rw [hi] at h2; cases h2
  | true =>
    obtain ⟨a, b⟩ := andB_true hi
    have a := of_decide_eq_true a
    have b := of_decide_eq_true b
    unfold tr
    rw [decide_eq_true (show 0 ≤ T k by omega), decide_eq_true b]; rfl
theorem sumUi {n : Nat} {T : Nat → Int} {C : Nat → Nat → Int} {g : Gg} (r : Rg n C g) : SumOk Try.prog 16 (runU n T C g) := by
  by_cases hg : gV g = true ∧ V6.vS n T = true
  · exact sum_atH sxApart sxMixed (uK_ok n T C g) (loopAt 9 [2, 3, 4, 5, 6, 8, 9, 10, 31, 32, 33] (Sc n T C g (fun _ => some 0) (fun _ => some 0) (fun _ => some 0) 0) (tC n T C g) noL) (N := 20) (d := 8) fun hn => by
      refine ⟨loopAt_all (B := 1) (by decide +kernel) (loopC n (Nat.le_of_ble_eq_true hn) T C g hg.1 (tr_of hg.2)) noL_all, TUi n T C g, ?_, TUi_le r⟩
      rw [evUi, oUi_true _ _ (ogI_true g) (okH_true hn T C) (deqS_self _)]
  · -- not valid: the loop is not reached
    refine sum_atH sxApart sxMixed (uK_ok n T C g) (fun _ _ => some (tC n T C g, false)) (N := 20) (d := 8) fun hn => ?_
    refine ⟨fun _ _ _ _ _ _ _ _ h => by simp at h, TUi n T C g, ?_, TUi_le r⟩
    have h : evF Try.prog (uK n T C g) (fun _ _ => some (tC n T C g, false)) 20 8 16 (AU n g) (roH n T C) = some (TUi n T C g, oUi (sc n T) (gV g) (ogI g) (okH n T C) false) := by kernel_rfl
    rw [h]
    have : oUi (sc n T) (gV g) (ogI g) (okH n T C) false = true := by
      rw [ogI_true, okH_true hn]
      unfold oUi sc
      have hc : ∀ v u z : Bool, ¬ (v = true ∧ u = true) → andB true (impB (!!v) (andB (andB true true) (impB (!((bif !u then (1 : Int) else bif z then 6 else 0) != 0)) (andB false true)))) = true := by decide
      exact hc _ _ _ hg
    rw [this]
end Go.Proofs.Ytibdnhjldifpaaa.U6
