/- Drawn regions: memory made or written in one row, then operations in a row. -/
import Derived.Test.YtpnjimpiphbcfaaSxRow
set_option linter.unusedSimpArgs false
set_option linter.unusedVariables false
namespace Go.Sx
open Go.RowKit
section
variable {P : Program} {F : Nat → Prop} {W0 : World} {ρ : List Place}
/-- what holds on the way through such a region -/
structure TlI (P : Program) (ops : Array Oper) (z : Nat) (st : St) (xs : List AV) (Hs : Nat → List Blk) (Ks : Nat → YK) (F : Nat → Prop) (W0 : World) (ρ0 : List Place) (listed : Array Bool) (a : Act) (W : World) (ρ : List Place) (p : Nat) : Prop where
  size : listed.size = ops.size
  down : Down .any ops listed
  defers : a.defers = []
  tsz : a.tmps.size = st.slots.length
  ext : Ext ρ0 ρ
  hiz : ∀ j, z ≤ j → listed.getD j false = false
  old : ∀ (w : Nat) (x : AV), st.slots[w]? = some x → (∀ (j : Nat) (o : Oper), j < z → ops[j]? = some o → o.dst ≠ some w) → ∃ v, a.tmps[w]? = some v ∧ VRel ρ x v
  new : ∀ (j : Nat) (o : Oper) (d : Nat) (x : AV), j < z → ops[j]? = some o → listed.getD j false = true → o.dst = some d → d < st.slots.length → xs[j]? = some x → ∃ v, a.tmps[d]? = some v ∧ VRel ρ x v
  ple : p ≤ z
  lo : ∀ i, i < p → (Ks i).isM = true → listed.getD i false = true
  hi : ∀ i, p ≤ i → i < z → (Ks i).isM = true → listed.getD i false = false
  cls : Cls F W0 ρ (Hs p) W

theorem regionZ_ok {call : CallerT} (hcall : CallerTOk P call) (hm : P.follows .mixedOrders = true) {id : Nat} {ops : Array Oper} {Q : Exit → Act → World → Prop} {st st' : St} {l : List Oper} (h : evZ P call ops st = some (st', l, true)) {B : Nat} {a : Act} {W : World}
    (hr : Rl B F W0 ρ st a W) (hl : ∀ ρ' a' W', ExtB B ρ ρ' → Rl B F W0 ρ' st' a' W' → wpK P ops Q (Q .normal) l a' W') : (Code.region id ops true).wp P Q a W := by
  unfold evZ at h
  obtain ⟨hed, h⟩ := cond_some h
  obtain ⟨hz, hsuf⟩ := sufFrom_spec (md := .any) (ops := ops) ops.size
  generalize hzz : sufFrom .any ops ops.size = z at *
  have hlen0 : (ops.toList.take z).length = z := by simp; omega
  split at h
  · rename_i xs Hn ob hxs
    simp only [Option.some.injEq, Prod.mk.injEq] at h
    obtain ⟨rfl, rfl, rfl⟩ := h
    obtain ⟨s1, Hs, Ks, s2, s3, s4, s5, s6⟩ := evYs_spec (ops.toList.take z) 0 st.slots st.heap Hn [] xs (fun k hk => by rw [hlen0] at hk; rw [Nat.zero_add, List.getElem?_take, if_pos hk, Array.getElem?_toList]) hxs
    rw [hlen0] at s1 s3
    generalize hσ : putAll (ops.toList.take z) xs st.slots = σf at *
    have hlen : σf.length = st.slots.length := by rw [← hσ, putAll_len]
    have tl : ∀ {j : Nat} {o : Oper}, j < z → ops[j]? = some o → (ops.toList.take z)[j]? = some o := fun hj h => opsT.2 ⟨hj, h⟩
    have fact : ∀ (j : Nat) (o : Oper), j < z → ops[j]? = some o → ∃ x, xs[j]? = some x ∧ evY1 P call o (maskK (opnd o) 0 σf) (Hs j) = some (x, Ks j, Hs (j + 1), true) ∧
        (∀ w ∈ opnd o, ∀ (n : Nat) (o' : Oper), n < j → ops[n]? = some o' → o'.dst = some w → n ∈ cl .any ops j) ∧ ∀ m, m < j → (Ks m).hits (Ks j) = true → m ∈ cl .any ops j := fun j o hj ho => by
      obtain ⟨x, q1, q2, q3, _, q5⟩ := s4 j o (tl hj ho)
      simp only [Nat.zero_add] at q3 q5
      exact ⟨x, q1, q2, q3, q5⟩
    have hedge : ∀ i, i < ops.size → ∀ e ∈ edgesOf .any ops i, e < i := fun i hi e he => by
      unfold edB at hed
      rw [List.all_eq_true] at hed
      have := hed i (List.mem_range.2 hi)
      rw [List.all_eq_true] at this
      simpa [Nat.blt_eq] using this e he
    have prog : ∀ (listed : Array Bool) (n : Nat), n < ops.size → listed.getD n true = false → (∀ j, j < n → listed.getD j false = true) → Region.ready .any ops listed ≠ [] := fun listed n hn hun hlow hnil => by
      have : n ∈ Region.ready .any ops listed := mem_ready.2 ⟨hun, ops[n], Array.getElem?_eq_getElem hn, fun e he hb => hlow _ (hedge n hn _ (edges_mem.2 ⟨_, Array.getElem?_eq_getElem hn, e, he, hb, rfl⟩))⟩
      rw [hnil] at this; cases this
    have hlo : ∀ (listed : Array Bool) (n : Nat), listed.size = ops.size → n < ops.size → listed.getD n false = false → listed.getD n true = false := fun listed n hs hn h => by
      simp only [Array.getD_eq_getD_getElem?, Array.getElem?_eq_getElem (show n < listed.size by omega), Option.getD_some] at *
      exact h
    -- memory along the text
    have quiet : ∀ j, j < z → (Ks j).isM = false → Hs (j + 1) = Hs j := fun j hj hM => by
      have hjo : j < ops.size := by omega
      obtain ⟨x, _, q2, _⟩ := fact j ops[j] hj (Array.getElem?_eq_getElem hjo)
      rcases (evY1_ok hcall q2).2 with ⟨_, e, _⟩ | ⟨b, _, e, _⟩ | ⟨e, _⟩
      · exact e
      · exact e
      · rw [hM] at e; cases e
    have still1 : ∀ j, j < z → ∀ b, ((Ks j).isM = true → (Ks j).hits (.rd b) = false) → (Hs (j + 1))[b]? = (Hs j)[b]? := fun j hj b hb => by
      have hjo : j < ops.size := by omega
      obtain ⟨x, _, q2, _⟩ := fact j ops[j] hj (Array.getElem?_eq_getElem hjo)
      rcases (evY1_ok hcall q2).2 with ⟨_, e, _⟩ | ⟨b, _, e, _⟩ | ⟨e, _, hs, _⟩
      · rw [e]
      · rw [e]
      · exact hs b (hb e)
    have quietD : ∀ j d, j + d ≤ z → (∀ i, j ≤ i → i < j + d → (Ks i).isM = false) → Hs (j + d) = Hs j := fun j d => by
      induction d with
      | zero => intro _ _; rfl
      | succ d ih =>
        intro hd hno
        rw [← ih (by omega) fun i h1 h2 => hno i h1 (by omega), ← Nat.add_assoc]
        exact quiet (j + d) (by omega) (hno (j + d) (by omega) (by omega))
    have still : ∀ (b j d : Nat), j + d ≤ z → (∀ i, j ≤ i → i < j + d → (Ks i).isM = true → (Ks i).hits (.rd b) = false) → (Hs (j + d))[b]? = (Hs j)[b]? := fun b j d => by
      induction d with
      | zero => intro _ _; rfl
      | succ d ih =>
        intro hd hno
        rw [← ih (by omega) fun i h1 h2 => hno i h1 (by omega), ← Nat.add_assoc]
        exact still1 (j + d) (by omega) b (hno (j + d) (by omega) (by omega))
    have notF : ∀ {b : Bool}, b ≠ true → b = false := fun {b} h => by cases b <;> simp_all
    have sufStep : ∀ n a' W' (K : Act → World → Prop), n < ops.size → wpK P ops Q (Q .normal) (ops.toList.drop n) a' W' → (∀ a2 W2, wpK P ops Q (Q .normal) (ops.toList.drop (n + 1)) a2 W2 → K a2 W2) → wpOp P ops Q n K a' W' := fun n a' W' K hn hk hK => by
      have hn' : n < ops.toList.length := by simpa using hn
      rw [List.drop_eq_getElem_cons hn'] at hk
      unfold wpOp
      simp only [Array.getElem?_eq_getElem hn]
      simp only [wpK, Array.getElem_toList] at hk
      split at hk
      · rename_i hwt
        rw [if_pos hwt]
        rcases hk with hk | hk
        · exact .inl (Oper.wp_mono hK hk)
        · exact .inr hk
      · rename_i hwt
        rw [if_neg hwt]
        exact hK _ _ hk
    have toEnd : ∀ listed a' W' ρ1 p, TlI P ops z st xs Hs Ks F W0 ρ listed a' W' ρ1 p → (∀ j, j < z → listed.getD j false = true) → wpK P ops Q (Q .normal) (ops.toList.drop z) a' W' := fun listed a' W' ρ1 p hI hall => by
      have hHn : Hs p = Hn := by
        rw [← s3]
        obtain ⟨d, hd⟩ : ∃ d, z = p + d := ⟨z - p, by have := hI.ple; omega⟩
        rw [hd]
        refine (quietD p d (by omega) fun m h1 h2 => notF fun hmM => ?_).symm
        have := hI.hi m h1 (by omega) hmM
        rw [hall m (by omega)] at this; cases this
      have hC := hI.cls
      rw [hHn] at hC
      refine hl ρ1 a' W' hI.ext.toB ⟨⟨by rw [hI.tsz, hlen], fun w y hy => ?_⟩, hI.defers, hC, ?_⟩
      · have hwl : w < st.slots.length := by rw [← hlen]; exact (List.getElem?_eq_some_iff.1 hy).1
        rw [← hσ] at hy
        rcases putAll_get _ _ _ _ _ hy with ⟨m, o', h1, h2, h3⟩ | ⟨h1, h2⟩
        · obtain ⟨hm1, ho'⟩ := opsT.1 h1
          exact hI.new m o' w y hm1 ho' (hall m hm1) h2 hwl h3
        · exact hI.old w y h1 fun j o' hj ho' => h2 j o' (tl hj ho') (by rw [s1]; exact hj)
      · exact Nat.le_trans hr.hB (hr.c.keep hI.ext hC)
    let I : Array Bool → Act → World → Prop := fun listed a' W' =>
      (∃ ρ' p, TlI P ops z st xs Hs Ks F W0 ρ listed a' W' ρ' p) ∨
      (∃ n, z ≤ n ∧ n ≤ ops.size ∧ listed.size = ops.size ∧ Down .any ops listed ∧ (∀ j, j < n → listed.getD j false = true) ∧ (∀ j, n ≤ j → listed.getD j false = false) ∧ wpK P ops Q (Q .normal) (ops.toList.drop n) a' W')
    -- a step of the tail
    have tail : ∀ listed a' W' i, (∃ n, z ≤ n ∧ n ≤ ops.size ∧ listed.size = ops.size ∧ Down .any ops listed ∧ (∀ j, j < n → listed.getD j false = true) ∧ (∀ j, n ≤ j → listed.getD j false = false) ∧ wpK P ops Q (Q .normal) (ops.toList.drop n) a' W') → i ∈ Region.ready .any ops listed → wpOp P ops Q i (I (listed.setIfInBounds i true)) a' W' := by
      rintro listed a' W' i ⟨n, n1, n2, n3, n4, n5, n6, n7⟩ hi
      obtain ⟨hun, o, ho, _⟩ := mem_ready.1 hi
      have hio : i < ops.size := (Array.getElem?_eq_some_iff.1 ho).1
      have hin : i = n := by
        rcases Nat.lt_or_ge i n with h | h
        · exact (getD_both hun (n5 i h)).elim
        · rcases Nat.lt_or_ge n i with h' | h'
          · have hcl := clo_listed n4 _ _ (ready_edges hi) n (waitsAll_spec (hsuf i (by omega) hio) n h')
            rw [n6 n (Nat.le_refl _)] at hcl; cases hcl
          · omega
      subst hin
      refine sufStep i a' W' _ hio n7 fun a2 W3 hk => .inr ⟨i + 1, by omega, by omega, by simpa using n3, n4.step hi, fun j hj => ?_, fun j hj => ?_, hk⟩
      · by_cases hji : j = i
        · subst hji; exact getD_self (by rw [n3]; exact hio)
        · rw [getD_set_ne false (Ne.symm hji)]; exact n5 j (by omega)
      · rw [getD_set_ne false (by omega)]; exact n6 j (by omega)
    refine wp_region_any hm (wpAny_inv (I := I) ?_ ?_ _ _ _ _ (.inl ?_) ?_)
    · -- a step
      rintro listed a' W' i (⟨ρ1, p, hI⟩ | ht) hi
      rotate_left
      · exact tail listed a' W' i ht hi
      obtain ⟨hun, o, ho, _⟩ := mem_ready.1 hi
      have hio : i < ops.size := (Array.getElem?_eq_some_iff.1 ho).1
      rcases Nat.lt_or_ge i z with hiz | hiz
      rotate_left
      · have hcl : ∀ n ∈ cl .any ops i, listed.getD n false = true := clo_listed hI.down _ _ (ready_edges hi)
        have hall : ∀ j, j < i → listed.getD j false = true := fun j hj => hcl j (waitsAll_spec (hsuf i hiz hio) j hj)
        have hiz' : i = z := by
          rcases Nat.lt_or_ge z i with h | h
          · have := hall z h
            rw [hI.hiz z (Nat.le_refl _)] at this; cases this
          · omega
        exact tail listed a' W' i ⟨z, Nat.le_refl _, hz, hI.size, hI.down, fun j hj => hall j (by omega), hI.hiz, toEnd _ _ _ _ _ hI (fun j hj => hall j (by omega))⟩ hi
      refine wpOp_mono (fun a2 W2 hh => .inl hh) (K := fun a' W' => ∃ ρ' p, TlI P ops z st xs Hs Ks F W0 ρ (listed.setIfInBounds i true) a' W' ρ' p) ?_
      have hisz : i < listed.size := by rw [hI.size]; exact hio
      have hcl : ∀ n ∈ cl .any ops i, listed.getD n false = true := clo_listed hI.down _ _ (ready_edges hi)
      have hnl : listed.getD i false = false := getD_false hisz hun
      obtain ⟨x, hx, q2, q3, q5⟩ := fact i o hiz ho
      obtain ⟨hg, hkind⟩ := evY1_ok hcall q2
      have hs : SRel ρ1 (maskK (opnd o) 0 σf) a'.tmps := by
        refine ⟨by rw [maskK_len, hI.tsz, hlen], fun w y hy => ?_⟩
        rcases maskK_get _ _ _ _ _ hy with ⟨rfl, hlt⟩ | ⟨hwo, hs⟩
        · exact ⟨a'.tmps[w]'(by rw [hI.tsz, ← hlen]; exact hlt), Array.getElem?_eq_getElem _, by simp [VRel]⟩
        · rw [Nat.zero_add] at hwo
          have hwl : w < st.slots.length := by rw [← hlen]; exact (List.getElem?_eq_some_iff.1 hs).1
          rw [← hσ] at hs
          rcases putAll_get _ _ _ _ _ hs with ⟨m, o', h1, h2, h3⟩ | ⟨h1, h2⟩
          · obtain ⟨hmz, ho'⟩ := opsT.1 h1
            rcases Nat.lt_or_ge m i with hl | hl
            · exact hI.new m o' w y hmz ho' (hcl m (q3 w hwo m o' hl ho' h2)) h2 hwl h3
            · exact absurd h2 (s6 i m o o' w (tl hiz ho) h1 hl hwo)
          · exact hI.old w y h1 fun j o' hj ho' => h2 j o' (tl hj ho') (by rw [s1]; exact hj)
      -- a later operation that this one hits has not been done
      have later : ∀ m, i < m → m < z → (Ks m).hits (Ks i) = true → listed.getD m false = false := fun m h1 h2 hh => by
        cases hg' : listed.getD m false with
        | false => rfl
        | true =>
          have hmo : m < ops.size := by omega
          obtain ⟨_, _, _, _, q5'⟩ := fact m ops[m] h2 (Array.getElem?_eq_getElem hmo)
          have hin : i ∈ cl .any ops m := q5' i h1 (by rw [YK.hits_symm]; exact hh)
          have := clo_listed hI.down _ _ (hI.down m hg') i hin
          rw [hnl] at this; cases this
      have hwant : Region.wanted o (yielded ops a'.tmps) = true := by unfold Region.wanted; rw [hg]
      unfold wpOp
      simp only [ho]
      rw [if_pos hwant]
      left
      have hizS : ∀ j, z ≤ j → (listed.setIfInBounds i true).getD j false = false := fun j hj => by rw [getD_set_ne false (by omega)]; exact hI.hiz j hj
      -- slots behind the operation
      have hold : ∀ (v : Value) (ρ' : List Place), Ext ρ1 ρ' → ∀ (w : Nat) (y : AV), st.slots[w]? = some y → (∀ (j : Nat) (o : Oper), j < z → ops[j]? = some o → o.dst ≠ some w) → ∃ u, (a'.put o.dst v).tmps[w]? = some u ∧ VRel ρ' y u := fun v ρ' he w y hy hd => by
        obtain ⟨u, h1, h2⟩ := hI.old w y hy hd
        exact ⟨u, by rw [put_get_other (hd i o hiz ho)]; exact h1, h2.ext he⟩
      have hnew : ∀ (v : Value) (ρ' : List Place), Ext ρ1 ρ' → VRel ρ' x v → ∀ (j : Nat) (o' : Oper) (d : Nat) (y : AV), j < z → ops[j]? = some o' → (listed.setIfInBounds i true).getD j false = true → o'.dst = some d → d < st.slots.length → xs[j]? = some y → ∃ u, (a'.put o.dst v).tmps[d]? = some u ∧ VRel ρ' y u := fun v ρ' he hv j o' d y hjz ho' hl hd hdl hy => by
        by_cases hji : j = i
        · subst hji
          rw [ho] at ho'; cases ho'
          rw [hx] at hy; cases hy
          rw [hd]
          exact ⟨v, put_get_self (by rw [hI.tsz]; exact hdl), hv⟩
        · rcases getD_set_f hl with e | hl
          · exact absurd e hji
          · obtain ⟨u, h1, h2⟩ := hI.new j o' d y hjz ho' hl hd hdl hy
            refine ⟨u, ?_, h2.ext he⟩
            rw [put_get_other fun e => hji (s5 j i o' o d (tl hjz ho') (tl hiz ho) hd e)]
            exact h1
      -- an operation on values
      have value : (Ks i).isM = false → evV P noC ⟨maskK (opnd o) 0 σf, Hs p⟩ o = some (x, true) →
          o.wp P a' W' (fun a' W' => ∃ ρ' p, TlI P ops z st xs Hs Ks F W0 ρ (listed.setIfInBounds i true) a' W' ρ' p) Q := fun hM hv => by
        refine op_wp (C := Cls F W0 ρ1 (Hs p)) (σ := st.slots) (evV_ok noC_ok hv hs hI.cls) fun v W2 hv hW2 => ⟨ρ1, p, by simpa using hI.size, hI.down.step hi, by rw [put_defers]; exact hI.defers, by rw [put_size]; exact hI.tsz, hI.ext, hizS, hold v ρ1 (Ext.refl _), hnew v ρ1 (Ext.refl _) hv, hI.ple, fun j hj hjM => ?_, fun j h1 h2 hjM => ?_, hW2⟩
        · have hji : i ≠ j := fun e => by subst e; rw [hM] at hjM; cases hjM
          rw [getD_set_ne false hji]; exact hI.lo j hj hjM
        · have hji : i ≠ j := fun e => by subst e; rw [hM] at hjM; cases hjM
          rw [getD_set_ne false hji]; exact hI.hi j h1 h2 hjM
      rcases hkind with ⟨hK, _, hv⟩ | ⟨b, hK, _, hrd, hv⟩ | ⟨hM, hle, _, hSY⟩
      · refine value (by rw [hK]; rfl) ?_
        have := evV_mono (nb := Hs p) hv
        simpa using this
      · refine value (by rw [hK]; rfl) ?_
        have same : (Hs p)[b]? = (Hs i)[b]? := by
          rcases Nat.lt_or_ge i p with hl | hl
          · obtain ⟨d, rfl⟩ : ∃ d, p = i + d := ⟨p - i, by omega⟩
            refine still b i d hI.ple fun m h1 h2 hmM => notF fun hh => ?_
            have hmi : m ≠ i := fun e => by subst e; rw [hK] at hmM; cases hmM
            have := later m (by omega) (by have := hI.ple; omega) (by rw [hK]; exact hh)
            rw [hI.lo m h2 hmM] at this; cases this
          · obtain ⟨d, rfl⟩ : ∃ d, i = p + d := ⟨i - p, by omega⟩
            refine (still b p d (by omega) fun m h1 h2 hmM => notF fun hh => ?_).symm
            have := hcl m (q5 m h2 (by rw [hK]; exact hh))
            rw [hI.hi m h1 (by omega) hmM] at this; cases this
        rw [evV_rd hrd same]
        exact hv
      · -- an operation on memory
        have hMM : ∀ m, (Ks m).isM = true → (Ks m).hits (Ks i) = true := fun m hm => by
          revert hm hM
          cases Ks m <;> cases Ks i <;> simp [YK.isM, YK.hits]
        have hpi : p ≤ i := by
          rcases Nat.lt_or_ge i p with hl | hl
          · have := hI.lo i hl hM
            rw [hnl] at this; cases this
          · exact hl
        have hHp : Hs i = Hs p := by
          obtain ⟨d, rfl⟩ : ∃ d, i = p + d := ⟨i - p, by omega⟩
          refine quietD p d (by omega) fun m h1 h2 => notF fun hmM => ?_
          have := hcl m (q5 m h2 (hMM m hmM))
          rw [hI.hi m h1 (by omega) hmM] at this; cases this
        rw [hHp] at hSY
        refine opT_wp (hSY F W0 ρ1 W' a' hI.cls hs) ?_
        rintro v W2 ⟨ρ2, he, hC2, hv⟩
        refine ⟨ρ2, i + 1, by simpa using hI.size, hI.down.step hi, by rw [put_defers]; exact hI.defers, by rw [put_size]; exact hI.tsz, hI.ext.trans he, hizS, hold v ρ2 he, hnew v ρ2 he hv, hiz, fun j hj hjM => ?_, fun j h1 h2 hjM => ?_, hC2⟩
        · by_cases hji : i = j
          · subst hji; exact getD_self hisz
          · rw [getD_set_ne false hji]
            exact hcl j (q5 j (by omega) (hMM j hjM))
        · rw [getD_set_ne false (by omega)]
          exact hI.hi j (by omega) h2 hjM
    · -- nothing left
      rintro listed a' W' (⟨ρ1, p, hI⟩ | ⟨n, n1, n2, n3, n4, n5, n6, n7⟩) hnil
      · have hall : ∀ n, n ≤ z → ∀ j, j < n → listed.getD j false = true := fun n => by
          induction n with
          | zero => intro _ j hj; omega
          | succ n ih =>
            intro hn j hj
            by_cases hjn : j = n
            · subst hjn
              cases hg : listed.getD j false with
              | true => rfl
              | false => exact absurd hnil (prog listed j (by omega) (hlo listed j hI.size (by omega) hg) (ih (by omega)))
            · exact ih (by omega) j (by omega)
        have hk := toEnd _ _ _ _ _ hI (hall z (Nat.le_refl _))
        rcases Nat.lt_or_ge z ops.size with h | h
        · exact absurd hnil (prog listed z h (hlo listed z hI.size h (hI.hiz z (Nat.le_refl _))) (hall z (Nat.le_refl _)))
        · rw [List.drop_eq_nil_of_le (by simpa using h)] at hk
          exact hk
      · rcases Nat.lt_or_ge n ops.size with h | h
        · exact absurd hnil (prog listed n h (hlo listed n n3 h (n6 n (Nat.le_refl _))) n5)
        · rw [List.drop_eq_nil_of_le (by simpa using h)] at n7
          exact n7
    · -- at the start
      have rep : ∀ j, (Array.replicate ops.size false).getD j false = false := fun j => by
        simp only [Array.getD_eq_getD_getElem?, Array.getElem?_replicate]
        split <;> rfl
      exact ⟨ρ, 0, by simp, fun j hj => (by rw [rep] at hj; cases hj), hr.d, hr.s.len, Ext.refl ρ, fun j _ => rep j, fun w x hx _ => hr.s.get w x hx, fun j o d x _ _ hj => (by rw [rep] at hj; cases hj), Nat.zero_le _, fun i hi => absurd hi (Nat.not_lt_zero i), fun i _ _ _ => rep i, by rw [s2]; exact hr.c.drawn _⟩
    · unfold unl
      exact Nat.le_trans List.countP_le_length (by simp)
  · cases h

end
end Go.Sx
