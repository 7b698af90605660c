/- The executor is sound: what it says of a function's body holds of the model's call. -/
import Derived.Test.YtpnjimpiphbcfaaSxMake
import Derived.Test.YtpnjimpiphbcfaaSxTail
import Derived.LoopN
import Derived.Scope
set_option linter.unusedSimpArgs false
set_option linter.unusedVariables false
namespace Go.Sx
open Go.RowKit

section
variable {P : Program} {B : Nat} {F : Nat → Prop} {W0 : World}

/-- what a way of putting together means -/
structure JOk {α : Type} (J : Jn α) (ok : α → Prop) (le : α → α → Prop) : Prop where
  refl : ∀ r, le r r
  trans : ∀ {a b c}, le a b → le b c → le a c
  brT : ∀ {x y r}, J.br true x y = some r → ok r → ∃ x', x = some x' ∧ ok x' ∧ le r x'
  brF : ∀ {x y r}, J.br false x y = some r → ok r → ∃ y', y = some y' ∧ ok y' ∧ le r y'
  ob : ∀ {b x r}, J.ob b x = some r → ok r → b = true ∧ ∃ x', x = some x' ∧ ok x' ∧ le r x'

theorem bindT_ok {α X : Type} {J : Jn α} {ok : α → Prop} {le : α → α → Prop} (hJ : JOk J ok le) {k : X → Option α} : ∀ (t : Tr X) (r : α), bindT J t k = some r → ok r → ∃ r', k t.get = some r' ∧ ok r' ∧ le r r'
  | .leaf x, r, h, ho => ⟨r, h, ho, hJ.refl r⟩
  | .node b l m, r, h, ho => by
    simp only [bindT] at h
    cases b with
    | true =>
      obtain ⟨x', hx, hx', hl⟩ := hJ.brT h ho
      obtain ⟨r', h1, h2, h3⟩ := bindT_ok hJ l x' hx hx'
      exact ⟨r', h1, h2, hJ.trans hl h3⟩
    | false =>
      obtain ⟨x', hx, hx', hl⟩ := hJ.brF h ho
      obtain ⟨r', h1, h2, h3⟩ := bindT_ok hJ m x' hx hx'
      exact ⟨r', h1, h2, hJ.trans hl h3⟩

theorem evOps_seq {call : Caller} (hcall : CallerOk P call) {all : Array Oper} {Q : Exit → Act → World → Prop} {K : Act → World → Prop} (fuel : Nat) (l : List Oper) (st st' : St)
    (h : evOps P call all fuel false [] l st = some (st', true)) (ρ : List Place) (a : Act) (W : World) (hr : Rl B F W0 ρ st a W) (hK : ∀ a' W', Rl B F W0 ρ st' a' W' → K a' W') : wpK P all Q K l a W := by
  obtain ⟨e1, e2, e3, e4⟩ := evOps_val (ρ := ρ) hcall (F := F) (W0 := W0) (H := st.heap) _ _ _ _ _ h rfl
  refine wpK_of_wpA (C := Cls F W0 ρ st.heap) (ρ := ρ) (df := []) (K := fun σ' => Le ρ σ' st'.slots) (fun σ a' W' hs hd' hc hle => ?_) _ st.slots a W (e4 st.slots (fun j b hm => by simp [memG] at hm) (Le.refl _ _)) hr.s hr.d hr.c
  exact hK a' W' ⟨hs.le hle, hd', by rw [e1]; exact hc, by rw [e1]; exact hr.hB⟩

/-- a region of value operations -/
theorem regionV_ok {call : Caller} (hcall : CallerOk P call) (hm : P.follows .mixedOrders = true) {id : Nat} {ops : Array Oper} {draw : Bool} {Q : Exit → Act → World → Prop} {st st' : St}
    (h : evOps P call ops (ops.toList.length + 1) false [] ops.toList st = some (st', true)) (hl : (!draw || Region.lexB .any ops) = true) {ρ : List Place} {a : Act} {W : World} (hr : Rl B F W0 ρ st a W)
    (hQ : ∀ a' W', Rl B F W0 ρ st' a' W' → Q .normal a' W') : (Code.region id ops draw).wp P Q a W := by
  cases draw with
  | false =>
    refine wp_region_list ?_
    rw [← wpK_list]
    exact evOps_seq hcall _ _ _ _ h ρ a W hr hQ
  | true =>
    simp only [Bool.not_true, Bool.false_or] at hl
    simp only [Region.lexB, Bool.and_eq_true] at hl
    refine wp_region_any hm ?_
    obtain ⟨e1, e2, e3, e4⟩ := evOps_val (ρ := ρ) hcall (F := F) (W0 := W0) (H := st.heap) _ _ _ _ _ h rfl
    have hA := e4 st.slots (fun j b hm => by simp [memG] at hm) (Le.refl _ _)
    have := anyA_lex (md := .any) ⟨W, hr.c⟩ hl.1 ops.toList 0 (Array.replicate ops.size false) st.slots ⟨a, hr.s⟩ (by simp) (by simpa using hl.2) hA
    have h2 := any_of_anyA (C := Cls F W0 ρ st.heap) (Q := Q) (df := []) (fun σ a' W' hs hd hc hle => hQ a' W' ⟨hs.le hle, hd, by rw [e1]; exact hc, by rw [e1]; exact hr.hB⟩) _ _ _ a { W with drawn := W.drawn + 1 } this hr.s hr.d (hr.c.drawn _)
    simpa using h2

-- two ways put together
theorem mS_get {ρ : List Place} {b : Bool} {x y : AV} {v : Value} (h : VRel ρ (bif b then x else y) v) : VRel ρ (match mS b (delit x) (delit y) with | some v => v | none => .junk) v := by
  cases hm : mS b (delit x) (delit y) with
  | none => simp [VRel]
  | some u => rw [mS_rel (ρ := ρ) hm]; cases b <;> exact delit_rel h

theorem go_get {ρ : List Place} {b : Bool} : ∀ {xs ys : List AV} {vs : List Value}, xs.length = ys.length → VRels ρ (bif b then xs else ys) vs → VRels ρ (mV.go b xs ys) vs
  | [], [], vs, hl, h => by cases b <;> simpa [mV.go] using h
  | [], y :: ys, vs, hl, h => by simp at hl
  | x :: xs, [], vs, hl, h => by simp at hl
  | x :: xs, y :: ys, vs, hl, h => by
    have h' : VRels ρ ((bif b then x else y) :: (bif b then xs else ys)) vs := by cases b <;> exact h
    simp only [VRels] at h'
    obtain ⟨v, t, rfl, hv, ht⟩ := h'
    simp only [mV.go, VRels]
    exact ⟨v, t, rfl, mS_get hv, go_get (by simpa using hl) ht⟩

theorem mV_rel {ρ : List Place} {b : Bool} {x y : AV} {v : Value} (h : VRel ρ (bif b then x else y) v) : VRel ρ (mV b x y) v := by
  unfold mV
  split
  · rename_i xs ys
    cases hl : Nat.beq xs.length ys.length with
    | false => simp [VRel]
    | true =>
      have hl := Nat.eq_of_beq_eq_true hl
      have h' : VRel ρ (.agg (bif b then xs else ys)) v := by cases b <;> exact h
      simp only [VRel, cond_true] at *
      obtain ⟨a, rfl, h'⟩ := h'
      exact ⟨a, rfl, go_get hl h'⟩
  · rename_i xs ys
    cases hl : Nat.beq xs.length ys.length with
    | false => simp [VRel]
    | true =>
      have hl := Nat.eq_of_beq_eq_true hl
      have h' : VRel ρ (.tup (bif b then xs else ys)) v := by cases b <;> exact h
      simp only [VRel, cond_true] at *
      obtain ⟨a, rfl, h'⟩ := h'
      exact ⟨a, rfl, go_get hl h'⟩
  · exact mS_get h

theorem mergeSl_len (b : Bool) (ws : List Nat) : ∀ (i : Nat) (l l1 l2 : List AV), (mergeSl b ws i l l1 l2).length = l.length
  | _, [], _, _ => rfl
  | i, x :: l, l1, l2 => by simp [mergeSl, mergeSl_len b ws (i + 1) l l1 l2]
theorem mergeSl_get (b : Bool) (ws : List Nat) : ∀ (i : Nat) (l l1 l2 : List AV) (j : Nat) (x : AV), (mergeSl b ws i l l1 l2)[j]? = some x →
    ∃ y, l[j]? = some y ∧ x = (bif memN ws (i + j) then mV b (gt l1 (i + j)) (gt l2 (i + j)) else y)
  | _, [], _, _, _, _, h => by simp [mergeSl] at h
  | i, y :: l, l1, l2, 0, x, h => by
    simp only [mergeSl, List.getElem?_cons_zero, Option.some.injEq] at h
    exact ⟨y, by simp, by rw [← h]; rfl⟩
  | i, y :: l, l1, l2, j + 1, x, h => by
    simp only [mergeSl, List.getElem?_cons_succ] at h
    obtain ⟨z, hz, e⟩ := mergeSl_get b ws (i + 1) l l1 l2 j x h
    refine ⟨z, by simpa using hz, ?_⟩
    rw [e, show i + (j + 1) = i + 1 + j by omega]

theorem appN_eq : ∀ (l m : List Nat), appN l m = l ++ m
  | [], m => rfl
  | x :: t, m => by simp [appN, appN_eq t m]
theorem opsWr_mem {o : Oper} {d : Nat} (hd : o.dst = some d) (l : List Oper) (h : o ∈ l) : d ∈ opsWr l := by
  induction l with
  | nil => cases h
  | cons x t ih =>
    unfold opsWr
    rcases List.mem_cons.1 h with e | h
    · subst e
      rw [hd]
      exact List.mem_cons_self
    · have := ih h
      split
      · exact List.mem_cons_of_mem _ this
      · exact this

theorem evS_ok {call : Caller} (hcall : CallerOk P call) (hm : P.follows .mixedOrders = true) : ∀ (c : Code) (st st' : St), evS P call c st = some (st', true) →
    st'.heap = st.heap ∧ st'.slots.length = st.slots.length ∧ (∀ i, i ∉ codeWr c → gt st'.slots i = gt st.slots i) ∧
    ∀ ρ a W, Rl B F W0 ρ st a W → c.wp P (fun e a' W' => e = .normal ∧ Rl B F W0 ρ st' a' W') a W
  | .skip, st, st', h => by
    simp only [evS, Option.some.injEq, Prod.mk.injEq, and_true] at h; subst h
    exact ⟨rfl, rfl, fun _ _ => rfl, fun ρ a W hr => wp_skip ⟨rfl, hr⟩⟩
  | .label l, st, st', h => by
    simp only [evS, Option.some.injEq, Prod.mk.injEq, and_true] at h; subst h
    exact ⟨rfl, rfl, fun _ _ => rfl, fun ρ a W hr => wp_label ⟨rfl, hr⟩⟩
  | .region id ops draw, st, st', h => by
    simp only [evS] at h
    split at h
    · rename_i s ob ho
      obtain ⟨hl, h⟩ := cond_some h
      simp only [Option.some.injEq, Prod.mk.injEq] at h
      obtain ⟨rfl, rfl⟩ := h
      obtain ⟨e1, e2, e3, e4⟩ := evOps_val (ρ := []) hcall (F := F) (W0 := W0) (H := st.heap) _ _ _ _ _ ho rfl
      refine ⟨e1, e2, fun i hi => e3 i fun o hom hd => hi (by simp only [codeWr]; exact opsWr_mem hd _ hom), fun ρ a W hr => ?_⟩
      exact regionV_ok hcall hm ho hl hr fun a' W' hr' => ⟨rfl, hr'⟩
    · cases h
  | .seq x y, st, st', h => by
    simp only [evS] at h
    split at h
    · rename_i s1 o1 h1
      split at h
      · rename_i s2 o2 h2
        simp only [Option.some.injEq, Prod.mk.injEq] at h
        obtain ⟨rfl, hob⟩ := h
        obtain ⟨rfl, rfl⟩ := andB_true hob
        obtain ⟨a1, a2, a3, a4⟩ := evS_ok hcall hm x st s1 h1
        obtain ⟨b1, b2, b3, b4⟩ := evS_ok hcall hm y s1 s2 h2
        refine ⟨b1.trans a1, b2.trans a2, fun i hi => ?_, fun ρ a W hr => ?_⟩
        · simp only [codeWr, appN_eq, List.mem_append, not_or] at hi
          rw [b3 i hi.2, a3 i hi.1]
        · refine wp_seq (wp_mono (a4 ρ a W hr) ?_)
          rintro e a' W' ⟨rfl, hr'⟩
          exact b4 ρ a' W' hr'
      · cases h
    · cases h
  | .cond c x y, st, st', h => by
    simp only [evS] at h
    split at h
    · rename_i b hb
      split at h
      · rename_i s1 o1 s2 o2 h1 h2
        simp only [Option.some.injEq, Prod.mk.injEq] at h
        obtain ⟨rfl, hob⟩ := h
        have ho : (b = true → o1 = true) ∧ (b = false → o2 = true) := by
          cases b <;> cases o1 <;> cases o2 <;> revert hob <;> decide
        refine ⟨rfl, mergeSl_len _ _ _ _ _ _, fun i hi => ?_, fun ρ a W hr => ?_⟩
        · rw [gt_get, gt_get]
          cases hg : (mergeSl b (appN (codeWr x) (codeWr y)) 0 st.slots s1.slots s2.slots)[i]? with
          | none =>
            rw [List.getElem?_eq_none_iff, mergeSl_len] at hg
            rw [List.getElem?_eq_none hg]
          | some z =>
            obtain ⟨w, hw, e⟩ := mergeSl_get b _ 0 _ _ _ i z hg
            have : memN (appN (codeWr x) (codeWr y)) (0 + i) = false := by
              cases hm' : memN (appN (codeWr x) (codeWr y)) (0 + i) with
              | false => rfl
              | true => exact absurd (by simpa [codeWr] using memN_iff.1 hm') hi
            rw [this] at e
            rw [hw, e]; rfl
        · have hc := ev_rel hr.s c
          rw [hb] at hc
          have fin : ∀ (s : St), s.heap = st.heap → s.slots.length = st.slots.length → (∀ i, memN (appN (codeWr x) (codeWr y)) i = false → gt s.slots i = gt st.slots i) →
              (∀ i v, VRel ρ (gt s.slots i) v → VRel ρ (mV b (gt s1.slots i) (gt s2.slots i)) v) → ∀ a' W', Rl B F W0 ρ s a' W' →
              Rl B F W0 ρ ⟨mergeSl b (appN (codeWr x) (codeWr y)) 0 st.slots s1.slots s2.slots, st.heap⟩ a' W' := fun s e1 e2 e3 e4 a' W' hr' => by
            refine ⟨⟨hr'.s.len.trans (by rw [e2]; simp [mergeSl_len]), fun i z hz => ?_⟩, hr'.d, by rw [← e1]; exact hr'.c, hr.hB⟩
            obtain ⟨w, hw, e⟩ := mergeSl_get b _ 0 _ _ _ i z hz
            have hlt : i < s.slots.length := by rw [e2]; exact (List.getElem?_eq_some_iff.1 hw).1
            obtain ⟨v, hv, hvr⟩ := hr'.s.get i s.slots[i] (List.getElem?_eq_getElem hlt)
            have hgs : gt s.slots i = s.slots[i] := gt_some (List.getElem?_eq_getElem hlt)
            refine ⟨v, hv, ?_⟩
            rw [e, Nat.zero_add]
            cases hmm : memN (appN (codeWr x) (codeWr y)) i with
            | true => exact e4 i v (by rw [hgs]; exact hvr)
            | false =>
              have := e3 i hmm
              rw [hgs, gt_some hw] at this
              simp only [cond_false]
              rw [← this]; exact hvr
          cases b
          · obtain rfl := ho.2 rfl
            obtain ⟨b1, b2, b3, b4⟩ := evS_ok hcall hm y st s2 h2
            refine wp_cond_false (VRel_bool hc) (wp_mono (b4 ρ a W hr) ?_)
            rintro e a' W' ⟨rfl, hr'⟩
            refine ⟨rfl, fin s2 b1 b2 (fun i hi => b3 i fun hmem => ?_) (fun i v hv => mV_rel (by simpa using hv)) a' W' hr'⟩
            rw [memN_iff.2 (by rw [appN_eq]; exact List.mem_append_right _ hmem)] at hi; cases hi
          · obtain rfl := ho.1 rfl
            obtain ⟨b1, b2, b3, b4⟩ := evS_ok hcall hm x st s1 h1
            refine wp_cond_true (VRel_bool hc) (wp_mono (b4 ρ a W hr) ?_)
            rintro e a' W' ⟨rfl, hr'⟩
            refine ⟨rfl, fin s1 b1 b2 (fun i hi => b3 i fun hmem => ?_) (fun i v hv => mV_rel (by simpa using hv)) a' W' hr'⟩
            rw [memN_iff.2 (by rw [appN_eq]; exact List.mem_append_left _ hmem)] at hi; cases hi
      · cases h
    · cases h
  | .scope c, st, st', h => by
    simp only [evS] at h
    obtain ⟨a1, a2, a3, a4⟩ := evS_ok hcall hm c st st' h
    refine ⟨a1, a2, fun i hi => a3 i (by simpa [codeWr] using hi), fun ρ a W hr => ?_⟩
    refine wp_scope_straight (wp_mono (a4 ρ a W hr) ?_)
    rintro e a' W' ⟨rfl, hr'⟩
    exact ⟨rfl, hr'⟩
  | .block .., st, st', h => by simp [evS] at h
  | .loop .., st, st', h => by simp [evS] at h
  | .exit .., st, st', h => by simp [evS] at h
  | .ret, st, st', h => by simp [evS] at h
  | .rangeFunc .., st, st', h => by simp [evS] at h
  | .goto _, st, st', h => by simp [evS] at h
  | .refuse _, st, st', h => by simp [evS] at h

theorem ob2_true {b o1 o2 : Bool} (h : ob2 b o1 o2 = true) : (b = true → o1 = true) ∧ (b = false → o2 = true) := by
  cases b <;> cases o1 <;> cases o2 <;> revert h <;> decide

theorem evR_ok {call : CallerT} (hcall : CallerTOk P call) {α : Type} {J : Jn α} {ok : α → Prop} {le : α → α → Prop} (hJ : JOk J ok le) {all : Array Oper} {Q : Exit → Act → World → Prop} {K : Act → World → Prop}
    {k : St → Option α} : ∀ (fuel : Nat) (l : List Oper) (st : St) (r : α), evR J P call all fuel l st k = some r → ok r → ∀ ρ a W, Rl B F W0 ρ st a W →
    (∀ ρ' st' a' W' r', k st' = some r' → ok r' → le r r' → ExtB B ρ ρ' → Rl B F W0 ρ' st' a' W' → K a' W') → wpK P all Q K l a W
  | 0, _, _, _, h, _, _, _, _, _, _ => by simp [evR] at h
  | fuel + 1, [], st, r, h, ho, ρ, a, W, hr, hK => by
    simp only [evR] at h
    exact hK ρ st a W r h ho (hJ.refl r) (ExtB.refl B ρ) hr
  | fuel + 1, o :: rest, st, r, h, ho, ρ, a, W, hr, hK => by
    have asm0 : ∀ l σ, AsmOk ρ all [] l σ := fun l σ j b hm => by simp [memG] at hm
    have hcall1 := one1_ok hcall
    unfold evR at h
    cases hop : openG [] o with
    | true =>
      rw [hop] at h
      simp only [cond_true] at h
      split at h
      · cases h
      · rename_i j want hgd
        split at h
        · cases h
        · rename_i d hd
          split at h
          · rename_i g p rest' hg hdrop
            split at h
            · rename_i st2 ob hseg
              obtain ⟨rfl, r', hr', hor', hle⟩ := hJ.ob h ho
              have hsplit : takeG [] (o :: rest) ++ p :: rest' = o :: rest := by rw [← hdrop]; exact takeG_open [] _
              have hpo := dropG_head [] _ _ _ hdrop
              have hin : Inner P all (Cls F W0 ρ st.heap) ρ [(j, want)] (takeG [] (o :: rest)) ⟨pt st.slots d (.bool want), st.heap⟩
                  (evOps P (one1 call) all fuel false [(j, want)] (takeG [] (o :: rest)) ⟨pt st.slots d (.bool want), st.heap⟩) := fun st1 h1 => evOps_val hcall1 fuel _ _ _ _ h1 rfl
              obtain ⟨e1, e2, e3, e4⟩ := seg_val hseg hin hd hg hpo
              have hsplit' : (takeG [] (o :: rest) ++ [p]) ++ rest' = o :: rest := by simpa using hsplit
              rw [← hsplit', wpK_append]
              refine wpK_of_wpA (C := Cls F W0 ρ st.heap) (ρ := ρ) (df := []) (K := fun σ' => Le ρ σ' st2.slots) (fun σ a' W' hs hd' hc hle => ?_) _ st.slots a W (e4 F W0 st.heap rfl st.slots (asm0 _ _) (Le.refl _ _)) hr.s hr.d hr.c
              exact evR_ok hcall hJ fuel rest' st2 r' hr' hor' ρ a' W' ⟨hs.le hle, hd', by rw [e1]; exact hc, by rw [e1]; exact hr.hB⟩
                fun ρ' st' a' W' r'' h1 h2 h3 h4 h5 => hK ρ' st' a' W' r'' h1 h2 (hJ.trans ‹_› h3) h4 h5
            · cases h
          · cases h
    | false =>
      rw [hop] at h
      simp only [cond_false] at h
      have hw : Region.wanted o (yielded all a.tmps) = true := wanted_asm (asm0 [] st.slots) hop hr.s
      unfold wpK
      rw [if_pos hw]
      left
      split at h
      · rename_i fx args hcallOf
        split at h
        · rename_i f first captured hfx
          split at h
          · rename_i t ob ht
            obtain ⟨rfl, r1, hr1, ho1, hle1⟩ := hJ.ob h ho
            obtain ⟨r2, hr2, ho2, hle2⟩ := bindT_ok hJ t r1 hr1 ho1
            obtain ⟨dst, op, type, pos, after, guard⟩ := o
            unfold callOf at hcallOf
            cases op <;> simp only [reduceCtorEq] at hcallOf
            rename_i c
            obtain ⟨callee, cargs, argTypes⟩ := c
            cases callee <;> simp only [reduceCtorEq, Option.some.injEq, Prod.mk.injEq] at hcallOf
            rename_i f'
            obtain ⟨rfl, rfl⟩ := hcallOf
            have hf := ev_rel hr.s f'
            rw [hfx] at hf
            simp only [VRel] at hf
            obtain ⟨fs, cs, hf, h1, h2⟩ := hf
            have := hcall _ _ _ _ ht F W0 ρ W _ hr.c ((h1.append (rawL_rel hr.s cargs.toList)).append h2)
            have e : (fs.toList ++ List.map a.eval cargs.toList ++ cs.toList).toArray = fs ++ cargs.map a.eval ++ cs := by
              apply Array.ext'; simp
            rw [e] at this
            refine opT_wp (V := fun u W' => ∃ ρ', Ext ρ ρ' ∧ Cls F W0 ρ' (hp st.heap t.get) W' ∧ VRel ρ' t.get.1 u ∧ Keep st.heap (hp st.heap t.get)) (by simpa [execOp, resolve, hf, Deferred.ofValue, invoke] using this) ?_
            rintro v W' ⟨ρ', he, hc, hv, hkeep⟩
            have hB := Nat.le_trans hr.hB hkeep
            refine evR_ok hcall hJ fuel rest _ r2 hr2 ho2 ρ' _ W' ⟨by rw [putDst_slots]; exact (hr.s.ext he).ptD dst hv, by rw [put_defers]; exact hr.d, ?_, ?_⟩
              fun ρ'' st' a' W' r'' h1 h2 h3 h4 h5 => hK ρ'' st' a' W' r'' h1 h2 (hJ.trans hle1 (hJ.trans hle2 h3)) (he.toB.trans h4) h5
            · rw [putDst_heap]; exact hc
            · rw [putDst_heap]; exact hB
          · cases h
        · cases h
      · split at h
        · rename_i v ob hv
          obtain ⟨rfl, r1, hr1, ho1, hle1⟩ := hJ.ob h ho
          refine op_wp (C := Cls F W0 ρ st.heap) (σ := st.slots) (evV_ok hcall1 hv hr.s hr.c) fun u W' hu hW' => ?_
          exact evR_ok hcall hJ fuel rest _ r1 hr1 ho1 ρ _ W' ⟨by rw [putDst_slots]; exact hr.s.ptD o.dst hu, by rw [put_defers]; exact hr.d, by rw [putDst_heap]; exact hW', by rw [putDst_heap]; exact hr.hB⟩
            fun ρ' st' a' W' r'' h1 h2 h3 h4 h5 => hK ρ' st' a' W' r'' h1 h2 (hJ.trans hle1 h3) h4 h5
        · split at h
          · rename_i v H ob hv
            obtain ⟨rfl, r1, hr1, ho1, hle1⟩ := hJ.ob h ho
            obtain ⟨ρ', he, hok⟩ := evH_ok (P := P) hv hr.s hr.c
            refine op_wp (C := Cls F W0 ρ' H) (σ := st.slots) hok fun u W' hu hW' => ?_
            exact evR_ok hcall hJ fuel rest _ r1 hr1 ho1 ρ' _ W' ⟨by rw [putDst_slots]; exact (hr.s.ext he).ptD o.dst hu, by rw [put_defers]; exact hr.d, by rw [putDst_heap]; exact hW', by rw [putDst_heap]; exact Nat.le_trans hr.hB (hr.c.keep he hW')⟩
              fun ρ'' st' a' W' r'' h1 h2 h3 h4 h5 => hK ρ'' st' a' W' r'' h1 h2 (hJ.trans hle1 h3) (he.toB.trans h4) h5
          · cases h

def AXe : AX → Exit
  | .nrm => .normal
  | .ret => .ret
  | .ext i => .exit i

/-- what is said of a loop holds -/
def LoopOk (P : Program) (B : Nat) (body : Code) (st : St) (t : Tr (AX × St)) : Prop :=
  ∀ F W0 ρ a W, Rl B F W0 ρ st a W → (Code.loop body).wp P (fun e a' W' => ∃ ρ', e = AXe t.get.1 ∧ ExtB B ρ ρ' ∧ Rl B F W0 ρ' t.get.2 a' W') a W

def LoopIn (body : Code) : Code → Prop
  | .seq a b => LoopIn body a ∨ LoopIn body b
  | .cond _ a b => LoopIn body a ∨ LoopIn body b
  | .block _ c => LoopIn body c
  | .scope c => LoopIn body c
  | .loop c => body = c ∨ LoopIn body c
  | _ => False

/-- what a walk of code comes to -/
abbrev Post (B : Nat) (F : Nat → Prop) (W0 : World) {α : Type} (ok : α → Prop) (le : α → α → Prop) (k : AX → St → Option α) (r : α) (ρ : List Place) : Exit → Act → World → Prop :=
  fun e a' W' => ∃ ax st' ρ' r', e = AXe ax ∧ k ax st' = some r' ∧ ok r' ∧ le r r' ∧ ExtB B ρ ρ' ∧ Rl B F W0 ρ' st' a' W'

theorem Post.mono {α : Type} {J : Jn α} {ok : α → Prop} {le : α → α → Prop} (hJ : JOk J ok le) {k : AX → St → Option α} {r r1 : α} {ρ ρ1 : List Place} (hl : le r r1) (he : ExtB B ρ ρ1) {e : Exit} {a : Act} {W : World}
    (h : Post B F W0 ok le k r1 ρ1 e a W) : Post B F W0 ok le k r ρ e a W := by
  obtain ⟨ax, st', ρ', r', h1, h2, h3, h4, h5, h6⟩ := h
  exact ⟨ax, st', ρ', r', h1, h2, h3, hJ.trans hl h4, he.trans h5, h6⟩

theorem rwK_ok {L : LoopOr} {α : Type} {J : Jn α} {ok : α → Prop} {le : α → α → Prop} (hJ : JOk J ok le) {id : Nat} {k : St → Option α} {st : St} {r : α} (h : rwK J L id k st = some r) (ho : ok r) {ρ : List Place} {a : Act} {W : World} (hr : Rl B F W0 ρ st a W) :
    ∃ st' r', k st' = some r' ∧ ok r' ∧ le r r' ∧ Rl B F W0 ρ st' a W := by
  unfold rwK at h
  split at h
  · split at h
    · rename_i st2 ob hrw
      obtain ⟨rfl, r', h1, h2, h3⟩ := hJ.ob h ho
      exact ⟨_, r', h1, h2, h3, rwSt_ok _ _ _ _ (Nat.le_refl _) hrw hr⟩
    · cases h
  · cases h
  · exact ⟨st, r, h, ho, hJ.refl r, hr⟩

theorem evC_ok {call : CallerT} (hcall : CallerTOk P call) (hm : P.follows .mixedOrders = true) {L : LoopOr} {N : Nat} {α : Type} {J : Jn α} {ok : α → Prop} {le : α → α → Prop} (hJ : JOk J ok le) :
    ∀ (c : Code), (∀ body st l, LoopIn body c → L body st = some (l, true) → LoopOk P B body st l) →
    ∀ (st : St) (k : AX → St → Option α) (r : α), evC J P call L N c st k = some r → ok r → ∀ ρ a W, Rl B F W0 ρ st a W → c.wp P (Post B F W0 ok le k r ρ) a W
  | .skip, hL, st, k, r, h, ho, ρ, a, W, hr => wp_skip ⟨.nrm, st, ρ, r, rfl, h, ho, hJ.refl r, ExtB.refl B ρ, hr⟩
  | .region id ops draw, hL, st, k, r, h, ho, ρ, a, W, hr => by
    simp only [evC] at h
    have fin : ∀ {r1 st1 ρ1 a1 W1}, rwK J L id (k .nrm) st1 = some r1 → ok r1 → le r r1 → ExtB B ρ ρ1 → Rl B F W0 ρ1 st1 a1 W1 → Post B F W0 ok le k r ρ .normal a1 W1 := fun {r1 st1 ρ1 a1 W1} h1 ho1 hle he hr1 => by
      obtain ⟨st2, r2, h2, ho2, hle2, hr2⟩ := rwK_ok hJ h1 ho1 hr1
      exact ⟨.nrm, st2, ρ1, r2, rfl, h2, ho2, hJ.trans hle hle2, he, hr2⟩
    cases draw with
    | true =>
      simp only [cond_true] at h
      split at h
      · rename_i st' ob hev
        obtain ⟨hl, h⟩ := cond_some h
        obtain ⟨rfl, r1, h1, ho1, hle⟩ := hJ.ob h ho
        exact regionV_ok (one1_ok hcall) hm hev (by simpa using hl) hr fun a' W' hr' => fin h1 ho1 hle (ExtB.refl B ρ) hr'
      · split at h
        · rename_i st' l ob hev
          obtain ⟨rfl, r1, h1, ho1, hle⟩ := hJ.ob h ho
          exact regionD_ok hcall hm hev hr fun ρ1 a1 W1 he1 hr1 => evR_ok hcall hJ _ _ _ r1 h1 ho1 ρ1 a1 W1 hr1 fun ρ' st'' a' W' r' h1 h2 h3 h4 h5 => fin h1 h2 (hJ.trans hle h3) (he1.trans h4) h5
        · split at h
          · rename_i st' ob hev
            obtain ⟨rfl, r1, h1, ho1, hle⟩ := hJ.ob h ho
            exact regionX_ok hm hev hr fun a' W' hr' => fin h1 ho1 hle (ExtB.refl B ρ) hr'
          · split at h
            · rename_i st' ob hev
              obtain ⟨rfl, r1, h1, ho1, hle⟩ := hJ.ob h ho
              exact regionY_ok hcall hm hev hr fun ρ' a' W' he hr' => fin h1 ho1 hle he hr'
            · split at h
              · rename_i st' l ob hev
                obtain ⟨rfl, r1, h1, ho1, hle⟩ := hJ.ob h ho
                exact regionU_ok hm hev hr fun ρ1 a1 W1 he1 hr1 => evR_ok hcall hJ _ _ _ r1 h1 ho1 ρ1 a1 W1 hr1 fun ρ' st'' a' W' r' h1 h2 h3 h4 h5 => fin h1 h2 (hJ.trans hle h3) (he1.trans h4) h5
              · split at h
                · rename_i st' l ob hev
                  obtain ⟨rfl, r1, h1, ho1, hle⟩ := hJ.ob h ho
                  exact regionZ_ok hcall hm hev hr fun ρ1 a1 W1 he1 hr1 => evR_ok hcall hJ _ _ _ r1 h1 ho1 ρ1 a1 W1 hr1 fun ρ' st'' a' W' r' h1 h2 h3 h4 h5 => fin h1 h2 (hJ.trans hle h3) (he1.trans h4) h5
                · cases h
    | false =>
      simp only [cond_false] at h
      refine wp_region_list ?_
      rw [← wpK_list]
      exact evR_ok hcall hJ _ _ _ r h ho ρ a W hr fun ρ' st' a' W' r' h1 h2 h3 h4 h5 => fin h1 h2 h3 h4 h5
  | .seq x y, hL, st, k, r, h, ho, ρ, a, W, hr => by
    simp only [evC] at h
    refine wp_seq (wp_mono (evC_ok hcall hm hJ x (fun body st l hb => hL body st l (.inl hb)) st _ r h ho ρ a W hr) ?_)
    rintro e a' W' ⟨ax, st', ρ', r1, rfl, hk, ho1, hle, he, hr'⟩
    cases ax with
    | nrm => exact wp_mono (evC_ok hcall hm hJ y (fun body st l hb => hL body st l (.inr hb)) st' k r1 hk ho1 ρ' a' W' hr') fun e a'' W'' hp => hp.mono hJ hle he
    | ret => exact ⟨.ret, st', ρ', r1, rfl, hk, ho1, hle, he, hr'⟩
    | ext i => exact ⟨.ext i, st', ρ', r1, rfl, hk, ho1, hle, he, hr'⟩
  | .cond c x y, hL, st, k, r, h, ho, ρ, a, W, hr => by
    simp only [evC] at h
    split at h
    · rename_i b hb
      have hc := raw_rel hr.s c
      rw [hb] at hc
      simp only [VRel] at hc
      cases b
      · exact wp_cond_false hc (evC_ok hcall hm hJ y (fun body st l hb => hL body st l (.inr hb)) st k r h ho ρ a W hr)
      · exact wp_cond_true hc (evC_ok hcall hm hJ x (fun body st l hb => hL body st l (.inl hb)) st k r h ho ρ a W hr)
    · rename_i b hb
      have hc := raw_rel hr.s c
      rw [hb] at hc
      have hb : st.ev c = .bool b := by
        cases c with
        | tmp t => simp only [St.raw] at hb; simp [St.ev, hb, delit]
        | const v =>
          simp only [St.raw] at hb
          simp only [St.ev]
          cases hv : absV v <;> rw [hv] at hb <;> simp [mkLit] at hb
        | _ => simp [St.raw] at hb
      split at h
      · rename_i s ob hs
        obtain ⟨_, hs⟩ := cond_some hs
        obtain ⟨rfl, r1, h1, ho1, hle⟩ := hJ.ob h ho
        have hcnd : evS P (one1 call) (.cond c x y) st = some (s, true) := by
          simp only [evS, hb]
          exact hs
        obtain ⟨_, _, _, hw⟩ := evS_ok (B := B) (F := F) (W0 := W0) (one1_ok hcall) hm _ st s hcnd
        refine wp_mono (hw ρ a W hr) ?_
        rintro e a' W' ⟨rfl, hr'⟩
        exact ⟨.nrm, s, ρ, r1, rfl, h1, ho1, hle, ExtB.refl B ρ, hr'⟩
      · cases b
        · obtain ⟨r1, h1, ho1, hle⟩ := hJ.brF h ho
          exact wp_cond_false (VRel_bool hc) (wp_mono (evC_ok hcall hm hJ y (fun body st l hb => hL body st l (.inr hb)) st k r1 h1 ho1 ρ a W hr) fun e a' W' hp => hp.mono hJ hle (ExtB.refl B ρ))
        · obtain ⟨r1, h1, ho1, hle⟩ := hJ.brT h ho
          exact wp_cond_true (VRel_bool hc) (wp_mono (evC_ok hcall hm hJ x (fun body st l hb => hL body st l (.inl hb)) st k r1 h1 ho1 ρ a W hr) fun e a' W' hp => hp.mono hJ hle (ExtB.refl B ρ))
    · cases h
  | .block id c, hL, st, k, r, h, ho, ρ, a, W, hr => by
    simp only [evC] at h
    refine wp_block (wp_mono (evC_ok hcall hm hJ c hL st _ r h ho ρ a W hr) ?_)
    rintro e a' W' ⟨ax, st', ρ', r1, rfl, hk, ho1, hle, he, hr'⟩
    cases ax with
    | nrm => exact ⟨.nrm, st', ρ', r1, rfl, hk, ho1, hle, he, hr'⟩
    | ret => exact ⟨.ret, st', ρ', r1, rfl, hk, ho1, hle, he, hr'⟩
    | ext i =>
      simp only [AXe, Exit.inBlock]
      simp only at hk
      by_cases hi : i = id
      · rw [if_pos hi]
        subst hi
        simp only [Nat.beq_refl, cond_true] at hk
        exact ⟨.nrm, st', ρ', r1, rfl, hk, ho1, hle, he, hr'⟩
      · rw [if_neg hi]
        have : Nat.beq i id = false := by
          cases hb : Nat.beq i id with
          | false => rfl
          | true => exact absurd (Nat.eq_of_beq_eq_true hb) hi
        simp only [this, cond_false] at hk
        exact ⟨.ext i, st', ρ', r1, rfl, hk, ho1, hle, he, hr'⟩
  | .loop c, hL, st, k, r, h, ho, ρ, a, W, hr => by
    simp only [evC] at h
    split at h
    · rename_i l ob hl
      obtain ⟨rfl, r0, h0, ho0, hle0⟩ := hJ.ob h ho
      obtain ⟨r1, h1, ho1, hle⟩ := bindT_ok hJ l r0 h0 ho0
      refine wp_mono (hL c st l (.inl rfl) hl F W0 ρ a W hr) ?_
      rintro e a' W' ⟨ρ', rfl, he, hr'⟩
      exact ⟨l.get.1, l.get.2, ρ', r1, rfl, h1, ho1, hJ.trans hle0 hle, he, hr'⟩
    · have body := evC_ok (L := L) (N := N) hcall hm hJ c (fun body st l hb => hL body st l (.inr hb))
      have key : ∀ (n : Nat) (st : St) (r1 : α) (ρ1 : List Place) (a : Act) (W : World), ExtB B ρ ρ1 → le r r1 → iterN (evC J P call L N c) n st k = some r1 → ok r1 → Rl B F W0 ρ1 st a W →
          Code.rounds P c (Post B F W0 ok le k r ρ) n a W := by
        intro n
        induction n with
        | zero => intro st r1 ρ1 a W _ _ h; simp [iterN] at h
        | succ n ih =>
          intro st r1 ρ1 a W he1 hl1 h ho1 hr
          rw [rounds_succ]
          simp only [iterN] at h
          refine wp_mono (body st _ r1 h ho1 ρ1 a W hr) ?_
          rintro e a' W' ⟨ax, st', ρ', r2, rfl, hk, ho2, hle, he, hr'⟩
          cases ax with
          | nrm => exact ih st' r2 ρ' a' W' (he1.trans he) (hJ.trans hl1 hle) hk ho2 hr'
          | ret => exact ⟨.ret, st', ρ', r2, rfl, hk, ho2, hJ.trans hl1 hle, he1.trans he, hr'⟩
          | ext i => exact ⟨.ext i, st', ρ', r2, rfl, hk, ho2, hJ.trans hl1 hle, he1.trans he, hr'⟩
      exact wp_loop_rounds N (key N st r ρ a W (ExtB.refl B ρ) (hJ.refl r) h ho hr)
  | .exit id, hL, st, k, r, h, ho, ρ, a, W, hr => wp_exit ⟨.ext id, st, ρ, r, rfl, h, ho, hJ.refl r, ExtB.refl B ρ, hr⟩
  | .scope c, hL, st, k, r, h, ho, ρ, a, W, hr => by
    simp only [evC] at h
    refine wp_scope_straight (wp_mono (evC_ok hcall hm hJ c hL st k r h ho ρ a W hr) ?_)
    rintro e a' W' ⟨ax, st', ρ', r1, rfl, hp⟩
    cases ax with
    | nrm => exact ⟨.nrm, st', ρ', r1, rfl, hp⟩
    | ret => exact ⟨.ret, st', ρ', r1, rfl, hp⟩
    | ext i => exact ⟨.ext i, st', ρ', r1, rfl, hp⟩
  | .label l, hL, st, k, r, h, ho, ρ, a, W, hr => wp_label ⟨.nrm, st, ρ, r, rfl, h, ho, hJ.refl r, ExtB.refl B ρ, hr⟩
  | .ret, hL, st, k, r, h, ho, ρ, a, W, hr => wp_ret ⟨.ret, st, ρ, r, rfl, h, ho, hJ.refl r, ExtB.refl B ρ, hr⟩
  | .rangeFunc .., hL, st, k, r, h, ho, ρ, a, W, hr => by simp [evC] at h
  | .goto _, hL, st, k, r, h, ho, ρ, a, W, hr => by simp [evC] at h
  | .refuse _, hL, st, k, r, h, ho, ρ, a, W, hr => by simp [evC] at h

theorem app_eq : ∀ (l m : List AV), app l m = l ++ m
  | [], m => rfl
  | x :: t, m => by simp [app, app_eq t m]
theorem junks_len : ∀ n, (junks n).length = n
  | 0 => rfl
  | n + 1 => by simp [junks, junks_len n]
theorem junks_get : ∀ (n i : Nat) (x : AV), (junks n)[i]? = some x → x = .junk
  | 0, i, x, h => by simp [junks] at h
  | n + 1, 0, x, h => by simp [junks] at h; exact h.symm
  | n + 1, i + 1, x, h => junks_get n i x (by simpa [junks] using h)

/-- the frame at the start -/
theorem SRel.start {ρ : List Place} {args : List AV} {vals : List Value} (h : VRels ρ args vals) (n : Nat) : SRel ρ (app args (junks (n - args.length))) (vals.toArray ++ Array.replicate (n - vals.toArray.size) undef) := by
  have hl := h.length
  rw [app_eq]
  refine ⟨by simp [junks_len, hl], fun i x hi => ?_⟩
  rcases Nat.lt_or_ge i args.length with hlt | hge
  · rw [List.getElem?_append_left hlt] at hi
    obtain ⟨v, hv, hr⟩ := h.get hi
    exact ⟨v, by rw [Array.getElem?_append_left (by simp; omega)]; simpa using hv, hr⟩
  · rw [List.getElem?_append_right hge] at hi
    have := junks_get _ _ _ hi
    subst this
    have hlt := (List.getElem?_eq_some_iff.1 hi).1
    rw [junks_len] at hlt
    exact ⟨undef, by rw [Array.getElem?_append_right (by simp; omega), Array.getElem?_replicate, if_pos (by simp [hl]; omega)], by simp [VRel]⟩

def resV (tmps : Array Value) : ResultVar → Sem Value
  | .tmp t => Pure.pure (tmps.getD t undef)
  | .cell x t => do loadVar t (← asAddr (tmps.getD x undef))

theorem results_eq (fn : Func) (tmps : Array Value) : results fn tmps = (do let vs ← fn.results.mapM (resV tmps); Pure.pure (if h : vs.size = 1 then vs[0] else .tuple vs)) := by
  unfold results
  have e : (fun x => match x with
    | ResultVar.tmp t => (Pure.pure (tmps.getD t undef) : Sem Value)
    | .cell a t => do loadVar t (← asAddr (tmps.getD a undef))) = resV tmps := by funext r; cases r <;> rfl
  exact congrArg (fun g => (do let vs ← fn.results.mapM g; Pure.pure (if h : vs.size = 1 then vs[0] else .tuple vs) : Sem Value)) e

/-- the results -/
theorem resV_run {ρ : List Place} {st : St} {a : Act} {W : World} (hr : Rl B F W0 ρ st a W) {r : ResultVar} {v : AV} (h : resA P st r = some (v, true)) : ∃ u, (resV a.tmps r).run P W = .ok u W ∧ VRel ρ v u := by
  cases r with
  | tmp t =>
    simp only [resA, Option.some.injEq, Prod.mk.injEq, and_true] at h; subst h
    exact ⟨_, rfl, hr.s.gt t⟩
  | cell x t =>
    simp only [resA] at h
    obtain ⟨y, hy, hyr⟩ := load_run (P := P) hr.c.rel h (delit_rel (hr.s.gt x))
    refine ⟨y, ?_, hyr⟩
    simp only [Instr.loadAt] at hy
    simp only [resV]
    generalize a.tmps.getD x undef = z at hy ⊢
    cases z with
    | pointer q =>
      cases q with
      | none => simp [Instr.sureAddr] at hy
      | some q => simpa [Instr.sureAddr, asAddr] using hy
    | _ => simp [Instr.sureAddr] at hy

theorem resL_run {ρ : List Place} {st : St} {a : Act} {W : World} (hr : Rl B F W0 ρ st a W) : ∀ (l : List ResultVar) (vs : List AV), resL P st l = some (vs, true) →
    ∃ us, (l.mapM (resV a.tmps)).run P W = .ok us W ∧ VRels ρ vs us
  | [], vs, h => by
    simp only [resL, Option.some.injEq, Prod.mk.injEq, and_true] at h; subst h
    exact ⟨[], by simp, by simp [VRels]⟩
  | r :: t, vs, h => by
    simp only [resL] at h
    split at h
    · rename_i v ob l ob' h1 h2
      simp only [Option.some.injEq, Prod.mk.injEq] at h
      obtain ⟨rfl, hob⟩ := h
      obtain ⟨rfl, rfl⟩ := andB_true hob
      obtain ⟨us, hus, hrel⟩ := resL_run hr t l h2
      obtain ⟨u, hu, hur⟩ := resV_run (P := P) hr h1
      refine ⟨u :: us, ?_, by simp only [VRels]; exact ⟨u, us, rfl, hur, hrel⟩⟩
      simp [List.mapM_cons, hu, hus]
    · cases h

theorem results_run {ρ : List Place} {st : St} {a : Act} {W : World} {fn : Func} {v : AV} (hr : Rl B F W0 ρ st a W) (h : results1 P fn st = some (v, true)) :
    ∃ u, (results fn a.tmps).run P W = .ok u W ∧ VRel ρ v u := by
  unfold results1 at h
  have main : ∀ vs, resL P st fn.results.toList = some (vs, true) → ∃ us : List Value, VRels ρ vs us ∧ (results fn a.tmps).run P W = .ok (if h : us.toArray.size = 1 then us.toArray[0] else .tuple us.toArray) W := by
    intro vs hvs
    obtain ⟨us, hus, hrel⟩ := resL_run (P := P) hr _ vs hvs
    refine ⟨us, hrel, ?_⟩
    rw [results_eq, Array.mapM_eq_mapM_toList]
    simp only [Sem.run_bind, Sem.run_map, hus, Result.andThen_ok, Sem.run_pure]
  split at h
  · rename_i w ob hv
    simp only [Option.some.injEq, Prod.mk.injEq] at h
    obtain ⟨rfl, rfl⟩ := h
    obtain ⟨us, hrel, hrun⟩ := main _ hv
    simp only [VRels] at hrel
    obtain ⟨u, t, rfl, hu, rfl⟩ := hrel
    exact ⟨u, by simpa using hrun, hu⟩
  · rename_i l ob hne hv
    simp only [Option.some.injEq, Prod.mk.injEq] at h
    obtain ⟨rfl, rfl⟩ := h
    obtain ⟨us, hrel, hrun⟩ := main _ hv
    have hl := hrel.length
    refine ⟨.tuple us.toArray, ?_, by simp only [VRel]; exact ⟨_, rfl, by simpa using hrel⟩⟩
    rw [hrun, dif_neg]
    intro h1
    simp at h1
    cases l with
    | nil => rw [h1] at hl; cases hl
    | cons x t =>
      cases t with
      | nil => exact hne x rfl
      | cons y t => rw [h1] at hl; simp at hl
  · cases h

end
end Go.Sx
