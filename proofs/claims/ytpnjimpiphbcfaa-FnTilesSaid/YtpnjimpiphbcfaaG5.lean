/- Texts of one claim, put together. -/
import Derived.Test.YtpnjimpiphbcfaaG3
import Derived.Test.YtpnjimpiphbcfaaG4
set_option linter.unusedVariables false
set_option linter.unusedSimpArgs false
set_option exponentiation.threshold 3000
set_option maxRecDepth 100000
namespace Go.Proofs.Ytpnjimpiphbcfaa.X5
open Go Go.Sx Go.Sx.R0 Go.Sx.C5 Go.Sx.C1 Go.Sx.Fl Go.Sx.Ink Ieee Go.Proofs.Ytpnjimpiphbcfaa.J1 Go.Proofs.Ytpnjimpiphbcfaa.J2 Go.Proofs.Ytpnjimpiphbcfaa.J4 Go.Proofs.Ytpnjimpiphbcfaa.J5 Go.Proofs.Ytpnjimpiphbcfaa.V5 Go.Proofs.Ytpnjimpiphbcfaa.O5

-- the cover that is drawn
noncomputable def cvr (n : Nat) (g : Nat → Int) (i : Nat) : Option Nat := gr w32 (xp n g 33 (0 + i) (yk n g 0 0 i))
noncomputable def oCv (n : Nat) (g : Nat → Int) : Bool := andB (kk n g 0 0 0) (andB (kk n g 0 0 1) (andB (kk n g 0 0 2) (andB (kk n g 0 0 3) true)))
theorem eCv (n : Nat) (g : Nat → Int) : evF Try.prog (pK n g) noL 20 8 17 [.slc 0 0 n] [.rows false n 1 (ur g)] = some (.leaf (.agg (Q5.cv (cvr n g)), none), oCv n g) := by kernel_rfl
noncomputable def runCv (n : Nat) (g : Nat → Int) : List AV → List Blk → Option Lf := selRun (runAtH [.slc 0 0 n] [.rows false n 1 (ur g)] (.leaf (.agg (Q5.cv (cvr n g)), none)) true)
theorem cvOk (n : Nat) (g : Nat → Int) : SumOk Try.prog 17 (runCv n g) := sum_atH sxApart sxMixed (pK_ok n g) noL (N := 20) (d := 8) fun _ => by
  have e := eCv n g
  unfold oCv at e
  rw [kk_true (k := 0) (by omega), kk_true (k := 1) (by omega), kk_true (k := 2) (by omega), kk_true (k := 3) (by omega)] at e
  exact ⟨noL_all, _, e, LLe.refl _⟩
-- areas
noncomputable def okAt (e : List AV) : Bool := andB (deq e e) (andB (deqH [] []) true)
theorem okAt_true (e : List AV) : okAt e = true := by unfold okAt; rw [deq_self, deqH_self]; rfl
noncomputable def TAr (g : Bool) (c : Nat → Option Nat) : Tr (AV × Option (List Blk)) := .node (!g) (.leaf (.tup [.agg (cF fun _ => some 0), .lit (.int .i64 1)], none)) (.leaf (.tup [.agg (cF (area c)), .lit (.int .i64 0)], none))
theorem eAS (c : Nat → Option Nat) : evF Try.prog extK noL 20 8 33 [.agg (Q5.cv c)] [] = some (TAr (co c) c, true) := by kernel_rfl
theorem eAI (c : Nat → Option Nat) : evF Try.prog extK noL 20 8 32 [.agg (Q5.cv c)] [] = some (TAr (coI c) c, true) := by kernel_rfl
noncomputable def runAr (c : Nat → Option Nat) : List AV → List Blk → Option Lf := selRun (runAtD [.agg (Q5.cv c)] [] (.leaf (.tup [.agg (cF (area c)), .int .i64 0], none)) true)
theorem arS {c : Nat → Option Nat} (hc : ShC c) : SumOk Try.prog 33 (runAr c) := sum_atD sxApart sxMixed extK_ok noL (N := 20) (d := 8) fun _ => by
  refine ⟨noL_all, _, eAS c, ?_⟩
  unfold TAr; rw [co_true hc]; exact LLe.of rfl rfl rfl
theorem arI {c : Nat → Option Nat} (hc : ShC c) : SumOk Try.prog 32 (runAr c) := sum_atD sxApart sxMixed extK_ok noL (N := 20) (d := 8) fun _ => by
  refine ⟨noL_all, _, eAI c, ?_⟩
  unfold TAr; rw [show coI c = co c from covI_cov _ _ _ _, co_true hc]; exact LLe.of rfl rfl rfl
-- validity
theorem eVc (c : Nat → Option Nat) : evF Try.prog extK noL 20 8 35 [.agg (Q5.cv c)] [] = some (.leaf (.bool (coI c), none), true) := by kernel_rfl
noncomputable def runVc (c : Nat → Option Nat) : List AV → List Blk → Option Lf := selRun (runAtD [.agg (Q5.cv c)] [] (.leaf (.bool true, none)) true)
theorem vcI {c : Nat → Option Nat} (hc : ShC c) : SumOk Try.prog 35 (runVc c) := sum_atD sxApart sxMixed extK_ok noL (N := 20) (d := 8) fun _ => by
  refine ⟨noL_all, _, eVc c, ?_⟩
  rw [show coI c = co c from covI_cov _ _ _ _, co_true hc]; exact LLe.refl _
noncomputable def runVp (f : Nat → Option Nat) : List AV → List Blk → Option Lf := selRun (runAtD [.agg (pcs f)] [] (.leaf (.bool true, none)) true)
theorem vpI {f : Nat → Option Nat} (hf : Sh f) : SumOk Try.prog 34 (runVp f) := sum_atD sxApart sxMixed extK_ok noL (N := 20) (d := 8) fun _ => by
  refine ⟨noL_all, _, vI1 f, ?_⟩
  rw [pVI_pV, pV_true hf.p hf.g]; exact LLe.refl _
-- keys
theorem ky0 : evF Try.prog extK noL 20 8 36 [.lit (.int .i64 0)] [] = some (.leaf (.tup [.agg [.bool (kb 0 0), .bool (kb 0 1), .bool (kb 0 2), .bool (kb 0 3)], .lit (.int .i64 0)], none), true) := by kernel_rfl
theorem ky1 : evF Try.prog extK noL 20 8 36 [.lit (.int .i64 1)] [] = some (.leaf (.tup [.agg [.bool (kb 1 0), .bool (kb 1 1), .bool (kb 1 2), .bool (kb 1 3)], .lit (.int .i64 0)], none), true) := by kernel_rfl
theorem ky2 : evF Try.prog extK noL 20 8 36 [.lit (.int .i64 2)] [] = some (.leaf (.tup [.agg [.bool (kb 2 0), .bool (kb 2 1), .bool (kb 2 2), .bool (kb 2 3)], .lit (.int .i64 0)], none), true) := by kernel_rfl
theorem ky3 : evF Try.prog extK noL 20 8 36 [.lit (.int .i64 3)] [] = some (.leaf (.tup [.agg [.bool (kb 3 0), .bool (kb 3 1), .bool (kb 3 2), .bool (kb 3 3)], .lit (.int .i64 0)], none), true) := by kernel_rfl
theorem ky4 : evF Try.prog extK noL 20 8 36 [.lit (.int .i64 4)] [] = some (.leaf (.tup [.agg [.bool (kb 4 0), .bool (kb 4 1), .bool (kb 4 2), .bool (kb 4 3)], .lit (.int .i64 0)], none), true) := by kernel_rfl
theorem ky5 : evF Try.prog extK noL 20 8 36 [.lit (.int .i64 5)] [] = some (.leaf (.tup [.agg [.bool (kb 5 0), .bool (kb 5 1), .bool (kb 5 2), .bool (kb 5 3)], .lit (.int .i64 0)], none), true) := by kernel_rfl
theorem ky6 : evF Try.prog extK noL 20 8 36 [.lit (.int .i64 6)] [] = some (.leaf (.tup [.agg [.bool (kb 6 0), .bool (kb 6 1), .bool (kb 6 2), .bool (kb 6 3)], .lit (.int .i64 0)], none), true) := by kernel_rfl
theorem ky7 : evF Try.prog extK noL 20 8 36 [.lit (.int .i64 7)] [] = some (.leaf (.tup [.agg [.bool (kb 7 0), .bool (kb 7 1), .bool (kb 7 2), .bool (kb 7 3)], .lit (.int .i64 0)], none), true) := by kernel_rfl
theorem ky8 : evF Try.prog extK noL 20 8 36 [.lit (.int .i64 8)] [] = some (.leaf (.tup [.agg [.bool (kb 8 0), .bool (kb 8 1), .bool (kb 8 2), .bool (kb 8 3)], .lit (.int .i64 0)], none), true) := by kernel_rfl
theorem ky9 : evF Try.prog extK noL 20 8 36 [.lit (.int .i64 9)] [] = some (.leaf (.tup [.agg [.bool (kb 9 0), .bool (kb 9 1), .bool (kb 9 2), .bool (kb 9 3)], .lit (.int .i64 0)], none), true) := by kernel_rfl
theorem ky10 : evF Try.prog extK noL 20 8 36 [.lit (.int .i64 10)] [] = some (.leaf (.tup [.agg [.bool (kb 10 0), .bool (kb 10 1), .bool (kb 10 2), .bool (kb 10 3)], .lit (.int .i64 0)], none), true) := by kernel_rfl
theorem ky11 : evF Try.prog extK noL 20 8 36 [.lit (.int .i64 11)] [] = some (.leaf (.tup [.agg [.bool (kb 11 0), .bool (kb 11 1), .bool (kb 11 2), .bool (kb 11 3)], .lit (.int .i64 0)], none), true) := by kernel_rfl
theorem ky12 : evF Try.prog extK noL 20 8 36 [.lit (.int .i64 12)] [] = some (.leaf (.tup [.agg [.bool (kb 12 0), .bool (kb 12 1), .bool (kb 12 2), .bool (kb 12 3)], .lit (.int .i64 0)], none), true) := by kernel_rfl
theorem ky13 : evF Try.prog extK noL 20 8 36 [.lit (.int .i64 13)] [] = some (.leaf (.tup [.agg [.bool (kb 13 0), .bool (kb 13 1), .bool (kb 13 2), .bool (kb 13 3)], .lit (.int .i64 0)], none), true) := by kernel_rfl
theorem ky14 : evF Try.prog extK noL 20 8 36 [.lit (.int .i64 14)] [] = some (.leaf (.tup [.agg [.bool (kb 14 0), .bool (kb 14 1), .bool (kb 14 2), .bool (kb 14 3)], .lit (.int .i64 0)], none), true) := by kernel_rfl
theorem ky15 : evF Try.prog extK noL 20 8 36 [.lit (.int .i64 15)] [] = some (.leaf (.tup [.agg [.bool (kb 15 0), .bool (kb 15 1), .bool (kb 15 2), .bool (kb 15 3)], .lit (.int .i64 0)], none), true) := by kernel_rfl
noncomputable def runKO (n : Nat) : List AV → List Blk → Option Lf := selRun (runAtD [.int .i64 (Int.ofNat n)] [] (.leaf (.tup [.agg [.bool (kb n 0), .bool (kb n 1), .bool (kb n 2), .bool (kb n 3)], .int .i64 0], none)) true)
theorem keyOk {n : Nat} (hn : n < 16) : SumOk Try.prog 36 (runKO n) := sum_selG sxApart sxMixed fun args H t hr _ => by
  unfold runAtD at hr
  simp only [Option.some.injEq, Prod.mk.injEq] at hr
  obtain ⟨rfl, ho⟩ := hr
  obtain ⟨h1, ho⟩ := andB_true ho
  obtain ⟨h2, _⟩ := andB_true ho
  have h1 := deq_eq h1
  have h2 := deqH_eq h2
  subst h2
  have lit : ∀ (k : Int) (ρ : List Sx.Place) (vals : List Value), VRels ρ [.int .i64 k] vals → VRels ρ [.lit (.int .i64 k)] vals := fun k ρ vals hv => by
    simp only [VRels] at hv ⊢
    exact hv
  rcases n with _ | _ | _ | _ | _ | _ | _ | _ | _ | _ | _ | _ | _ | _ | _ | _ | n
  · exact ⟨extK, noL, 20, 8, _, _, extK_ok, noL_all, fun ρ vals hv => lit _ ρ vals (by have h := delits_rel hv; rw [h1] at h; exact h), ky0, LLe.of rfl rfl rfl⟩
  · exact ⟨extK, noL, 20, 8, _, _, extK_ok, noL_all, fun ρ vals hv => lit _ ρ vals (by have h := delits_rel hv; rw [h1] at h; exact h), ky1, LLe.of rfl rfl rfl⟩
  · exact ⟨extK, noL, 20, 8, _, _, extK_ok, noL_all, fun ρ vals hv => lit _ ρ vals (by have h := delits_rel hv; rw [h1] at h; exact h), ky2, LLe.of rfl rfl rfl⟩
  · exact ⟨extK, noL, 20, 8, _, _, extK_ok, noL_all, fun ρ vals hv => lit _ ρ vals (by have h := delits_rel hv; rw [h1] at h; exact h), ky3, LLe.of rfl rfl rfl⟩
  · exact ⟨extK, noL, 20, 8, _, _, extK_ok, noL_all, fun ρ vals hv => lit _ ρ vals (by have h := delits_rel hv; rw [h1] at h; exact h), ky4, LLe.of rfl rfl rfl⟩
  · exact ⟨extK, noL, 20, 8, _, _, extK_ok, noL_all, fun ρ vals hv => lit _ ρ vals (by have h := delits_rel hv; rw [h1] at h; exact h), ky5, LLe.of rfl rfl rfl⟩
  · exact ⟨extK, noL, 20, 8, _, _, extK_ok, noL_all, fun ρ vals hv => lit _ ρ vals (by have h := delits_rel hv; rw [h1] at h; exact h), ky6, LLe.of rfl rfl rfl⟩
  · exact ⟨extK, noL, 20, 8, _, _, extK_ok, noL_all, fun ρ vals hv => lit _ ρ vals (by have h := delits_rel hv; rw [h1] at h; exact h), ky7, LLe.of rfl rfl rfl⟩
  · exact ⟨extK, noL, 20, 8, _, _, extK_ok, noL_all, fun ρ vals hv => lit _ ρ vals (by have h := delits_rel hv; rw [h1] at h; exact h), ky8, LLe.of rfl rfl rfl⟩
  · exact ⟨extK, noL, 20, 8, _, _, extK_ok, noL_all, fun ρ vals hv => lit _ ρ vals (by have h := delits_rel hv; rw [h1] at h; exact h), ky9, LLe.of rfl rfl rfl⟩
  · exact ⟨extK, noL, 20, 8, _, _, extK_ok, noL_all, fun ρ vals hv => lit _ ρ vals (by have h := delits_rel hv; rw [h1] at h; exact h), ky10, LLe.of rfl rfl rfl⟩
  · exact ⟨extK, noL, 20, 8, _, _, extK_ok, noL_all, fun ρ vals hv => lit _ ρ vals (by have h := delits_rel hv; rw [h1] at h; exact h), ky11, LLe.of rfl rfl rfl⟩
  · exact ⟨extK, noL, 20, 8, _, _, extK_ok, noL_all, fun ρ vals hv => lit _ ρ vals (by have h := delits_rel hv; rw [h1] at h; exact h), ky12, LLe.of rfl rfl rfl⟩
  · exact ⟨extK, noL, 20, 8, _, _, extK_ok, noL_all, fun ρ vals hv => lit _ ρ vals (by have h := delits_rel hv; rw [h1] at h; exact h), ky13, LLe.of rfl rfl rfl⟩
  · exact ⟨extK, noL, 20, 8, _, _, extK_ok, noL_all, fun ρ vals hv => lit _ ρ vals (by have h := delits_rel hv; rw [h1] at h; exact h), ky14, LLe.of rfl rfl rfl⟩
  · exact ⟨extK, noL, 20, 8, _, _, extK_ok, noL_all, fun ρ vals hv => lit _ ρ vals (by have h := delits_rel hv; rw [h1] at h; exact h), ky15, LLe.of rfl rfl rfl⟩
  · omega
def bk (a b c d : Bool) : List AV := [.bool a, .bool b, .bool c, .bool d]
theorem eNK : ∀ a b c d : Bool, evF Try.prog extK noL 20 8 37 [.agg [.lit (.bool a), .lit (.bool b), .lit (.bool c), .lit (.bool d)]] [] = some (.leaf (.lit (.int .i64 (Int.ofNat (Pr.num a b c d))), none), true)
  | true, true, true, true => by kernel_rfl
  | true, true, true, false => by kernel_rfl
  | true, true, false, true => by kernel_rfl
  | true, true, false, false => by kernel_rfl
  | true, false, true, true => by kernel_rfl
  | true, false, true, false => by kernel_rfl
  | true, false, false, true => by kernel_rfl
  | true, false, false, false => by kernel_rfl
  | false, true, true, true => by kernel_rfl
  | false, true, true, false => by kernel_rfl
  | false, true, false, true => by kernel_rfl
  | false, true, false, false => by kernel_rfl
  | false, false, true, true => by kernel_rfl
  | false, false, true, false => by kernel_rfl
  | false, false, false, true => by kernel_rfl
  | false, false, false, false => by kernel_rfl
noncomputable def runNK (a b c d : Bool) : List AV → List Blk → Option Lf := selRun (runAtH [.agg (bk a b c d)] [] (.leaf (.int .i64 (Int.ofNat (Pr.num a b c d)), none)) true)
theorem nkOk (a b c d : Bool) : SumOk Try.prog 37 (runNK a b c d) := sum_atHl sxApart sxMixed extK_ok noL (N := 20) (d := 8) fun _ => ⟨noL_all, _, eNK a b c d, LLe.of rfl rfl rfl⟩
-- overprints
noncomputable def TOv (g : Bool) (f : Nat → Option Nat) (a b c d : Bool) : Tr (AV × Option (List Blk)) := .node (!g) (.leaf (.tup [.agg (cF fun _ => some 0), .lit (.int .i64 1)], none)) (.leaf (.tup [.agg (cF (ov f a b c d)), .lit (.int .i64 0)], none))
noncomputable def okOI (f : Nat → Option Nat) : Bool := andB (deq [.agg (pcs f)] [.agg (pcs f)]) (deqH [] [])
noncomputable def oOv (f : Nat → Option Nat) : Bool := andB (ovwI f) (impB (!!pV f) (andB (okOI f) true))
theorem eOv (f : Nat → Option Nat) (a b c d : Bool) : evF Try.prog (oK f extK) noL 20 8 22 [.agg (pcs f), .agg (bk a b c d)] [] = some (TOv (pV f) f a b c d, oOv f) := by kernel_rfl
noncomputable def runOv (f : Nat → Option Nat) (a b c d : Bool) : List AV → List Blk → Option Lf := selRun (runAtD [.agg (pcs f), .agg (bk a b c d)] [] (.leaf (.tup [.agg (cF (ov f a b c d)), .int .i64 0], none)) true)
theorem ovOk {f : Nat → Option Nat} (hf : Sh f) (a b c d : Bool) : SumOk Try.prog 22 (runOv f a b c d) := sum_atD sxApart sxMixed (oK_ok f extK_ok) noL (N := 20) (d := 8) fun _ => by
  have e := eOv f a b c d
  unfold oOv at e
  rw [show ovwI f = true from ovwI_true f, show okOI f = true from owI_true f, pV_true hf.p hf.g] at e
  refine ⟨noL_all, _, e, ?_⟩
  unfold TOv; exact LLe.of rfl rfl rfl
-- what is printed, at any cover
def c4 (a b c d : Option Nat) (i : Nat) : Option Nat := bif Nat.beq i 0 then a else bif Nat.beq i 1 then b else bif Nat.beq i 2 then c else d
noncomputable def okPG (f : Nat → Option Nat) (p : AV) (a b c d : Option Nat) : Bool := andB (deq [delit p] [.agg (pcs f)]) (pB (ShC (c4 a b c d)))
noncomputable def runPG (f : Nat → Option Nat) : List AV → List Blk → Option Lf := fun args H => match args, H with
  | [p, .agg [.flt .f32 a, .flt .f32 b, .flt .f32 c, .flt .f32 d]], [] => some (.leaf (.tup [.agg (cF (pr f (c4 a b c d) (rF f))), .int .i64 0], none), okPG f p a b c d)
  | _, _ => none
theorem okPG_true {f : Nat → Option Nat} {a b c d : Option Nat} (h : ShC (c4 a b c d)) : okPG f (.agg (pcs f)) a b c d = true := by
  unfold okPG
  rw [show deq [delit (.agg (pcs f))] [.agg (pcs f)] = true from deq_self _, pB_true h]; rfl
theorem pgI {f : Nat → Option Nat} (hf : Sh f) : SumOk Try.prog 29 (selRun (runPG f)) := sum_selG sxApart sxMixed fun args H t hr _ => by
  unfold runPG at hr
  split at hr
  case h_2 => cases hr
  rename_i p a b c d _
  simp only [Option.some.injEq, Prod.mk.injEq] at hr
  obtain ⟨rfl, ho⟩ := hr
  obtain ⟨h1, h2⟩ := andB_true ho
  have h1 := deq_eq h1
  have hc := pB_of h2
  have h := hI f (c4 a b c d)
  have hco : coI (c4 a b c d) = co (c4 a b c d) := covI_cov _ _ _ _
  rw [show ovwI f = true from ovwI_true f, orI_eq, opI_true, pV_true hf.p hf.g, hco, co_true hc, fin_true (pr_fin hf.g hc (rF_LE hf.p))] at h
  refine ⟨_, noL, 20, 8, _, [.agg (pcs f), .agg (Q5.cv (c4 a b c d))], V5.pK_ok _ hf.p, noL_all, fun ρ vals hv => ?_, h, LLe.of rfl rfl rfl⟩
  have h3 := delits_rel hv
  simp only [List.map_cons, List.map_nil] at h3
  simp only [List.cons.injEq, and_true] at h1
  rw [h1] at h3
  exact h3
theorem pgS {f : Nat → Option Nat} (hf : Sh f) : SumOk Try.prog 39 (selRun (runPG f)) := sum_selG sxApart sxMixed fun args H t hr _ => by
  unfold runPG at hr
  split at hr
  case h_2 => cases hr
  rename_i p a b c d _
  simp only [Option.some.injEq, Prod.mk.injEq] at hr
  obtain ⟨rfl, ho⟩ := hr
  obtain ⟨h1, h2⟩ := andB_true ho
  have h1 := deq_eq h1
  have hc := pB_of h2
  have h := hS f (c4 a b c d)
  rw [show ovwS f = true from ovwS_true f, orS_eq, opS_true, pV_true hf.p hf.g, co_true hc] at h
  refine ⟨_, noL, 20, 8, _, [.agg (pcs f), .agg (Q5.cv (c4 a b c d))], V5.pK_ok _ hf.p, noL_all, fun ρ vals hv => ?_, h, LLe.of rfl rfl rfl⟩
  have h3 := delits_rel hv
  simp only [List.map_cons, List.map_nil] at h3
  simp only [List.cons.injEq, and_true] at h1
  rw [h1] at h3
  exact h3
-- curves alike, and near
noncomputable def saL : List (Option Nat) → Bool
  | [] => true
  | x :: t => cond (cond (sameF x x) false true) false (saL t)
theorem sameF_self (x : Option Nat) : sameF x x = true := by
  unfold sameF
  cases fcmp .neq .f32 x x <;> simp
theorem saL_true : ∀ l, saL l = true
  | [] => rfl
  | x :: t => by unfold saL; rw [sameF_self, saL_true t]; rfl
theorem eSC (p : Nat → Option Nat) : evF Try.prog (addK 92 sameRun extK) noL 20 8 23 [.agg (cF p), .agg (cF p)] [] = some (.leaf (.bool (saL (l16 p 0)), none), true) := by kernel_rfl
noncomputable def runSC (p : Nat → Option Nat) : List AV → List Blk → Option Lf := selRun (runAtH [.agg (cF p), .agg (cF p)] [] (.leaf (.bool true, none)) true)
theorem scOk (p : Nat → Option Nat) : SumOk Try.prog 23 (runSC p) := sum_atH sxApart sxMixed (addK_ok sumSameS extK_ok) noL (N := 20) (d := 8) fun _ => by
  have e := eSC p
  rw [saL_true] at e
  exact ⟨noL_all, _, e, LLe.refl _⟩
abbrev tk : Option Nat := some 953267991
noncomputable def nL (p q : Nat → Option Nat) : Nat → Nat → Bool
  | 0, _ => true
  | n + 1, w => cond (cond (J6.nr (p (0 + w)) (q (0 + w)) tk) false true) false (nL p q n (w + 1))
noncomputable def nO (p q : Nat → Option Nat) : Nat → Nat → Bool
  | 0, _ => true
  | n + 1, w => andB (andB (J6.obN (fop .sub .f32 (p (0 + w)) (q (0 + w)))) true) (impB (!cond (J6.nr (p (0 + w)) (q (0 + w)) tk) false true) (nO p q n (w + 1)))
theorem eFC (p q : Nat → Option Nat) : evF Try.prog (addK 24 (selRun J6.runN) extK) noL 20 8 38 [.agg (cF p), .agg (cF q), .flt .f32 tk] [] = some (.leaf (.bool (nL p q 16 0), none), nO p q 16 0) := by kernel_rfl
theorem nL_true {p q : Nat → Option Nat} : ∀ {n w : Nat}, (∀ v, w ≤ v → v < w + n → J6.nr (p v) (q v) tk = true ∧ J6.obN (fop .sub .f32 (p v) (q v)) = true) → nL p q n w = true ∧ nO p q n w = true
  | 0, _, _ => ⟨rfl, rfl⟩
  | n + 1, w, h => by
    obtain ⟨h1, h2⟩ := h w (Nat.le_refl _) (by omega)
    obtain ⟨k1, k2⟩ := nL_true (p := p) (q := q) (n := n) (w := w + 1) fun v hv hv2 => h v (by omega) (by omega)
    unfold nL nO
    rw [Nat.zero_add, h1, h2, k1, k2]
    exact ⟨rfl, rfl⟩
noncomputable def runFC (p q : Nat → Option Nat) : List AV → List Blk → Option Lf := selRun (runAtD [.agg (cF p), .agg (cF q), .flt .f32 tk] [] (.leaf (.bool true, none)) true)
theorem fcOk {p q : Nat → Option Nat} (h : ∀ v, v < 16 → J6.nr (p v) (q v) tk = true ∧ J6.obN (fop .sub .f32 (p v) (q v)) = true) : SumOk Try.prog 38 (runFC p q) := sum_atD sxApart sxMixed (addK_ok J6.nearOk extK_ok) noL (N := 20) (d := 8) fun _ => by
  have e := eFC p q
  obtain ⟨k1, k2⟩ := nL_true (p := p) (q := q) (n := 16) (w := 0) fun v _ hv => h v (by omega)
  rw [k1, k2] at e
  exact ⟨noL_all, _, e, LLe.refl _⟩
end Go.Proofs.Ytpnjimpiphbcfaa.X5
set_option linter.unusedVariables false
set_option linter.unusedSimpArgs false
set_option exponentiation.threshold 3000
set_option maxRecDepth 100000
namespace Go.Proofs.Ytpnjimpiphbcfaa.K5
open Go Go.Sx Go.Sx.R0 Go.Sx.C5 Go.Sx.C1 Go.Sx.Fl Go.Sx.Ink Ieee Go.Proofs.Ytpnjimpiphbcfaa.J1 Go.Proofs.Ytpnjimpiphbcfaa.J2 Go.Proofs.Ytpnjimpiphbcfaa.J4 Go.Proofs.Ytpnjimpiphbcfaa.J5 Go.Proofs.Ytpnjimpiphbcfaa.V5 Go.Proofs.Ytpnjimpiphbcfaa.O5 Go.Proofs.Ytpnjimpiphbcfaa.X5

def b16 (U : Nat → Bool) : List AV := [.bool (U 0), .bool (U 1), .bool (U 2), .bool (U 3), .bool (U 4), .bool (U 5), .bool (U 6), .bool (U 7), .bool (U 8), .bool (U 9), .bool (U 10), .bool (U 11), .bool (U 12), .bool (U 13), .bool (U 14), .bool (U 15)]
/-- the numbers of the places -/
def pn (i : Nat) : Nat := [0, 8, 2, 10, 12, 4, 14, 6, 3, 11, 1, 9, 15, 7, 13, 5].getD i 0
def tl (l : Nat) (i : Nat) : Bool := decide (Int.ofNat (pn i) < Int.ofNat l)
def TTl (l : Nat) : Tr (AV × Option (List Blk)) := .node (!cond (decide (0 ≤ Int.ofNat l)) (decide (Int.ofNat l ≤ 16)) false) (.leaf (.tup [.agg (b16 fun _ => false), .lit (.int .i64 2)], none)) (.leaf (.tup [.agg (b16 (tl l)), .lit (.int .i64 0)], none))
theorem eTI (l : Nat) : evF Try.prog extK noL 20 8 8 [.int .i64 (Int.ofNat l)] [] = some (TTl l, true) := by kernel_rfl
def TTs (l : Nat) : Tr (AV × Option (List Blk)) := .node (!cond (decide (Int.ofNat l ≥ 0)) (decide (Int.ofNat l ≤ 16)) false) (.leaf (.tup [.agg (b16 fun _ => false), .lit (.int .i64 2)], none)) (.leaf (.tup [.agg (b16 (tl l)), .lit (.int .i64 0)], none))
theorem eTS (l : Nat) : evF Try.prog extK noL 20 8 9 [.int .i64 (Int.ofNat l)] [] = some (TTs l, true) := by kernel_rfl
def tu (U : Nat → Bool) (i : Nat) : Bool := U (4 * (3 - i % 4) + i / 4)
theorem eUI (U : Nat → Bool) : evF Try.prog extK noL 20 8 14 [.agg (b16 U)] [] = some (.leaf (.agg (b16 (tu U)), none), true) := by kernel_rfl
theorem eUS (U : Nat → Bool) : evF Try.prog extK noL 20 8 15 [.agg (b16 U)] [] = some (.leaf (.agg (b16 (tu U)), none), true) := by kernel_rfl
def ou (T U : Nat → Bool) (i : Nat) : Bool := cond (T i) true (U i)
theorem eOI (T U : Nat → Bool) : evF Try.prog extK noL 20 8 11 [.agg (b16 T), .agg (b16 U)] [] = some (.leaf (.agg (b16 (ou T U)), none), true) := by kernel_rfl
noncomputable def lvl (U : Nat → Bool) : Nat → Int
  | 0 => 0
  | k + 1 => cond (U k) (IntKind.i64.wrap (lvl U k + 1)) (lvl U k)
theorem eLI (U : Nat → Bool) : evF Try.prog extK noL 20 8 10 [.agg (b16 U)] [] = some (.leaf (.int .i64 (lvl U 16), none), true) := by kernel_rfl
-- contracts told by what comes in
noncomputable def runC (e : List AV → List AV) (T : List AV → AV) (g : List AV → Bool) : List AV → List Blk → Option Lf := fun args H => match H with
  | [] => some (.leaf (T args, none), andB (deq (delitL args) (e args)) (g args))
  | _ => none
theorem sumC {F : FuncId} {e : List AV → List AV} {T : List AV → AV} {g : List AV → Bool} (h : ∀ args, g args = true → ∃ (K : CallerT) (L : LoopOr) (N d : Nat) (T' : Tr (AV × Option (List Blk))), CallerTOk Try.prog K ∧ LOk Try.prog 0 F L ∧ evF Try.prog K L N d F (e args) [] = some (T', true) ∧ LLe T'.get (T args, none)) : SumOk Try.prog F (selRun (runC e T g)) := sum_selG sxApart sxMixed fun args H t hr _ => by
  unfold runC at hr
  split at hr
  case h_2 => cases hr
  simp only [Option.some.injEq, Prod.mk.injEq] at hr
  obtain ⟨rfl, ho⟩ := hr
  obtain ⟨h1, h2⟩ := andB_true ho
  have h1 := deq_eq h1
  obtain ⟨K, L, N, d, T', hK, hL, he, hl⟩ := h args h2
  refine ⟨K, L, N, d, T', e args, hK, hL, fun ρ vals hv => ?_, he, hl⟩
  rw [← h1]
  exact delitL_iff.2 hv
noncomputable def okC (l : List AV) : Bool := andB (deq l l) true
theorem okC_true (l : List AV) : okC l = true := by unfold okC; rw [deq_self]; rfl
def boolOf : AV → Bool
  | .bool b => b
  | .lit (.bool b) => b
  | _ => false
def tO (l : List AV) (i : Nat) : Bool := boolOf (gt l i)
def aggOf : AV → List AV
  | .agg l => l
  | _ => []
def a0 (args : List AV) : Nat → Bool := tO (aggOf (gt args 0))
def a1 (args : List AV) : Nat → Bool := tO (aggOf (gt args 1))
-- turned, over, levels
noncomputable def runTu := runC (fun args => [.agg (b16 (a0 args))]) (fun args => .agg (b16 (tu (a0 args)))) (fun _ => true)
theorem tuI : SumOk Try.prog 14 (selRun runTu) := sumC fun args _ => ⟨extK, noL, 20, 8, _, extK_ok, noL_all, eUI _, LLe.refl _⟩
theorem tuS : SumOk Try.prog 15 (selRun runTu) := sumC fun args _ => ⟨extK, noL, 20, 8, _, extK_ok, noL_all, eUS _, LLe.refl _⟩
noncomputable def runOu := runC (fun args => [.agg (b16 (a0 args)), .agg (b16 (a1 args))]) (fun args => .agg (b16 (ou (a0 args) (a1 args)))) (fun _ => true)
theorem ouI : SumOk Try.prog 11 (selRun runOu) := sumC fun args _ => ⟨extK, noL, 20, 8, _, extK_ok, noL_all, eOI _ _, LLe.refl _⟩
def cn (U : Nat → Bool) : Nat → Nat
  | 0 => 0
  | k + 1 => cn U k + (U k).toNat
theorem cn_le (U : Nat → Bool) : ∀ k, cn U k ≤ k
  | 0 => Nat.le_refl _
  | k + 1 => by
    have := cn_le U k
    have := Bool.toNat_le (U k)
    unfold cn; omega
theorem lvl_cn (U : Nat → Bool) : ∀ k, k ≤ 16 → lvl U k = Int.ofNat (cn U k)
  | 0, _ => rfl
  | k + 1, h => by
    have ih := lvl_cn U k (by omega)
    have := cn_le U k
    unfold lvl cn
    rw [ih]
    cases U k
    · rfl
    · show IntKind.i64.wrap (Int.ofNat (cn U k) + 1) = Int.ofNat (cn U k + 1)
      rw [wrap_i64 (by simp only [Int.ofNat_eq_natCast]; omega) (by simp only [Int.ofNat_eq_natCast]; omega)]; rfl
noncomputable def runLv := runC (fun args => [.agg (b16 (a0 args))]) (fun args => .int .i64 (Int.ofNat (cn (a0 args) 16))) (fun _ => true)
theorem lvI : SumOk Try.prog 10 (selRun runLv) := sumC fun args _ => ⟨extK, noL, 20, 8, _, extK_ok, noL_all, eLI _, by rw [lvl_cn _ 16 (by omega)]; exact LLe.refl _⟩
-- tiles of a level
noncomputable def runTl : List AV → List Blk → Option Lf := fun args H => match args, H with
  | [.int .i64 (.ofNat l)], [] => some (.leaf (.tup [.agg (b16 (tl l)), .int .i64 0], none), Nat.ble l 16)
  | _, _ => none
theorem tlI : SumOk Try.prog 8 (selRun runTl) := sum_sel sxApart sxMixed fun args H t hr => by
  unfold runTl at hr
  split at hr
  case h_2 => cases hr
  rename_i l
  simp only [Option.some.injEq, Prod.mk.injEq] at hr
  obtain ⟨rfl, hl⟩ := hr
  have hl := Nat.le_of_ble_eq_true hl
  refine ⟨extK, noL, 20, 8, _, extK_ok, noL_all, eTI l, ?_⟩
  unfold TTl
  rw [decide_eq_true (show 0 ≤ Int.ofNat l by simp), decide_eq_true (show Int.ofNat l ≤ 16 by simp only [Int.ofNat_eq_natCast]; omega)]
  exact LLe.of rfl rfl rfl
theorem tlS : SumOk Try.prog 9 (selRun runTl) := sum_sel sxApart sxMixed fun args H t hr => by
  unfold runTl at hr
  split at hr
  case h_2 => cases hr
  rename_i l
  simp only [Option.some.injEq, Prod.mk.injEq] at hr
  obtain ⟨rfl, hl⟩ := hr
  have hl := Nat.le_of_ble_eq_true hl
  refine ⟨extK, noL, 20, 8, _, extK_ok, noL_all, eTS l, ?_⟩
  unfold TTs
  rw [decide_eq_true (show Int.ofNat l ≥ 0 by simp), decide_eq_true (show Int.ofNat l ≤ 16 by simp only [Int.ofNat_eq_natCast]; omega)]
  exact LLe.of rfl rfl rfl
-- overprints
def a1k (args : List AV) : List AV := bk (a1 args 0) (a1 args 1) (a1 args 2) (a1 args 3)
noncomputable def runOvC (f : Nat → Option Nat) := runC (fun args => [.agg (pcs f), .agg (a1k args)]) (fun args => .tup [.agg (cF (ov f (a1 args 0) (a1 args 1) (a1 args 2) (a1 args 3))), .int .i64 0]) (fun _ => true)
theorem ovC {f : Nat → Option Nat} (hf : Sh f) : SumOk Try.prog 22 (selRun (runOvC f)) := sumC fun args _ => by
  have e := eOv f (a1 args 0) (a1 args 1) (a1 args 2) (a1 args 3)
  unfold oOv at e
  rw [show ovwI f = true from ovwI_true f, show okOI f = true from owI_true f, pV_true hf.p hf.g] at e
  refine ⟨_, noL, 20, 8, _, oK_ok f extK_ok, noL_all, e, ?_⟩
  unfold TOv; exact LLe.of rfl rfl rfl
end Go.Proofs.Ytpnjimpiphbcfaa.K5
set_option linter.unusedVariables false
set_option linter.unusedSimpArgs false
set_option exponentiation.threshold 3000
set_option maxRecDepth 100000
namespace Go.Proofs.Ytpnjimpiphbcfaa.K6
open Go Go.Sx Go.Sx.R0 Go.Sx.C5 Go.Sx.C1 Go.Sx.Fl Go.Sx.Ink Ieee Go.Proofs.Ytpnjimpiphbcfaa.J1 Go.Proofs.Ytpnjimpiphbcfaa.J2 Go.Proofs.Ytpnjimpiphbcfaa.J4 Go.Proofs.Ytpnjimpiphbcfaa.J5 Go.Proofs.Ytpnjimpiphbcfaa.V5 Go.Proofs.Ytpnjimpiphbcfaa.O5 Go.Proofs.Ytpnjimpiphbcfaa.X5 Go.Proofs.Ytpnjimpiphbcfaa.K5

noncomputable def HA (n m : Nat) (g h : Nat → Int) (l : Nat) : List Blk := [.rows false n 1 (ur g), .rows false m 1 (ur h), .one true (b16 (tl l)), .one true (b16 (tl l))]
noncomputable def SA (n m : Nat) (g h : Nat → Int) (l : Nat) (k : AV) : St := ⟨[.slc 0 0 n, .slc 1 0 m, .junk, .junk, .junk, .int .i64 (Int.ofNat l), .ptr 2 0 0, .junk, .junk, .junk, k] ++ junks 273, HA n m g h l⟩
noncomputable def EA (n m : Nat) (g h : Nat → Int) (l : Nat) : St := ⟨[.slc 0 0 n, .slc 1 0 m, .junk, .junk, .junk, .int .i64 (Int.ofNat l), .ptr 2 0 0, .junk, .junk, .junk, .junk] ++ junks 273, HA n m g h l⟩
noncomputable def HB (n m : Nat) (g h : Nat → Int) (l : Nat) (c : List AV) : List Blk := appH (HA n m g h l) [.one true c]
noncomputable def SB (n m : Nat) (g h : Nat → Int) (l : Nat) (c : List AV) (k : AV) : St := ⟨[.slc 0 0 n, .slc 1 0 m, .junk, .junk, .junk, .int .i64 (Int.ofNat l), .ptr 2 0 0, .junk, .junk, .junk, .junk, .junk, .junk, .ptr 4 0 0, k] ++ junks 269, HB n m g h l c⟩
noncomputable def EB (n m : Nat) (g h : Nat → Int) (l : Nat) (c : List AV) : St := ⟨[.slc 0 0 n, .slc 1 0 m, .junk, .junk, .junk, .int .i64 (Int.ofNat l), .ptr 2 0 0, .junk, .junk, .junk, .junk, .junk, .junk, .junk, .junk] ++ junks 269, HB n m g h l c⟩
-- compared
noncomputable def SD (l : Nat) (H : List Blk) (k : AV) : St := ⟨[.junk, .junk, .junk, .junk, .junk, .int .i64 (Int.ofNat l)] ++ (junks 25 ++ ([.ptr 14 0 0, .junk, .ptr 15 0 0, .junk, .ptr 16 0 0, .junk, k] ++ junks 246)), H⟩
noncomputable def ED (H : List Blk) : St := ⟨junks 284, H⟩
noncomputable def mn (l : Nat) (so pa : Nat → Option Nat) (w : Nat) : Option Nat := fop .quo .f32 (fop .add .f32 (mu (fofI .f32 (Int.ofNat l)) (so (0 + w))) (mu (fofI .f32 (IntKind.i64.wrap (16 - Int.ofNat l))) (pa (0 + w)))) (some 1098907648)
-- the rounds
def r4 (V U : Nat → Bool) (i : Nat) : Bool := andB (V i == U i) (andB (V (i + 1) == U (i + 1)) (andB (V (i + 2) == U (i + 2)) (andB (V (i + 3) == U (i + 3)) true)))
def q16 (V U : Nat → Bool) : Bool := andB (r4 V U 0) (andB (r4 V U 4) (andB (r4 V U 8) (andB (r4 V U 12) true)))
theorem q16_true {V U : Nat → Bool} (h : ∀ i, V i = U i) : q16 V U = true := by
  have : V = U := funext h
  subst this
  unfold q16 r4
  simp only [beq_self_eq_true]
  rfl
noncomputable def kA6 : CallerT := addK 8 (selRun runTl) (addK 11 (selRun runOu) extK)
theorem kA6_ok : CallerTOk Try.prog kA6 := addK_ok tlI (addK_ok ouI extK_ok)
noncomputable def oA (l k : Nat) : Bool := andB (Nat.ble k 16) (andB (andB (andB (andB (okC [.agg (b16 (tl l)), .agg (b16 (tl k))]) true) true) true) true)
theorem rA (n m : Nat) (g h : Nat → Int) (l k : Nat) : evC JS Try.prog (callF Try.prog kA6 20 8) noL 20 (loopN Try.prog 3 10) (SA n m g h l (.int .i64 (Int.ofNat k))) (kG 2 [0, 1, 5, 6, 10] [0, 1, 5, 6] (some [0, 1, 2, 3]) (some [0, 1, 2, 3])) =
    some (.node (decide (Int.ofNat k ≤ Int.ofNat l)) (.node (cond (q16 (ou (tl l) (tl k)) (tl l)) false true) (.leaf (.ret, EA n m g h l)) (.leaf (.nrm, SA n m g h l (.int .i64 (IntKind.i64.wrap (Int.ofNat k + 1)))))) (.leaf (.ext 0, EA n m g h l)), andB (impB (decide (Int.ofNat k ≤ Int.ofNat l)) (oA l k)) true) := by kernel_rfl
def nb (k j : Nat) : Bool := (List.range k).any fun i => Nat.beq (pn i) j
def xb (l i : Nat) : Bool := cond (tl l i == decide (Int.ofNat (pn i) < Int.ofNat l)) false true
theorem xb_no (l i : Nat) : xb l i = false := by unfold xb tl; rw [beq_self_eq_true]; rfl
theorem rB0 (n m : Nat) (g h : Nat → Int) (l : Nat) : evC JS Try.prog (callF Try.prog extK 20 8) noL 20 (loopN Try.prog 3 17) (SB n m g h l (b16 (nb 0)) (.lit (.int .i64 0))) (kG 2 [0, 1, 5, 6, 13, 14] [0, 1, 5, 6] none none) = some ((.node (xb l 0) (.leaf (.ret, EB n m g h l (b16 (nb 0)))) (.node (xb l 1) (.leaf (.ret, EB n m g h l (b16 (nb 1)))) (.node (xb l 2) (.leaf (.ret, EB n m g h l (b16 (nb 2)))) (.node (xb l 3) (.leaf (.ret, EB n m g h l (b16 (nb 3)))) (.leaf (.nrm, SB n m g h l (b16 (nb 4)) (.int .i64 1))))))), true) := by kernel_rfl
theorem rB1 (n m : Nat) (g h : Nat → Int) (l : Nat) : evC JS Try.prog (callF Try.prog extK 20 8) noL 20 (loopN Try.prog 3 17) (SB n m g h l (b16 (nb 4)) (.lit (.int .i64 1))) (kG 2 [0, 1, 5, 6, 13, 14] [0, 1, 5, 6] none none) = some ((.node (xb l 4) (.leaf (.ret, EB n m g h l (b16 (nb 4)))) (.node (xb l 5) (.leaf (.ret, EB n m g h l (b16 (nb 5)))) (.node (xb l 6) (.leaf (.ret, EB n m g h l (b16 (nb 6)))) (.node (xb l 7) (.leaf (.ret, EB n m g h l (b16 (nb 7)))) (.leaf (.nrm, SB n m g h l (b16 (nb 8)) (.int .i64 2))))))), true) := by kernel_rfl
theorem rB2 (n m : Nat) (g h : Nat → Int) (l : Nat) : evC JS Try.prog (callF Try.prog extK 20 8) noL 20 (loopN Try.prog 3 17) (SB n m g h l (b16 (nb 8)) (.lit (.int .i64 2))) (kG 2 [0, 1, 5, 6, 13, 14] [0, 1, 5, 6] none none) = some ((.node (xb l 8) (.leaf (.ret, EB n m g h l (b16 (nb 8)))) (.node (xb l 9) (.leaf (.ret, EB n m g h l (b16 (nb 9)))) (.node (xb l 10) (.leaf (.ret, EB n m g h l (b16 (nb 10)))) (.node (xb l 11) (.leaf (.ret, EB n m g h l (b16 (nb 11)))) (.leaf (.nrm, SB n m g h l (b16 (nb 12)) (.int .i64 3))))))), true) := by kernel_rfl
theorem rB3 (n m : Nat) (g h : Nat → Int) (l : Nat) : evC JS Try.prog (callF Try.prog extK 20 8) noL 20 (loopN Try.prog 3 17) (SB n m g h l (b16 (nb 12)) (.lit (.int .i64 3))) (kG 2 [0, 1, 5, 6, 13, 14] [0, 1, 5, 6] none none) = some ((.node (xb l 12) (.leaf (.ret, EB n m g h l (b16 (nb 12)))) (.node (xb l 13) (.leaf (.ret, EB n m g h l (b16 (nb 13)))) (.node (xb l 14) (.leaf (.ret, EB n m g h l (b16 (nb 14)))) (.node (xb l 15) (.leaf (.ret, EB n m g h l (b16 (nb 15)))) (.leaf (.nrm, SB n m g h l (b16 (nb 16)) (.int .i64 4))))))), true) := by kernel_rfl
theorem rB4 (n m : Nat) (g h : Nat → Int) (l : Nat) : evC JS Try.prog (callF Try.prog extK 20 8) noL 20 (loopN Try.prog 3 17) (SB n m g h l (b16 (nb 16)) (.lit (.int .i64 4))) (kG 2 [0, 1, 5, 6, 13, 14] [0, 1, 5, 6] none none) = some (.leaf (.ext 2, EB n m g h l (b16 (nb 16))), true) := by kernel_rfl
def HD (a b c : Nat → Option Nat) : List Blk := [.dead, .dead, .dead, .dead, .dead, .dead, .dead, .dead, .dead, .dead, .dead, .dead, .dead, .dead, .one true (cF a), .one true (cF b), .one true (cF c)]
noncomputable def kD6 : CallerT := addK 24 (selRun J6.runN) extK
theorem kD6_ok : CallerTOk Try.prog kD6 := addK_ok J6.nearOk extK_ok
theorem rD0 (l : Nat) (a b c : Nat → Option Nat) : evC JS Try.prog (callF Try.prog kD6 20 8) noL 20 (loopN Try.prog 3 45) (SD l (HD a b c) (.lit (.int .i64 0))) (kG 2 [5, 31, 33, 35, 37] [] none none) = some (.node (cond (J6.nr (a (0 + 0)) (mn l c b 0) tk) false true) (.leaf (.ret, ED (HD a b c))) (.leaf (.nrm, SD l (HD a b c) (.int .i64 1))), andB (J6.obN (fop .sub .f32 (a (0 + 0)) (mn l c b 0))) true) := by kernel_rfl
theorem rD1 (l : Nat) (a b c : Nat → Option Nat) : evC JS Try.prog (callF Try.prog kD6 20 8) noL 20 (loopN Try.prog 3 45) (SD l (HD a b c) (.lit (.int .i64 1))) (kG 2 [5, 31, 33, 35, 37] [] none none) = some (.node (cond (J6.nr (a (0 + 1)) (mn l c b 1) tk) false true) (.leaf (.ret, ED (HD a b c))) (.leaf (.nrm, SD l (HD a b c) (.int .i64 2))), andB (J6.obN (fop .sub .f32 (a (0 + 1)) (mn l c b 1))) true) := by kernel_rfl
theorem rD2 (l : Nat) (a b c : Nat → Option Nat) : evC JS Try.prog (callF Try.prog kD6 20 8) noL 20 (loopN Try.prog 3 45) (SD l (HD a b c) (.lit (.int .i64 2))) (kG 2 [5, 31, 33, 35, 37] [] none none) = some (.node (cond (J6.nr (a (0 + 2)) (mn l c b 2) tk) false true) (.leaf (.ret, ED (HD a b c))) (.leaf (.nrm, SD l (HD a b c) (.int .i64 3))), andB (J6.obN (fop .sub .f32 (a (0 + 2)) (mn l c b 2))) true) := by kernel_rfl
theorem rD3 (l : Nat) (a b c : Nat → Option Nat) : evC JS Try.prog (callF Try.prog kD6 20 8) noL 20 (loopN Try.prog 3 45) (SD l (HD a b c) (.lit (.int .i64 3))) (kG 2 [5, 31, 33, 35, 37] [] none none) = some (.node (cond (J6.nr (a (0 + 3)) (mn l c b 3) tk) false true) (.leaf (.ret, ED (HD a b c))) (.leaf (.nrm, SD l (HD a b c) (.int .i64 4))), andB (J6.obN (fop .sub .f32 (a (0 + 3)) (mn l c b 3))) true) := by kernel_rfl
theorem rD4 (l : Nat) (a b c : Nat → Option Nat) : evC JS Try.prog (callF Try.prog kD6 20 8) noL 20 (loopN Try.prog 3 45) (SD l (HD a b c) (.lit (.int .i64 4))) (kG 2 [5, 31, 33, 35, 37] [] none none) = some (.node (cond (J6.nr (a (0 + 4)) (mn l c b 4) tk) false true) (.leaf (.ret, ED (HD a b c))) (.leaf (.nrm, SD l (HD a b c) (.int .i64 5))), andB (J6.obN (fop .sub .f32 (a (0 + 4)) (mn l c b 4))) true) := by kernel_rfl
theorem rD5 (l : Nat) (a b c : Nat → Option Nat) : evC JS Try.prog (callF Try.prog kD6 20 8) noL 20 (loopN Try.prog 3 45) (SD l (HD a b c) (.lit (.int .i64 5))) (kG 2 [5, 31, 33, 35, 37] [] none none) = some (.node (cond (J6.nr (a (0 + 5)) (mn l c b 5) tk) false true) (.leaf (.ret, ED (HD a b c))) (.leaf (.nrm, SD l (HD a b c) (.int .i64 6))), andB (J6.obN (fop .sub .f32 (a (0 + 5)) (mn l c b 5))) true) := by kernel_rfl
theorem rD6 (l : Nat) (a b c : Nat → Option Nat) : evC JS Try.prog (callF Try.prog kD6 20 8) noL 20 (loopN Try.prog 3 45) (SD l (HD a b c) (.lit (.int .i64 6))) (kG 2 [5, 31, 33, 35, 37] [] none none) = some (.node (cond (J6.nr (a (0 + 6)) (mn l c b 6) tk) false true) (.leaf (.ret, ED (HD a b c))) (.leaf (.nrm, SD l (HD a b c) (.int .i64 7))), andB (J6.obN (fop .sub .f32 (a (0 + 6)) (mn l c b 6))) true) := by kernel_rfl
theorem rD7 (l : Nat) (a b c : Nat → Option Nat) : evC JS Try.prog (callF Try.prog kD6 20 8) noL 20 (loopN Try.prog 3 45) (SD l (HD a b c) (.lit (.int .i64 7))) (kG 2 [5, 31, 33, 35, 37] [] none none) = some (.node (cond (J6.nr (a (0 + 7)) (mn l c b 7) tk) false true) (.leaf (.ret, ED (HD a b c))) (.leaf (.nrm, SD l (HD a b c) (.int .i64 8))), andB (J6.obN (fop .sub .f32 (a (0 + 7)) (mn l c b 7))) true) := by kernel_rfl
theorem rD8 (l : Nat) (a b c : Nat → Option Nat) : evC JS Try.prog (callF Try.prog kD6 20 8) noL 20 (loopN Try.prog 3 45) (SD l (HD a b c) (.lit (.int .i64 8))) (kG 2 [5, 31, 33, 35, 37] [] none none) = some (.node (cond (J6.nr (a (0 + 8)) (mn l c b 8) tk) false true) (.leaf (.ret, ED (HD a b c))) (.leaf (.nrm, SD l (HD a b c) (.int .i64 9))), andB (J6.obN (fop .sub .f32 (a (0 + 8)) (mn l c b 8))) true) := by kernel_rfl
theorem rD9 (l : Nat) (a b c : Nat → Option Nat) : evC JS Try.prog (callF Try.prog kD6 20 8) noL 20 (loopN Try.prog 3 45) (SD l (HD a b c) (.lit (.int .i64 9))) (kG 2 [5, 31, 33, 35, 37] [] none none) = some (.node (cond (J6.nr (a (0 + 9)) (mn l c b 9) tk) false true) (.leaf (.ret, ED (HD a b c))) (.leaf (.nrm, SD l (HD a b c) (.int .i64 10))), andB (J6.obN (fop .sub .f32 (a (0 + 9)) (mn l c b 9))) true) := by kernel_rfl
theorem rD10 (l : Nat) (a b c : Nat → Option Nat) : evC JS Try.prog (callF Try.prog kD6 20 8) noL 20 (loopN Try.prog 3 45) (SD l (HD a b c) (.lit (.int .i64 10))) (kG 2 [5, 31, 33, 35, 37] [] none none) = some (.node (cond (J6.nr (a (0 + 10)) (mn l c b 10) tk) false true) (.leaf (.ret, ED (HD a b c))) (.leaf (.nrm, SD l (HD a b c) (.int .i64 11))), andB (J6.obN (fop .sub .f32 (a (0 + 10)) (mn l c b 10))) true) := by kernel_rfl
theorem rD11 (l : Nat) (a b c : Nat → Option Nat) : evC JS Try.prog (callF Try.prog kD6 20 8) noL 20 (loopN Try.prog 3 45) (SD l (HD a b c) (.lit (.int .i64 11))) (kG 2 [5, 31, 33, 35, 37] [] none none) = some (.node (cond (J6.nr (a (0 + 11)) (mn l c b 11) tk) false true) (.leaf (.ret, ED (HD a b c))) (.leaf (.nrm, SD l (HD a b c) (.int .i64 12))), andB (J6.obN (fop .sub .f32 (a (0 + 11)) (mn l c b 11))) true) := by kernel_rfl
theorem rD12 (l : Nat) (a b c : Nat → Option Nat) : evC JS Try.prog (callF Try.prog kD6 20 8) noL 20 (loopN Try.prog 3 45) (SD l (HD a b c) (.lit (.int .i64 12))) (kG 2 [5, 31, 33, 35, 37] [] none none) = some (.node (cond (J6.nr (a (0 + 12)) (mn l c b 12) tk) false true) (.leaf (.ret, ED (HD a b c))) (.leaf (.nrm, SD l (HD a b c) (.int .i64 13))), andB (J6.obN (fop .sub .f32 (a (0 + 12)) (mn l c b 12))) true) := by kernel_rfl
theorem rD13 (l : Nat) (a b c : Nat → Option Nat) : evC JS Try.prog (callF Try.prog kD6 20 8) noL 20 (loopN Try.prog 3 45) (SD l (HD a b c) (.lit (.int .i64 13))) (kG 2 [5, 31, 33, 35, 37] [] none none) = some (.node (cond (J6.nr (a (0 + 13)) (mn l c b 13) tk) false true) (.leaf (.ret, ED (HD a b c))) (.leaf (.nrm, SD l (HD a b c) (.int .i64 14))), andB (J6.obN (fop .sub .f32 (a (0 + 13)) (mn l c b 13))) true) := by kernel_rfl
theorem rD14 (l : Nat) (a b c : Nat → Option Nat) : evC JS Try.prog (callF Try.prog kD6 20 8) noL 20 (loopN Try.prog 3 45) (SD l (HD a b c) (.lit (.int .i64 14))) (kG 2 [5, 31, 33, 35, 37] [] none none) = some (.node (cond (J6.nr (a (0 + 14)) (mn l c b 14) tk) false true) (.leaf (.ret, ED (HD a b c))) (.leaf (.nrm, SD l (HD a b c) (.int .i64 15))), andB (J6.obN (fop .sub .f32 (a (0 + 14)) (mn l c b 14))) true) := by kernel_rfl
theorem rD15 (l : Nat) (a b c : Nat → Option Nat) : evC JS Try.prog (callF Try.prog kD6 20 8) noL 20 (loopN Try.prog 3 45) (SD l (HD a b c) (.lit (.int .i64 15))) (kG 2 [5, 31, 33, 35, 37] [] none none) = some (.node (cond (J6.nr (a (0 + 15)) (mn l c b 15) tk) false true) (.leaf (.ret, ED (HD a b c))) (.leaf (.nrm, SD l (HD a b c) (.int .i64 16))), andB (J6.obN (fop .sub .f32 (a (0 + 15)) (mn l c b 15))) true) := by kernel_rfl
theorem rD16 (l : Nat) (a b c : Nat → Option Nat) : evC JS Try.prog (callF Try.prog kD6 20 8) noL 20 (loopN Try.prog 3 45) (SD l (HD a b c) (.lit (.int .i64 16))) (kG 2 [5, 31, 33, 35, 37] [] none none) = some (.leaf (.ext 6, ED (HD a b c)), true) := by kernel_rfl
-- the loops
theorem pn_lt : ∀ i, pn i < 16 := fun i => by
  by_cases h : i < 16
  · rcases i with _ | _ | _ | _ | _ | _ | _ | _ | _ | _ | _ | _ | _ | _ | _ | _ | i
    · decide
    · decide
    · decide
    · decide
    · decide
    · decide
    · decide
    · decide
    · decide
    · decide
    · decide
    · decide
    · decide
    · decide
    · decide
    · decide
    · omega
  · unfold pn
    rw [List.getD_eq_getElem?_getD, List.getElem?_eq_none (by simp; omega)]; decide
theorem ou_tl {l k : Nat} (h : k ≤ l) (i : Nat) : ou (tl l) (tl k) i = tl l i := by
  unfold ou tl
  by_cases h1 : pn i < l
  · rw [decide_eq_true (show Int.ofNat (pn i) < Int.ofNat l by simp only [Int.ofNat_eq_natCast]; omega)]; rfl
  · rw [decide_eq_false (show ¬ Int.ofNat (pn i) < Int.ofNat l by simp only [Int.ofNat_eq_natCast]; omega), decide_eq_false (show ¬ Int.ofNat (pn i) < Int.ofNat k by simp only [Int.ofNat_eq_natCast]; omega)]; rfl
theorem loopA (n m : Nat) (g h : Nat → Int) {l : Nat} (hl : l ≤ 16) : LoopOk Try.prog 2 (loopN Try.prog 3 10) (SA n m g h l (.int .i64 0)) (.leaf (.ext 0, EA n m g h l)) :=
  loop_all (callF_ok sxApart sxMixed kA6_ok (N := 20) 8) sxMixed (body := loopN Try.prog 3 10) (L := noL) (N := 20) (B := 2) (fun _ _ _ _ h => by cases h) [0, 1, 5, 6, 10] [0, 1, 5, 6] (some [0, 1, 2, 3]) (some [0, 1, 2, 3])
    (fun k => SA n m g h l (.int .i64 (Int.ofNat k))) (l + 1) (.ext 0, EA n m g h l) (fun h => by cases h)
    (fun k hk => by
      have e := rA n m g h l k
      have h1 : decide (Int.ofNat k ≤ Int.ofNat l) = true := decide_eq_true (by simp only [Int.ofNat_eq_natCast]; omega)
      have ho : oA l k = true := by unfold oA; rw [Nat.ble_eq_true_of_le (by omega), okC_true]; rfl
      rw [h1, ho, q16_true fun i => ou_tl (by omega) i, wrap_i64 (by simp only [Int.ofNat_eq_natCast]; omega) (by simp only [Int.ofNat_eq_natCast]; omega)] at e
      exact ⟨_, e, rfl, rfl, HLe.refl _⟩)
    (by
      have e := rA n m g h l (l + 1)
      have h1 : decide (Int.ofNat (l + 1) ≤ Int.ofNat l) = false := decide_eq_false (by simp only [Int.ofNat_eq_natCast]; omega)
      rw [h1, Go.Sx.R0.imp_f] at e
      exact ⟨_, e, XLe.refl _⟩)
theorem loopB (n m : Nat) (g h : Nat → Int) (l : Nat) : LoopOk Try.prog 2 (loopN Try.prog 3 17) (SB n m g h l (b16 (nb 0)) (.int .i64 0)) (.leaf (.ext 2, EB n m g h l (b16 (nb 16)))) := by
  have key := loop_all (callF_ok sxApart sxMixed extK_ok (N := 20) 8) sxMixed (body := loopN Try.prog 3 17) (L := noL) (N := 20) (B := 2) (fun _ _ _ _ h => by cases h) [0, 1, 5, 6, 13, 14] [0, 1, 5, 6] none none
    (fun k => SB n m g h l (b16 (nb (4 * k))) (.lit (.int .i64 (Int.ofNat k)))) 4 (.ext 2, EB n m g h l (b16 (nb 16))) (fun h => by cases h)
    (fun k hk => by
      rcases k with _ | _ | _ | _ | k
      · have e := rB0 n m g h l
        rw [xb_no l 0, xb_no l 1, xb_no l 2, xb_no l 3] at e
        exact ⟨_, e, rfl, rfl, HLe.refl _⟩
      · have e := rB1 n m g h l
        rw [xb_no l 4, xb_no l 5, xb_no l 6, xb_no l 7] at e
        exact ⟨_, e, rfl, rfl, HLe.refl _⟩
      · have e := rB2 n m g h l
        rw [xb_no l 8, xb_no l 9, xb_no l 10, xb_no l 11] at e
        exact ⟨_, e, rfl, rfl, HLe.refl _⟩
      · have e := rB3 n m g h l
        rw [xb_no l 12, xb_no l 13, xb_no l 14, xb_no l 15] at e
        exact ⟨_, e, rfl, rfl, HLe.refl _⟩
      · omega)
    ⟨_, rB4 n m g h l, XLe.refl _⟩
  exact key.from ⟨rfl, HLe.refl _⟩
theorem loopD (l : Nat) (a b c : Nat → Option Nat) (hn : ∀ k, k < 16 → J6.nr (a (0 + k)) (mn l c b k) tk = true ∧ J6.obN (fop .sub .f32 (a (0 + k)) (mn l c b k)) = true) : LoopOk Try.prog 2 (loopN Try.prog 3 45) (SD l (HD a b c) (.int .i64 0)) (.leaf (.ext 6, ED (HD a b c))) := by
  have key := loop_all (callF_ok sxApart sxMixed kD6_ok (N := 20) 8) sxMixed (body := loopN Try.prog 3 45) (L := noL) (N := 20) (B := 2) (fun _ _ _ _ h => by cases h) [5, 31, 33, 35, 37] [] none none
    (fun k => SD l (HD a b c) (.lit (.int .i64 (Int.ofNat k)))) 16 (.ext 6, ED (HD a b c)) (fun h => by cases h)
    (fun k hk => by
      obtain ⟨h1, h2⟩ := hn k hk
      rcases k with _ | _ | _ | _ | _ | _ | _ | _ | _ | _ | _ | _ | _ | _ | _ | _ | k
      · have e := rD0 l a b c
        rw [show J6.nr (a (0 + 0)) (mn l c b 0) tk = true from h1, show J6.obN (fop .sub .f32 (a (0 + 0)) (mn l c b 0)) = true from h2] at e
        exact ⟨_, e, rfl, rfl, HLe.refl _⟩
      · have e := rD1 l a b c
        rw [show J6.nr (a (0 + 1)) (mn l c b 1) tk = true from h1, show J6.obN (fop .sub .f32 (a (0 + 1)) (mn l c b 1)) = true from h2] at e
        exact ⟨_, e, rfl, rfl, HLe.refl _⟩
      · have e := rD2 l a b c
        rw [show J6.nr (a (0 + 2)) (mn l c b 2) tk = true from h1, show J6.obN (fop .sub .f32 (a (0 + 2)) (mn l c b 2)) = true from h2] at e
        exact ⟨_, e, rfl, rfl, HLe.refl _⟩
      · have e := rD3 l a b c
        rw [show J6.nr (a (0 + 3)) (mn l c b 3) tk = true from h1, show J6.obN (fop .sub .f32 (a (0 + 3)) (mn l c b 3)) = true from h2] at e
        exact ⟨_, e, rfl, rfl, HLe.refl _⟩
      · have e := rD4 l a b c
        rw [show J6.nr (a (0 + 4)) (mn l c b 4) tk = true from h1, show J6.obN (fop .sub .f32 (a (0 + 4)) (mn l c b 4)) = true from h2] at e
        exact ⟨_, e, rfl, rfl, HLe.refl _⟩
      · have e := rD5 l a b c
        rw [show J6.nr (a (0 + 5)) (mn l c b 5) tk = true from h1, show J6.obN (fop .sub .f32 (a (0 + 5)) (mn l c b 5)) = true from h2] at e
        exact ⟨_, e, rfl, rfl, HLe.refl _⟩
      · have e := rD6 l a b c
        rw [show J6.nr (a (0 + 6)) (mn l c b 6) tk = true from h1, show J6.obN (fop .sub .f32 (a (0 + 6)) (mn l c b 6)) = true from h2] at e
        exact ⟨_, e, rfl, rfl, HLe.refl _⟩
      · have e := rD7 l a b c
        rw [show J6.nr (a (0 + 7)) (mn l c b 7) tk = true from h1, show J6.obN (fop .sub .f32 (a (0 + 7)) (mn l c b 7)) = true from h2] at e
        exact ⟨_, e, rfl, rfl, HLe.refl _⟩
      · have e := rD8 l a b c
        rw [show J6.nr (a (0 + 8)) (mn l c b 8) tk = true from h1, show J6.obN (fop .sub .f32 (a (0 + 8)) (mn l c b 8)) = true from h2] at e
        exact ⟨_, e, rfl, rfl, HLe.refl _⟩
      · have e := rD9 l a b c
        rw [show J6.nr (a (0 + 9)) (mn l c b 9) tk = true from h1, show J6.obN (fop .sub .f32 (a (0 + 9)) (mn l c b 9)) = true from h2] at e
        exact ⟨_, e, rfl, rfl, HLe.refl _⟩
      · have e := rD10 l a b c
        rw [show J6.nr (a (0 + 10)) (mn l c b 10) tk = true from h1, show J6.obN (fop .sub .f32 (a (0 + 10)) (mn l c b 10)) = true from h2] at e
        exact ⟨_, e, rfl, rfl, HLe.refl _⟩
      · have e := rD11 l a b c
        rw [show J6.nr (a (0 + 11)) (mn l c b 11) tk = true from h1, show J6.obN (fop .sub .f32 (a (0 + 11)) (mn l c b 11)) = true from h2] at e
        exact ⟨_, e, rfl, rfl, HLe.refl _⟩
      · have e := rD12 l a b c
        rw [show J6.nr (a (0 + 12)) (mn l c b 12) tk = true from h1, show J6.obN (fop .sub .f32 (a (0 + 12)) (mn l c b 12)) = true from h2] at e
        exact ⟨_, e, rfl, rfl, HLe.refl _⟩
      · have e := rD13 l a b c
        rw [show J6.nr (a (0 + 13)) (mn l c b 13) tk = true from h1, show J6.obN (fop .sub .f32 (a (0 + 13)) (mn l c b 13)) = true from h2] at e
        exact ⟨_, e, rfl, rfl, HLe.refl _⟩
      · have e := rD14 l a b c
        rw [show J6.nr (a (0 + 14)) (mn l c b 14) tk = true from h1, show J6.obN (fop .sub .f32 (a (0 + 14)) (mn l c b 14)) = true from h2] at e
        exact ⟨_, e, rfl, rfl, HLe.refl _⟩
      · have e := rD15 l a b c
        rw [show J6.nr (a (0 + 15)) (mn l c b 15) tk = true from h1, show J6.obN (fop .sub .f32 (a (0 + 15)) (mn l c b 15)) = true from h2] at e
        exact ⟨_, e, rfl, rfl, HLe.refl _⟩
      · omega)
    ⟨_, rD16 l a b c, XLe.refl _⟩
  exact key.from ⟨rfl, HLe.refl _⟩
end Go.Proofs.Ytpnjimpiphbcfaa.K6
