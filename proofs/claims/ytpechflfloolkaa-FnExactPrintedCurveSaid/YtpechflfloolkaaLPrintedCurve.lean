/- The law 'FnExactPrintedCurve': the program's PrintedCurve returns what the reference's returns, for all arguments; no condition. -/
import Derived.Test.YtpechflfloolkaaRows
import Derived.WalkKit
import Derived.ProofKit
import Derived.OpenShut
import Derived.ChangeOld
import Derived.Below
import Derived.Test.YtpechflfloolkaaSxK2
import Derived.Test.YtpechflfloolkaaSxFr
import Derived.Test.YtpechflfloolkaaSxQ5
namespace Go.Proofs.Ytpechflfloolkaa.lawPrintedCurve
open Go.ChangeShapes Go.WideShapes Go.ChangeAt Go.RowKit Go.Sx
set_option linter.unusedVariables false
set_option linter.unusedSimpArgs false
set_option maxRecDepth 100000
def lawN : Nat := 20
def lawD : Nat := 8

open Go.Sx.C5 Go.Sx.C1 Go.Sx.Fl Go.Proofs.Ytpechflfloolkaa.O5 Go.Proofs.Ytpechflfloolkaa.P5 Go.Proofs.Ytpechflfloolkaa.Q5

theorem sumPi (f c R : Nat → Option Nat) : SumOk Try.prog 98 (runPi f c R) := sum_atH sxApart sxMixed kyK_ok (LPi f c R) (N := 20) (d := 8) fun _ => by
  refine ⟨loopAt_all (B := 1) (by decide +kernel) (loopPi f c R (aF f c)) noL_all, _, ?_, LLe.refl _⟩
  have h : evF Try.prog kyK (LPi f c R) 20 8 98 (aPi f c) (hPi R) = some (.leaf (.agg (cF (pr f c R)), none), andB (deqS (SPi f c R (aF f c) (.int .i64 0) (fun _ => some 0)) (SPi f c R (aF f c) (.int .i64 0) (fun _ => some 0))) true) := by kernel_rfl
  rw [deqS_self] at h
  exact h
noncomputable def pK (f c : Nat → Option Nat) : CallerT := addK 58 (runVS f) (addK 19 (runVI f) (addK 94 (runRs f) (addK 96 (runRi f) (addK 95 (runPs f c (rF f)) (addK 98 (runPi f c (rF f)) finK)))))
theorem pK_ok {f : Nat → Option Nat} (c : Nat → Option Nat) (hF : ∀ i, FOk .f32 (f i)) : CallerTOk Try.prog (pK f c) := addK_ok (sumVS f) (addK_ok (sumVI f) (addK_ok (sumRs hF) (addK_ok (sumRi hF) (addK_ok (sumPs f c (rF f)) (addK_ok (sumPi f c (rF f)) finK_ok)))))
noncomputable def co (c : Nat → Option Nat) : Bool := cov (c 0) (c 1) (c 2) (c 3)
noncomputable def coI (c : Nat → Option Nat) : Bool := covI (c 0) (c 1) (c 2) (c 3)
noncomputable def cd (v u : Bool) : Int := cond (cond (!v) true (!u)) 1 0
noncomputable def TPs (v u : Bool) (p : Nat → Option Nat) : Tr (AV × Option (List Blk)) := .node (cd v u != 0) (.leaf (.tup [.agg zF, .int .i64 (cd v u)], none)) (.leaf (.tup [.agg (cF p), .lit (.int .i64 0)], none))
noncomputable def TPi (v u fin : Bool) (p : Nat → Option Nat) : Tr (AV × Option (List Blk)) := .node (cond (!v) true (!u)) (.leaf (.tup [.agg zF, .lit (.int .i64 1)], none)) (.node (!fin) (.leaf (.tup [.agg zF, .lit (.int .i64 4)], none)) (.leaf (.tup [.agg (cF p), .lit (.int .i64 0)], none)))
noncomputable def pv (v u : Bool) (p : Nat → Option Nat) (w : Nat) : Option Nat := cond (cond v u false) (p w) (some 0)
theorem TPs_le (v u : Bool) (p : Nat → Option Nat) : delitD (TPs v u p).get.1 = .tup [.agg (cF (pv v u p)), .int .i64 (cd v u)] := by
  cases v <;> cases u <;> rfl
theorem TPi_le (v u fin : Bool) (p : Nat → Option Nat) (h : v = true → u = true → fin = true) : delitD (TPi v u fin p).get.1 = .tup [.agg (cF (pv v u p)), .int .i64 (cd v u)] := by
  cases v
  · cases u <;> rfl
  · cases u
    · rfl
    · rw [h rfl rfl]; rfl
noncomputable def oPs (v u q0 q1 q2 : Bool) : Bool := andB (andB q0 true) (impB (!(cd v u != 0)) (andB q1 (andB q2 true)))
noncomputable def oPi (v u q0 q1 q2 : Bool) : Bool := andB q0 (impB (!(cond (!v) true (!u))) (andB q1 (andB q2 true)))
theorem oPs_true (v u : Bool) {q0 q1 q2 : Bool} (h0 : q0 = true) (h1 : q1 = v) (h2 : q2 = true) : oPs v u q0 q1 q2 = true := by subst h0 h1 h2; cases q1 <;> cases u <;> rfl
theorem oPi_true (v u : Bool) {q0 q1 q2 : Bool} (h0 : q0 = true) (h1 : q1 = v) (h2 : q2 = true) : oPi v u q0 q1 q2 = true := by subst h0 h1 h2; cases q1 <;> cases u <;> rfl
noncomputable def orS (f : Nat → Option Nat) : Bool := andB (deq [.ptr 0 0 0] [.ptr 0 0 0]) (andB (deqH (pH f) (pH f)) (pV f))
noncomputable def orI (f : Nat → Option Nat) : Bool := andB (deq [.agg (pcs f)] [.agg (pcs f)]) (andB (deqH [] []) (pV f))
noncomputable def opS (f c R : Nat → Option Nat) : Bool := andB (deq (aPs c) (aPs c)) (andB (deqH (hPs f R) (hPs f R)) true)
noncomputable def opI (f c R : Nat → Option Nat) : Bool := andB (deq (aPi f c) (aPi f c)) (andB (deqH (hPi R) (hPi R)) true)
theorem orS_eq (f : Nat → Option Nat) : orS f = pV f := by unfold orS; rw [deq_self, deqH_self]; rfl
theorem orI_eq (f : Nat → Option Nat) : orI f = pV f := by unfold orI; rw [deq_self, deqH_self]; rfl
theorem opS_true (f c R : Nat → Option Nat) : opS f c R = true := by unfold opS; rw [deq_self, deqH_self]; rfl
theorem opI_true (f c R : Nat → Option Nat) : opI f c R = true := by unfold opI; rw [deq_self, deqH_self]; rfl
noncomputable def fin (p : Nat → Option Nat) : Bool := !decide (0 ≤ C6.idxF (l16 p 0) 0)
theorem fin_true {p : Nat → Option Nat} (h : ∀ w, finS (p w) = true) : fin p = true := by
  unfold fin
  rw [C6.idxF_fin _ 0 (Int.le_refl 0) (by simp [l16])]
  simp [l16, C6.fLS, h]
theorem hS (f c : Nat → Option Nat) : evF Try.prog (pK f c) noL lawN lawD 50 [.agg (pcs f), .agg (cv c)] [] = some (TPs (pV f) (co c) (pr f c (rF f)), oPs (pV f) (co c) (ovwS f) (orS f) (opS f c (rF f))) := by kernel_rfl
theorem hI (f c : Nat → Option Nat) : evF Try.prog (pK f c) noL lawN lawD 51 [.agg (pcs f), .agg (cv c)] [] = some (TPi (pV f) (coI c) (fin (pr f c (rF f))) (pr f c (rF f)), oPi (pV f) (coI c) (ovwI f) (orI f) (opI f c (rF f))) := by kernel_rfl

theorem law (l0 : List AV) (t0 : Typed (List.replicate 16 (.flt .f32) ++ (List.replicate 64 (.flt .f32) ++ [.flt .f32])) l0) (l1 : List AV) (t1 : Typed (List.replicate 4 (.flt .f32)) l1) :
    ∃ K, CallerTOk Try.prog K ∧ ∃ t, evF Try.prog K noL lawN lawD 14 [.agg l0, .agg l1] [] = some (t, true) ∧ delit t.get.1 = .bool true := by
  obtain ⟨_, _, rfl, ⟨p0, rfl, p0K⟩, t0⟩ := t0
  obtain ⟨_, _, rfl, ⟨p1, rfl, p1K⟩, t0⟩ := t0
  obtain ⟨_, _, rfl, ⟨p2, rfl, p2K⟩, t0⟩ := t0
  obtain ⟨_, _, rfl, ⟨p3, rfl, p3K⟩, t0⟩ := t0
  obtain ⟨_, _, rfl, ⟨p4, rfl, p4K⟩, t0⟩ := t0
  obtain ⟨_, _, rfl, ⟨p5, rfl, p5K⟩, t0⟩ := t0
  obtain ⟨_, _, rfl, ⟨p6, rfl, p6K⟩, t0⟩ := t0
  obtain ⟨_, _, rfl, ⟨p7, rfl, p7K⟩, t0⟩ := t0
  obtain ⟨_, _, rfl, ⟨p8, rfl, p8K⟩, t0⟩ := t0
  obtain ⟨_, _, rfl, ⟨p9, rfl, p9K⟩, t0⟩ := t0
  obtain ⟨_, _, rfl, ⟨p10, rfl, p10K⟩, t0⟩ := t0
  obtain ⟨_, _, rfl, ⟨p11, rfl, p11K⟩, t0⟩ := t0
  obtain ⟨_, _, rfl, ⟨p12, rfl, p12K⟩, t0⟩ := t0
  obtain ⟨_, _, rfl, ⟨p13, rfl, p13K⟩, t0⟩ := t0
  obtain ⟨_, _, rfl, ⟨p14, rfl, p14K⟩, t0⟩ := t0
  obtain ⟨_, _, rfl, ⟨p15, rfl, p15K⟩, t0⟩ := t0
  obtain ⟨_, _, rfl, ⟨p16, rfl, p16K⟩, t0⟩ := t0
  obtain ⟨_, _, rfl, ⟨p17, rfl, p17K⟩, t0⟩ := t0
  obtain ⟨_, _, rfl, ⟨p18, rfl, p18K⟩, t0⟩ := t0
  obtain ⟨_, _, rfl, ⟨p19, rfl, p19K⟩, t0⟩ := t0
  obtain ⟨_, _, rfl, ⟨p20, rfl, p20K⟩, t0⟩ := t0
  obtain ⟨_, _, rfl, ⟨p21, rfl, p21K⟩, t0⟩ := t0
  obtain ⟨_, _, rfl, ⟨p22, rfl, p22K⟩, t0⟩ := t0
  obtain ⟨_, _, rfl, ⟨p23, rfl, p23K⟩, t0⟩ := t0
  obtain ⟨_, _, rfl, ⟨p24, rfl, p24K⟩, t0⟩ := t0
  obtain ⟨_, _, rfl, ⟨p25, rfl, p25K⟩, t0⟩ := t0
  obtain ⟨_, _, rfl, ⟨p26, rfl, p26K⟩, t0⟩ := t0
  obtain ⟨_, _, rfl, ⟨p27, rfl, p27K⟩, t0⟩ := t0
  obtain ⟨_, _, rfl, ⟨p28, rfl, p28K⟩, t0⟩ := t0
  obtain ⟨_, _, rfl, ⟨p29, rfl, p29K⟩, t0⟩ := t0
  obtain ⟨_, _, rfl, ⟨p30, rfl, p30K⟩, t0⟩ := t0
  obtain ⟨_, _, rfl, ⟨p31, rfl, p31K⟩, t0⟩ := t0
  obtain ⟨_, _, rfl, ⟨p32, rfl, p32K⟩, t0⟩ := t0
  obtain ⟨_, _, rfl, ⟨p33, rfl, p33K⟩, t0⟩ := t0
  obtain ⟨_, _, rfl, ⟨p34, rfl, p34K⟩, t0⟩ := t0
  obtain ⟨_, _, rfl, ⟨p35, rfl, p35K⟩, t0⟩ := t0
  obtain ⟨_, _, rfl, ⟨p36, rfl, p36K⟩, t0⟩ := t0
  obtain ⟨_, _, rfl, ⟨p37, rfl, p37K⟩, t0⟩ := t0
  obtain ⟨_, _, rfl, ⟨p38, rfl, p38K⟩, t0⟩ := t0
  obtain ⟨_, _, rfl, ⟨p39, rfl, p39K⟩, t0⟩ := t0
  obtain ⟨_, _, rfl, ⟨p40, rfl, p40K⟩, t0⟩ := t0
  obtain ⟨_, _, rfl, ⟨p41, rfl, p41K⟩, t0⟩ := t0
  obtain ⟨_, _, rfl, ⟨p42, rfl, p42K⟩, t0⟩ := t0
  obtain ⟨_, _, rfl, ⟨p43, rfl, p43K⟩, t0⟩ := t0
  obtain ⟨_, _, rfl, ⟨p44, rfl, p44K⟩, t0⟩ := t0
  obtain ⟨_, _, rfl, ⟨p45, rfl, p45K⟩, t0⟩ := t0
  obtain ⟨_, _, rfl, ⟨p46, rfl, p46K⟩, t0⟩ := t0
  obtain ⟨_, _, rfl, ⟨p47, rfl, p47K⟩, t0⟩ := t0
  obtain ⟨_, _, rfl, ⟨p48, rfl, p48K⟩, t0⟩ := t0
  obtain ⟨_, _, rfl, ⟨p49, rfl, p49K⟩, t0⟩ := t0
  obtain ⟨_, _, rfl, ⟨p50, rfl, p50K⟩, t0⟩ := t0
  obtain ⟨_, _, rfl, ⟨p51, rfl, p51K⟩, t0⟩ := t0
  obtain ⟨_, _, rfl, ⟨p52, rfl, p52K⟩, t0⟩ := t0
  obtain ⟨_, _, rfl, ⟨p53, rfl, p53K⟩, t0⟩ := t0
  obtain ⟨_, _, rfl, ⟨p54, rfl, p54K⟩, t0⟩ := t0
  obtain ⟨_, _, rfl, ⟨p55, rfl, p55K⟩, t0⟩ := t0
  obtain ⟨_, _, rfl, ⟨p56, rfl, p56K⟩, t0⟩ := t0
  obtain ⟨_, _, rfl, ⟨p57, rfl, p57K⟩, t0⟩ := t0
  obtain ⟨_, _, rfl, ⟨p58, rfl, p58K⟩, t0⟩ := t0
  obtain ⟨_, _, rfl, ⟨p59, rfl, p59K⟩, t0⟩ := t0
  obtain ⟨_, _, rfl, ⟨p60, rfl, p60K⟩, t0⟩ := t0
  obtain ⟨_, _, rfl, ⟨p61, rfl, p61K⟩, t0⟩ := t0
  obtain ⟨_, _, rfl, ⟨p62, rfl, p62K⟩, t0⟩ := t0
  obtain ⟨_, _, rfl, ⟨p63, rfl, p63K⟩, t0⟩ := t0
  obtain ⟨_, _, rfl, ⟨p64, rfl, p64K⟩, t0⟩ := t0
  obtain ⟨_, _, rfl, ⟨p65, rfl, p65K⟩, t0⟩ := t0
  obtain ⟨_, _, rfl, ⟨p66, rfl, p66K⟩, t0⟩ := t0
  obtain ⟨_, _, rfl, ⟨p67, rfl, p67K⟩, t0⟩ := t0
  obtain ⟨_, _, rfl, ⟨p68, rfl, p68K⟩, t0⟩ := t0
  obtain ⟨_, _, rfl, ⟨p69, rfl, p69K⟩, t0⟩ := t0
  obtain ⟨_, _, rfl, ⟨p70, rfl, p70K⟩, t0⟩ := t0
  obtain ⟨_, _, rfl, ⟨p71, rfl, p71K⟩, t0⟩ := t0
  obtain ⟨_, _, rfl, ⟨p72, rfl, p72K⟩, t0⟩ := t0
  obtain ⟨_, _, rfl, ⟨p73, rfl, p73K⟩, t0⟩ := t0
  obtain ⟨_, _, rfl, ⟨p74, rfl, p74K⟩, t0⟩ := t0
  obtain ⟨_, _, rfl, ⟨p75, rfl, p75K⟩, t0⟩ := t0
  obtain ⟨_, _, rfl, ⟨p76, rfl, p76K⟩, t0⟩ := t0
  obtain ⟨_, _, rfl, ⟨p77, rfl, p77K⟩, t0⟩ := t0
  obtain ⟨_, _, rfl, ⟨p78, rfl, p78K⟩, t0⟩ := t0
  obtain ⟨_, _, rfl, ⟨p79, rfl, p79K⟩, t0⟩ := t0
  obtain ⟨_, _, rfl, ⟨p80, rfl, p80K⟩, t0⟩ := t0
  have t0 := (t0 : _ = [])
  subst t0
  obtain ⟨_, _, rfl, ⟨x0, rfl, x0K⟩, t1⟩ := t1
  obtain ⟨_, _, rfl, ⟨x1, rfl, x1K⟩, t1⟩ := t1
  obtain ⟨_, _, rfl, ⟨x2, rfl, x2K⟩, t1⟩ := t1
  obtain ⟨_, _, rfl, ⟨x3, rfl, x3K⟩, t1⟩ := t1
  have t1 := (t1 : _ = [])
  subst t1
  obtain ⟨f, hf, hF⟩ : ∃ f : Nat → Option Nat, AV.agg (List.map (AV.flt .f32) [p0, p1, p2, p3, p4, p5, p6, p7, p8, p9, p10, p11, p12, p13, p14, p15, p16, p17, p18, p19, p20, p21, p22, p23, p24, p25, p26, p27, p28, p29, p30, p31, p32, p33, p34, p35, p36, p37, p38, p39, p40, p41, p42, p43, p44, p45, p46, p47, p48, p49, p50, p51, p52, p53, p54, p55, p56, p57, p58, p59, p60, p61, p62, p63, p64, p65, p66, p67, p68, p69, p70, p71, p72, p73, p74, p75, p76, p77, p78, p79, p80]) = .agg (pcs f) ∧ ∀ i, FOk .f32 (f i) :=
    ⟨fun i => [p0, p1, p2, p3, p4, p5, p6, p7, p8, p9, p10, p11, p12, p13, p14, p15, p16, p17, p18, p19, p20, p21, p22, p23, p24, p25, p26, p27, p28, p29, p30, p31, p32, p33, p34, p35, p36, p37, p38, p39, p40, p41, p42, p43, p44, p45, p46, p47, p48, p49, p50, p51, p52, p53, p54, p55, p56, p57, p58, p59, p60, p61, p62, p63, p64, p65, p66, p67, p68, p69, p70, p71, p72, p73, p74, p75, p76, p77, p78, p79, p80].getD i none, rfl, AllO.getD ⟨p0K, p1K, p2K, p3K, p4K, p5K, p6K, p7K, p8K, p9K, p10K, p11K, p12K, p13K, p14K, p15K, p16K, p17K, p18K, p19K, p20K, p21K, p22K, p23K, p24K, p25K, p26K, p27K, p28K, p29K, p30K, p31K, p32K, p33K, p34K, p35K, p36K, p37K, p38K, p39K, p40K, p41K, p42K, p43K, p44K, p45K, p46K, p47K, p48K, p49K, p50K, p51K, p52K, p53K, p54K, p55K, p56K, p57K, p58K, p59K, p60K, p61K, p62K, p63K, p64K, p65K, p66K, p67K, p68K, p69K, p70K, p71K, p72K, p73K, p74K, p75K, p76K, p77K, p78K, p79K, p80K, trivial⟩⟩
  obtain ⟨c, hc, hC⟩ : ∃ c : Nat → Option Nat, AV.agg (List.map (AV.flt .f32) [x0, x1, x2, x3]) = .agg (cv c) ∧ ∀ i, FOk .f32 (c i) :=
    ⟨fun i => [x0, x1, x2, x3].getD i none, rfl, AllO.getD ⟨x0K, x1K, x2K, x3K, trivial⟩⟩
  have key : ∃ K, CallerTOk Try.prog K ∧ ∃ r, evF Try.prog K noL lawN lawD 14 [.agg (pcs f), .agg (cv c)] [] = some (r, true) ∧ delit r.get.1 = .bool true := by
    have hS := hS f c
    have hI := hI f c
    have hco : coI c = co c := covI_cov _ _ _ _
    rw [hco] at hI
    rw [oPs_true _ _ (ovwS_true f) (orS_eq f) (opS_true f c (rF f))] at hS
    rw [oPi_true _ _ (ovwI_true f) (orI_eq f) (opI_true f c (rF f))] at hI
    have hfin : pV f = true → co c = true → fin (pr f c (rF f)) = true := fun h1 h2 => fin_true (pr_fin (pV_LE hF h1).2 (cov_LE hC h2) (rF_LE (pV_LE hF h1).1))
    have kS := sum_at0 (L := noL) sxApart sxMixed (pK_ok c hF) (fun _ _ _ _ => noL_ok) hS (by kernel_rfl) (T := .leaf (.tup [.agg (cF (pv (pV f) (co c) (pr f c (rF f)))), .int .i64 (cd (pV f) (co c))], none)) (fun _ => TPs_le _ _ _) (fun _ => ⟨rfl, rfl⟩)
    have kI := sum_at0 (L := noL) sxApart sxMixed (pK_ok c hF) (fun _ _ _ _ => noL_ok) hI (by kernel_rfl) (T := .leaf (.tup [.agg (cF (pv (pV f) (co c) (pr f c (rF f)))), .int .i64 (cd (pV f) (co c))], none)) (fun _ => TPi_le _ _ _ _ hfin) (fun _ => ⟨rfl, rfl⟩)
    generalize pv (pV f) (co c) (pr f c (rF f)) = x at kS kI
    generalize cd (pV f) (co c) = e at kS kI
    refine ⟨addK 50 _ (addK 51 _ extK), addK_ok kS (addK_ok kI extK_ok), .leaf (.bool (cond (cond (!sfL (l16 x 0)) true (e != e)) false true), none), ?_, ?_⟩
    · have h : evF Try.prog (addK 50 (runAt [.agg (pcs f), .agg (cv c)] (.leaf (.tup [.agg (cF x), .int .i64 e], none)) true) (addK 51 (runAt [.agg (pcs f), .agg (cv c)] (.leaf (.tup [.agg (cF x), .int .i64 e], none)) true) extK)) noL lawN lawD 14 [.agg (pcs f), .agg (cv c)] [] = some (.leaf (.bool (cond (cond (!sfL (l16 x 0)) true (e != e)) false true), none), andB (andB (andB (deq [.agg (pcs f), .agg (cv c)] [.agg (pcs f), .agg (cv c)]) true) true) (andB (andB (andB (deq [.agg (pcs f), .agg (cv c)] [.agg (pcs f), .agg (cv c)]) true) true) true)) := by kernel_rfl
      rw [deq_self] at h
      exact h
    · simp [Tr.get, delit, sfL_true]
  rw [← hf, ← hc] at key
  exact key

set_option maxRecDepth 100000 in
theorem lifted (os : Os) (started : os.Started) (H : Type) (enc : TypeId × Value → H) :
    ReturnsInHanded {} Try.checked os 14 .any (Rows.fnExactPrintedCurveSpec.pre6 enc Try.prog Try.f14 Rows.fnExactPrintedCurveRow.domain false) (Rows.fnExactPrintedCurveSpec.post enc Try.prog Try.f14 false true false false) := by
  refine returnsInHanded_of_change (C := Try.checked) sxOwn started (by kernel_rfl) Try.func14
    (ChangeSpec.witness6 (enc := enc) (C := Try.checked) false ⟨#[], #[.agg #[.float .f32 0, .float .f32 0, .float .f32 0, .float .f32 0, .float .f32 0, .float .f32 0, .float .f32 0, .float .f32 0, .float .f32 0, .float .f32 0, .float .f32 0, .float .f32 0, .float .f32 0, .float .f32 0, .float .f32 0, .float .f32 0, .float .f32 0, .float .f32 0, .float .f32 0, .float .f32 0, .float .f32 0, .float .f32 0, .float .f32 0, .float .f32 0, .float .f32 0, .float .f32 0, .float .f32 0, .float .f32 0, .float .f32 0, .float .f32 0, .float .f32 0, .float .f32 0, .float .f32 0, .float .f32 0, .float .f32 0, .float .f32 0, .float .f32 0, .float .f32 0, .float .f32 0, .float .f32 0, .float .f32 0, .float .f32 0, .float .f32 0, .float .f32 0, .float .f32 0, .float .f32 0, .float .f32 0, .float .f32 0, .float .f32 0, .float .f32 0, .float .f32 0, .float .f32 0, .float .f32 0, .float .f32 0, .float .f32 0, .float .f32 0, .float .f32 0, .float .f32 0, .float .f32 0, .float .f32 0, .float .f32 0, .float .f32 0, .float .f32 0, .float .f32 0, .float .f32 0, .float .f32 0, .float .f32 0, .float .f32 0, .float .f32 0, .float .f32 0, .float .f32 0, .float .f32 0, .float .f32 0, .float .f32 0, .float .f32 0, .float .f32 0, .float .f32 0, .float .f32 0, .float .f32 0, .float .f32 0, .float .f32 0], .agg #[.float .f32 0, .float .f32 0, .float .f32 0, .float .f32 0]], []⟩ 8 (by kernel_rfl) (by kernel_rfl) (by kernel_rfl) (by kernel_rfl)) ?_
  intro W base args ds gs before hval0 hW hcnd _
  have hval : ∀ (j : Nat) t v, Try.f14.params[j]? = some t → args[j]? = some v → Value.okWide Try.prog W .any base t v := hval0
  have hW' := hW
  obtain ⟨p, q, hA0, hV, rfl, hfz, hnd⟩ := hW
  have hA : DataW.TrodAll enc Try.prog W 0 (fun _ => true) true Try.f14.params.toList args.toList ds p := hA0
  rw [Try.params14] at hA hval
  obtain ⟨v0, vs0, d0, ds0, p0, q0, hargs, rfl, rfl, h0, r0⟩ := trodAll_cons hA
  obtain ⟨v1, vs1, d1, ds1, p1, q1, rfl, rfl, rfl, h1, r1⟩ := trodAll_cons r0
  obtain ⟨rfl, rfl, rfl⟩ := trodAll_nil r1
  obtain rfl : args = #[v0, v1] := by cases args; simp_all
  obtain ⟨rfl, rfl⟩ := trodVars_none hV
  have hrel0 : HRel [] [] W := ⟨rfl, fun b x p h => by simp at h, fun b c x y p q _ h => by simp at h⟩
  have hro0 := ro_nil
  obtain ⟨l0, t0, e0⟩ := arg_agg (ρ := []) (ts := [22, 22, 22, 22, 22, 22, 22, 22, 22, 22, 22, 22, 22, 22, 22, 22, 22, 22, 22, 22, 22, 22, 22, 22, 22, 22, 22, 22, 22, 22, 22, 22, 22, 22, 22, 22, 22, 22, 22, 22, 22, 22, 22, 22, 22, 22, 22, 22, 22, 22, 22, 22, 22, 22, 22, 22, 22, 22, 22, 22, 22, 22, 22, 22, 22, 22, 22, 22, 22, 22, 22, 22, 22, 22, 22, 22, 22, 22, 22, 22, 22]) (ks := [.flt .f32, .flt .f32, .flt .f32, .flt .f32, .flt .f32, .flt .f32, .flt .f32, .flt .f32, .flt .f32, .flt .f32, .flt .f32, .flt .f32, .flt .f32, .flt .f32, .flt .f32, .flt .f32, .flt .f32, .flt .f32, .flt .f32, .flt .f32, .flt .f32, .flt .f32, .flt .f32, .flt .f32, .flt .f32, .flt .f32, .flt .f32, .flt .f32, .flt .f32, .flt .f32, .flt .f32, .flt .f32, .flt .f32, .flt .f32, .flt .f32, .flt .f32, .flt .f32, .flt .f32, .flt .f32, .flt .f32, .flt .f32, .flt .f32, .flt .f32, .flt .f32, .flt .f32, .flt .f32, .flt .f32, .flt .f32, .flt .f32, .flt .f32, .flt .f32, .flt .f32, .flt .f32, .flt .f32, .flt .f32, .flt .f32, .flt .f32, .flt .f32, .flt .f32, .flt .f32, .flt .f32, .flt .f32, .flt .f32, .flt .f32, .flt .f32, .flt .f32, .flt .f32, .flt .f32, .flt .f32, .flt .f32, .flt .f32, .flt .f32, .flt .f32, .flt .f32, .flt .f32, .flt .f32, .flt .f32, .flt .f32, .flt .f32, .flt .f32, .flt .f32]) (hval 0 26 v0 rfl rfl) (by kernel_rfl) (by kernel_rfl) (by kernel_rfl) (by kernel_rfl)
  obtain ⟨l1, t1, e1⟩ := arg_agg (ρ := []) (ts := [22, 22, 22, 22]) (ks := [.flt .f32, .flt .f32, .flt .f32, .flt .f32]) (hval 1 43 v1 rfl rfl) (by kernel_rfl) (by kernel_rfl) (by kernel_rfl) (by kernel_rfl)
  have k0 := h0
  have lt0 : ∀ x ∈ p0, x.block < W.heap.size := by obtain ⟨m, hm⟩ := k0; exact DataW.trod_lt m _ _ _ hm
  have k1 := h1
  have lt1 : ∀ x ∈ p1, x.block < W.heap.size := by obtain ⟨m, hm⟩ := k1; exact DataW.trod_lt m _ _ _ hm
  have hargs : VRels [] [.agg l0, .agg l1] [v0, v1] := by
    simp only [VRels]
    exact ⟨v0, _, rfl, e0, ⟨v1, _, rfl, e1, rfl⟩⟩
  obtain ⟨lawK, lawK_ok, hlaw⟩ := law l0 t0 l1 t1
  refine (evF_true (K := lawK) (L := noL) (N := lawN) (d := lawD) sxApart sxMixed lawK_ok (fun _ _ _ _ => noL_ok) hlaw hrel0 hro0 hargs).mono fun e W' ⟨he, bel⟩ => ?_
  subst he
  exact ⟨_, rfl, _, _, _, [], _, [], hW', trodAll_mk1 (shut_bool Try.underlying4 _), (trodAll_cons_mk (Below.trod sxLaid (by kernel_rfl) (of_decide_eq_true (by kernel_rfl)) k0 bel lt0) (trodAll_cons_mk (Below.trod sxLaid (by kernel_rfl) (of_decide_eq_true (by kernel_rfl)) k1 bel lt1) trodAll_mk0)), rfl, bel.frame _, fun h => by cases h⟩

theorem over : Rows.fnExactPrintedCurveRow.holds Try.pinned (OpenSpec.ofChange Rows.fnExactPrintedCurveSpec) :=
  OpenClaim.holds_of_wide 14 Try.f14 rfl rfl rfl rfl rfl rfl rfl ⟨rfl, rfl, rfl, rfl, rfl⟩ rfl rfl rfl rfl rfl (by kernel_rfl) Try.func14 (by kernel_rfl)
    (of_decide_eq_true (by kernel_rfl)) (by unfold Func.isWrapper; first | (rw [if_pos (by decide +kernel)]; kernel_rfl) | (rw [if_neg (by decide +kernel)]; exact ⟨rfl, rfl⟩))
    (fun os started H enc _ => lifted os started H enc)

/-- The statement. -/
theorem proved : Rows.FnExactPrintedCurveSaid := over
#print axioms proved
end Go.Proofs.Ytpechflfloolkaa.lawPrintedCurve
