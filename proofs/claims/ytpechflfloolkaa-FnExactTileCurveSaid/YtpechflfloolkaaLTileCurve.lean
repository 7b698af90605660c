/- The law 'FnExactTileCurve': the program's TileCurve returns what the reference's returns, for all arguments; no condition. -/
import Derived.Test.YtpechflfloolkaaRows
import Derived.WalkKit
import Derived.ProofKit
import Derived.OpenShut
import Derived.ChangeOld
import Derived.Below
import Derived.Test.YtpechflfloolkaaSxK2
import Derived.Test.YtpechflfloolkaaSxFr
import Derived.Test.YtpechflfloolkaaSxO5
namespace Go.Proofs.Ytpechflfloolkaa.lawTileCurve
open Go.ChangeShapes Go.WideShapes Go.ChangeAt Go.RowKit Go.Sx
set_option linter.unusedVariables false
set_option linter.unusedSimpArgs false
set_option maxRecDepth 100000
def lawN : Nat := 20
def lawD : Nat := 8

open Go.Sx.C5 Go.Sx.C1 Go.Proofs.Ytpechflfloolkaa.O5

def bl (w : Nat → Bool) : List AV := [.bool (w 0), .bool (w 1), .bool (w 2), .bool (w 3), .bool (w 4), .bool (w 5), .bool (w 6), .bool (w 7), .bool (w 8), .bool (w 9), .bool (w 10), .bool (w 11), .bool (w 12), .bool (w 13), .bool (w 14), .bool (w 15), .bool (w 16), .bool (w 17), .bool (w 18), .bool (w 19), .bool (w 20), .bool (w 21), .bool (w 22), .bool (w 23), .bool (w 24), .bool (w 25), .bool (w 26), .bool (w 27), .bool (w 28), .bool (w 29), .bool (w 30), .bool (w 31), .bool (w 32), .bool (w 33), .bool (w 34), .bool (w 35), .bool (w 36), .bool (w 37), .bool (w 38), .bool (w 39), .bool (w 40), .bool (w 41), .bool (w 42), .bool (w 43), .bool (w 44), .bool (w 45), .bool (w 46), .bool (w 47), .bool (w 48), .bool (w 49), .bool (w 50), .bool (w 51), .bool (w 52), .bool (w 53), .bool (w 54), .bool (w 55), .bool (w 56), .bool (w 57), .bool (w 58), .bool (w 59), .bool (w 60), .bool (w 61), .bool (w 62), .bool (w 63)]
/-- the overprint at a place -/
noncomputable def op (f : Nat → Option Nat) (t : Nat → Bool) (p w : Nat) : Option Nat := ov f (t (0 + p)) (t (16 + p)) (t (32 + p)) (t (48 + p)) w
/-- the sum of the overprints of the first places -/
noncomputable def ac (f : Nat → Option Nat) (t : Nat → Bool) : Nat → Nat → Option Nat
  | 0, _ => some 0
  | p + 1, w => bif Nat.beq p 0 then op f t p w else fop .add .f32 (ac f t p w) (op f t p w)
noncomputable def av (f : Nat → Option Nat) (t : Nat → Bool) (w : Nat) : Option Nat := fop .quo .f32 (ac f t 16 w) (some 1098907648)
def zF : List AV := cF fun _ => some 0
def ch (q : Bool) : Nat → Bool
  | 0 => true
  | n + 1 => andB q (ch q n)
theorem ch_true {q : Bool} (h : q = true) : ∀ n, ch q n = true
  | 0 => rfl
  | n + 1 => by unfold ch; rw [ch_true h n, h]; rfl

-- the reference: a row of places
def ST (f : Nat → Option Nat) (t : Nat → Bool) (r : AV) (c : List AV) : St := ⟨[.junk, .junk, .ptr 0 0 0, .ptr 1 0 0, .ptr 2 0 0, .junk, .ptr 3 0 0, r] ++ junks 79, [.one true (pcs f), .one true (bl t), .one true zF, .one true c]⟩
def ET (f : Nat → Option Nat) (t : Nat → Bool) (c : List AV) : St := ⟨[.junk, .junk, .junk, .junk, .ptr 2 0 0, .junk, .ptr 3 0 0] ++ junks 80, [.one true (pcs f), .one true (bl t), .one true zF, .one true c]⟩
theorem st0 (f : Nat → Option Nat) (t : Nat → Bool) : evC JS Try.prog (callF Try.prog (oK f finK) 20 8) noL 20 (loopN Try.prog 47 6) (ST f t (.lit (.int .i64 0)) (cF (ac f t 0))) (kG 0 [2, 3, 4, 6, 7] [4, 6] (some [0, 1, 2, 3]) (some [0, 1, 2, 3])) = some (.leaf (.nrm, ST f t (.int .i64 1) (cF (ac f t 4))), ch (owS f) 4) := by kernel_rfl
theorem st1 (f : Nat → Option Nat) (t : Nat → Bool) : evC JS Try.prog (callF Try.prog (oK f finK) 20 8) noL 20 (loopN Try.prog 47 6) (ST f t (.lit (.int .i64 1)) (cF (ac f t 4))) (kG 0 [2, 3, 4, 6, 7] [4, 6] (some [0, 1, 2, 3]) (some [0, 1, 2, 3])) = some (.leaf (.nrm, ST f t (.int .i64 2) (cF (ac f t 8))), ch (owS f) 4) := by kernel_rfl
theorem st2 (f : Nat → Option Nat) (t : Nat → Bool) : evC JS Try.prog (callF Try.prog (oK f finK) 20 8) noL 20 (loopN Try.prog 47 6) (ST f t (.lit (.int .i64 2)) (cF (ac f t 8))) (kG 0 [2, 3, 4, 6, 7] [4, 6] (some [0, 1, 2, 3]) (some [0, 1, 2, 3])) = some (.leaf (.nrm, ST f t (.int .i64 3) (cF (ac f t 12))), ch (owS f) 4) := by kernel_rfl
theorem st3 (f : Nat → Option Nat) (t : Nat → Bool) : evC JS Try.prog (callF Try.prog (oK f finK) 20 8) noL 20 (loopN Try.prog 47 6) (ST f t (.lit (.int .i64 3)) (cF (ac f t 12))) (kG 0 [2, 3, 4, 6, 7] [4, 6] (some [0, 1, 2, 3]) (some [0, 1, 2, 3])) = some (.leaf (.nrm, ST f t (.int .i64 4) (cF (ac f t 16))), ch (owS f) 4) := by kernel_rfl
theorem st4 (f : Nat → Option Nat) (t : Nat → Bool) : evC JS Try.prog (callF Try.prog (oK f finK) 20 8) noL 20 (loopN Try.prog 47 6) (ST f t (.lit (.int .i64 4)) (cF (ac f t 16))) (kG 0 [2, 3, 4, 6, 7] [4, 6] (some [0, 1, 2, 3]) (some [0, 1, 2, 3])) = some (.leaf (.ext 0, ET f t (cF (ac f t 16))), true) := by kernel_rfl
theorem loopT (f : Nat → Option Nat) (t : Nat → Bool) : LoopOk Try.prog 0 (loopN Try.prog 47 6) (ST f t (.int .i64 0) zF) (.leaf (.ext 0, ET f t (cF (ac f t 16)))) := by
  have key := loop_ind (callF_ok sxApart sxMixed (oK_ok f finK_ok) (N := 20) 8) sxMixed (body := loopN Try.prog 47 6) (L := noL) (N := 20) (B := 0) (fun _ _ _ _ h => by cases h) [2, 3, 4, 6, 7] [4, 6] (some [0, 1, 2, 3]) (some [0, 1, 2, 3])
    (fun r : Nat => ST f t (.lit (.int .i64 (Int.ofNat r))) (cF (ac f t (4 * r)))) (fun r => r ≤ 4) (fun r => 4 - r) (fun _ => (.ext 0, ET f t (cF (ac f t 16))))
    (fun r hr => by
      have ho := ch_true (owS_true f) 4
      rcases r with _ | _ | _ | _ | _ | r
      · exact ⟨_, by rw [← ho]; exact st0 f t, .inl ⟨1, ⟨rfl, rfl, HLe.refl _⟩, by omega, by omega, rfl⟩⟩
      · exact ⟨_, by rw [← ho]; exact st1 f t, .inl ⟨2, ⟨rfl, rfl, HLe.refl _⟩, by omega, by omega, rfl⟩⟩
      · exact ⟨_, by rw [← ho]; exact st2 f t, .inl ⟨3, ⟨rfl, rfl, HLe.refl _⟩, by omega, by omega, rfl⟩⟩
      · exact ⟨_, by rw [← ho]; exact st3 f t, .inl ⟨4, ⟨rfl, rfl, HLe.refl _⟩, by omega, by omega, rfl⟩⟩
      · exact ⟨_, st4 f t, .inr ⟨XLe.refl _, fun h => by cases h⟩⟩
      · omega) 0 (by omega)
  exact key.from ⟨rfl, HLe.refl _⟩
noncomputable def LT (f : Nat → Option Nat) (t : Nat → Bool) : LoopOr := loopAt 6 [2, 3, 4, 6, 7] (ST f t (.int .i64 0) zF) (.leaf (.ext 0, ET f t (cF (ac f t 16)))) noL
theorem LT_ok (f : Nat → Option Nat) (t : Nat → Bool) : LOk Try.prog 0 47 (LT f t) := loopAt_all (B := 0) (by decide +kernel) (loopT f t) noL_all
noncomputable def TT (f : Nat → Option Nat) (t : Nat → Bool) : Tr (AV × Option (List Blk)) := .node (!pV f) (.leaf (.tup [.agg zF, .lit (.int .i64 1)], none)) (.leaf (.tup [.agg (cF (av f t)), .lit (.int .i64 0)], none))
noncomputable def tv (f : Nat → Option Nat) (t : Nat → Bool) (w : Nat) : Option Nat := cond (pV f) (av f t w) (some 0)
noncomputable def tc (f : Nat → Option Nat) : Int := cond (pV f) 0 1
theorem TT_le (f : Nat → Option Nat) (t : Nat → Bool) : delitD (TT f t).get.1 = .tup [.agg (cF (tv f t)), .int .i64 (tc f)] := by
  unfold TT tv tc
  cases pV f <;> rfl
noncomputable def oT (f : Nat → Option Nat) (q0 q : Bool) : Bool := andB q0 (impB (!!pV f) q)
theorem oT_true (f : Nat → Option Nat) {q0 q : Bool} (h0 : q0 = true) (h : q = true) : oT f q0 q = true := by subst h0 h; unfold oT; cases pV f <;> rfl
theorem hS (f : Nat → Option Nat) (t : Nat → Bool) : evF Try.prog (oK f finK) (LT f t) lawN lawD 47 [.agg (pcs f), .agg (bl t)] [] = some (TT f t, oT f (ovwS f) (andB (deqS (ST f t (.int .i64 0) zF) (ST f t (.int .i64 0) zF)) true)) := by kernel_rfl
theorem hI (f : Nat → Option Nat) (t : Nat → Bool) : evF Try.prog (oK f finK) noL lawN lawD 49 [.agg (pcs f), .agg (bl t)] [] = some (TT f t, oT f (ovwI f) (ch (owI f) 16)) := by kernel_rfl

theorem law (l0 : List AV) (t0 : Typed (List.replicate 16 (.flt .f32) ++ (List.replicate 64 (.flt .f32) ++ [.flt .f32])) l0) (l1 : List AV) (t1 : Typed (List.replicate 64 .bool) l1) :
    ∃ K, CallerTOk Try.prog K ∧ ∃ t, evF Try.prog K noL lawN lawD 13 [.agg l0, .agg l1] [] = some (t, true) ∧ delit t.get.1 = .bool true := by
  obtain ⟨_, _, rfl, ⟨p0, rfl, p0K⟩, t0⟩ := t0
  obtain ⟨_, _, rfl, ⟨p1, rfl, p1K⟩, t0⟩ := t0
  obtain ⟨_, _, rfl, ⟨p2, rfl, p2K⟩, t0⟩ := t0
  obtain ⟨_, _, rfl, ⟨p3, rfl, p3K⟩, t0⟩ := t0
  obtain ⟨_, _, rfl, ⟨p4, rfl, p4K⟩, t0⟩ := t0
  obtain ⟨_, _, rfl, ⟨p5, rfl, p5K⟩, t0⟩ := t0
  obtain ⟨_, _, rfl, ⟨p6, rfl, p6K⟩, t0⟩ := t0
  obtain ⟨_, _, rfl, ⟨p7, rfl, p7K⟩, t0⟩ := t0
  obtain ⟨_, _, rfl, ⟨p8, rfl, p8K⟩, t0⟩ := t0
  obtain ⟨_, _, rfl, ⟨p9, rfl, p9K⟩, t0⟩ := t0
  obtain ⟨_, _, rfl, ⟨p10, rfl, p10K⟩, t0⟩ := t0
  obtain ⟨_, _, rfl, ⟨p11, rfl, p11K⟩, t0⟩ := t0
  obtain ⟨_, _, rfl, ⟨p12, rfl, p12K⟩, t0⟩ := t0
  obtain ⟨_, _, rfl, ⟨p13, rfl, p13K⟩, t0⟩ := t0
  obtain ⟨_, _, rfl, ⟨p14, rfl, p14K⟩, t0⟩ := t0
  obtain ⟨_, _, rfl, ⟨p15, rfl, p15K⟩, t0⟩ := t0
  obtain ⟨_, _, rfl, ⟨p16, rfl, p16K⟩, t0⟩ := t0
  obtain ⟨_, _, rfl, ⟨p17, rfl, p17K⟩, t0⟩ := t0
  obtain ⟨_, _, rfl, ⟨p18, rfl, p18K⟩, t0⟩ := t0
  obtain ⟨_, _, rfl, ⟨p19, rfl, p19K⟩, t0⟩ := t0
  obtain ⟨_, _, rfl, ⟨p20, rfl, p20K⟩, t0⟩ := t0
  obtain ⟨_, _, rfl, ⟨p21, rfl, p21K⟩, t0⟩ := t0
  obtain ⟨_, _, rfl, ⟨p22, rfl, p22K⟩, t0⟩ := t0
  obtain ⟨_, _, rfl, ⟨p23, rfl, p23K⟩, t0⟩ := t0
  obtain ⟨_, _, rfl, ⟨p24, rfl, p24K⟩, t0⟩ := t0
  obtain ⟨_, _, rfl, ⟨p25, rfl, p25K⟩, t0⟩ := t0
  obtain ⟨_, _, rfl, ⟨p26, rfl, p26K⟩, t0⟩ := t0
  obtain ⟨_, _, rfl, ⟨p27, rfl, p27K⟩, t0⟩ := t0
  obtain ⟨_, _, rfl, ⟨p28, rfl, p28K⟩, t0⟩ := t0
  obtain ⟨_, _, rfl, ⟨p29, rfl, p29K⟩, t0⟩ := t0
  obtain ⟨_, _, rfl, ⟨p30, rfl, p30K⟩, t0⟩ := t0
  obtain ⟨_, _, rfl, ⟨p31, rfl, p31K⟩, t0⟩ := t0
  obtain ⟨_, _, rfl, ⟨p32, rfl, p32K⟩, t0⟩ := t0
  obtain ⟨_, _, rfl, ⟨p33, rfl, p33K⟩, t0⟩ := t0
  obtain ⟨_, _, rfl, ⟨p34, rfl, p34K⟩, t0⟩ := t0
  obtain ⟨_, _, rfl, ⟨p35, rfl, p35K⟩, t0⟩ := t0
  obtain ⟨_, _, rfl, ⟨p36, rfl, p36K⟩, t0⟩ := t0
  obtain ⟨_, _, rfl, ⟨p37, rfl, p37K⟩, t0⟩ := t0
  obtain ⟨_, _, rfl, ⟨p38, rfl, p38K⟩, t0⟩ := t0
  obtain ⟨_, _, rfl, ⟨p39, rfl, p39K⟩, t0⟩ := t0
  obtain ⟨_, _, rfl, ⟨p40, rfl, p40K⟩, t0⟩ := t0
  obtain ⟨_, _, rfl, ⟨p41, rfl, p41K⟩, t0⟩ := t0
  obtain ⟨_, _, rfl, ⟨p42, rfl, p42K⟩, t0⟩ := t0
  obtain ⟨_, _, rfl, ⟨p43, rfl, p43K⟩, t0⟩ := t0
  obtain ⟨_, _, rfl, ⟨p44, rfl, p44K⟩, t0⟩ := t0
  obtain ⟨_, _, rfl, ⟨p45, rfl, p45K⟩, t0⟩ := t0
  obtain ⟨_, _, rfl, ⟨p46, rfl, p46K⟩, t0⟩ := t0
  obtain ⟨_, _, rfl, ⟨p47, rfl, p47K⟩, t0⟩ := t0
  obtain ⟨_, _, rfl, ⟨p48, rfl, p48K⟩, t0⟩ := t0
  obtain ⟨_, _, rfl, ⟨p49, rfl, p49K⟩, t0⟩ := t0
  obtain ⟨_, _, rfl, ⟨p50, rfl, p50K⟩, t0⟩ := t0
  obtain ⟨_, _, rfl, ⟨p51, rfl, p51K⟩, t0⟩ := t0
  obtain ⟨_, _, rfl, ⟨p52, rfl, p52K⟩, t0⟩ := t0
  obtain ⟨_, _, rfl, ⟨p53, rfl, p53K⟩, t0⟩ := t0
  obtain ⟨_, _, rfl, ⟨p54, rfl, p54K⟩, t0⟩ := t0
  obtain ⟨_, _, rfl, ⟨p55, rfl, p55K⟩, t0⟩ := t0
  obtain ⟨_, _, rfl, ⟨p56, rfl, p56K⟩, t0⟩ := t0
  obtain ⟨_, _, rfl, ⟨p57, rfl, p57K⟩, t0⟩ := t0
  obtain ⟨_, _, rfl, ⟨p58, rfl, p58K⟩, t0⟩ := t0
  obtain ⟨_, _, rfl, ⟨p59, rfl, p59K⟩, t0⟩ := t0
  obtain ⟨_, _, rfl, ⟨p60, rfl, p60K⟩, t0⟩ := t0
  obtain ⟨_, _, rfl, ⟨p61, rfl, p61K⟩, t0⟩ := t0
  obtain ⟨_, _, rfl, ⟨p62, rfl, p62K⟩, t0⟩ := t0
  obtain ⟨_, _, rfl, ⟨p63, rfl, p63K⟩, t0⟩ := t0
  obtain ⟨_, _, rfl, ⟨p64, rfl, p64K⟩, t0⟩ := t0
  obtain ⟨_, _, rfl, ⟨p65, rfl, p65K⟩, t0⟩ := t0
  obtain ⟨_, _, rfl, ⟨p66, rfl, p66K⟩, t0⟩ := t0
  obtain ⟨_, _, rfl, ⟨p67, rfl, p67K⟩, t0⟩ := t0
  obtain ⟨_, _, rfl, ⟨p68, rfl, p68K⟩, t0⟩ := t0
  obtain ⟨_, _, rfl, ⟨p69, rfl, p69K⟩, t0⟩ := t0
  obtain ⟨_, _, rfl, ⟨p70, rfl, p70K⟩, t0⟩ := t0
  obtain ⟨_, _, rfl, ⟨p71, rfl, p71K⟩, t0⟩ := t0
  obtain ⟨_, _, rfl, ⟨p72, rfl, p72K⟩, t0⟩ := t0
  obtain ⟨_, _, rfl, ⟨p73, rfl, p73K⟩, t0⟩ := t0
  obtain ⟨_, _, rfl, ⟨p74, rfl, p74K⟩, t0⟩ := t0
  obtain ⟨_, _, rfl, ⟨p75, rfl, p75K⟩, t0⟩ := t0
  obtain ⟨_, _, rfl, ⟨p76, rfl, p76K⟩, t0⟩ := t0
  obtain ⟨_, _, rfl, ⟨p77, rfl, p77K⟩, t0⟩ := t0
  obtain ⟨_, _, rfl, ⟨p78, rfl, p78K⟩, t0⟩ := t0
  obtain ⟨_, _, rfl, ⟨p79, rfl, p79K⟩, t0⟩ := t0
  obtain ⟨_, _, rfl, ⟨p80, rfl, p80K⟩, t0⟩ := t0
  have t0 := (t0 : _ = [])
  subst t0
  obtain ⟨_, _, rfl, ⟨u0, rfl⟩, t1⟩ := t1
  obtain ⟨_, _, rfl, ⟨u1, rfl⟩, t1⟩ := t1
  obtain ⟨_, _, rfl, ⟨u2, rfl⟩, t1⟩ := t1
  obtain ⟨_, _, rfl, ⟨u3, rfl⟩, t1⟩ := t1
  obtain ⟨_, _, rfl, ⟨u4, rfl⟩, t1⟩ := t1
  obtain ⟨_, _, rfl, ⟨u5, rfl⟩, t1⟩ := t1
  obtain ⟨_, _, rfl, ⟨u6, rfl⟩, t1⟩ := t1
  obtain ⟨_, _, rfl, ⟨u7, rfl⟩, t1⟩ := t1
  obtain ⟨_, _, rfl, ⟨u8, rfl⟩, t1⟩ := t1
  obtain ⟨_, _, rfl, ⟨u9, rfl⟩, t1⟩ := t1
  obtain ⟨_, _, rfl, ⟨u10, rfl⟩, t1⟩ := t1
  obtain ⟨_, _, rfl, ⟨u11, rfl⟩, t1⟩ := t1
  obtain ⟨_, _, rfl, ⟨u12, rfl⟩, t1⟩ := t1
  obtain ⟨_, _, rfl, ⟨u13, rfl⟩, t1⟩ := t1
  obtain ⟨_, _, rfl, ⟨u14, rfl⟩, t1⟩ := t1
  obtain ⟨_, _, rfl, ⟨u15, rfl⟩, t1⟩ := t1
  obtain ⟨_, _, rfl, ⟨u16, rfl⟩, t1⟩ := t1
  obtain ⟨_, _, rfl, ⟨u17, rfl⟩, t1⟩ := t1
  obtain ⟨_, _, rfl, ⟨u18, rfl⟩, t1⟩ := t1
  obtain ⟨_, _, rfl, ⟨u19, rfl⟩, t1⟩ := t1
  obtain ⟨_, _, rfl, ⟨u20, rfl⟩, t1⟩ := t1
  obtain ⟨_, _, rfl, ⟨u21, rfl⟩, t1⟩ := t1
  obtain ⟨_, _, rfl, ⟨u22, rfl⟩, t1⟩ := t1
  obtain ⟨_, _, rfl, ⟨u23, rfl⟩, t1⟩ := t1
  obtain ⟨_, _, rfl, ⟨u24, rfl⟩, t1⟩ := t1
  obtain ⟨_, _, rfl, ⟨u25, rfl⟩, t1⟩ := t1
  obtain ⟨_, _, rfl, ⟨u26, rfl⟩, t1⟩ := t1
  obtain ⟨_, _, rfl, ⟨u27, rfl⟩, t1⟩ := t1
  obtain ⟨_, _, rfl, ⟨u28, rfl⟩, t1⟩ := t1
  obtain ⟨_, _, rfl, ⟨u29, rfl⟩, t1⟩ := t1
  obtain ⟨_, _, rfl, ⟨u30, rfl⟩, t1⟩ := t1
  obtain ⟨_, _, rfl, ⟨u31, rfl⟩, t1⟩ := t1
  obtain ⟨_, _, rfl, ⟨u32, rfl⟩, t1⟩ := t1
  obtain ⟨_, _, rfl, ⟨u33, rfl⟩, t1⟩ := t1
  obtain ⟨_, _, rfl, ⟨u34, rfl⟩, t1⟩ := t1
  obtain ⟨_, _, rfl, ⟨u35, rfl⟩, t1⟩ := t1
  obtain ⟨_, _, rfl, ⟨u36, rfl⟩, t1⟩ := t1
  obtain ⟨_, _, rfl, ⟨u37, rfl⟩, t1⟩ := t1
  obtain ⟨_, _, rfl, ⟨u38, rfl⟩, t1⟩ := t1
  obtain ⟨_, _, rfl, ⟨u39, rfl⟩, t1⟩ := t1
  obtain ⟨_, _, rfl, ⟨u40, rfl⟩, t1⟩ := t1
  obtain ⟨_, _, rfl, ⟨u41, rfl⟩, t1⟩ := t1
  obtain ⟨_, _, rfl, ⟨u42, rfl⟩, t1⟩ := t1
  obtain ⟨_, _, rfl, ⟨u43, rfl⟩, t1⟩ := t1
  obtain ⟨_, _, rfl, ⟨u44, rfl⟩, t1⟩ := t1
  obtain ⟨_, _, rfl, ⟨u45, rfl⟩, t1⟩ := t1
  obtain ⟨_, _, rfl, ⟨u46, rfl⟩, t1⟩ := t1
  obtain ⟨_, _, rfl, ⟨u47, rfl⟩, t1⟩ := t1
  obtain ⟨_, _, rfl, ⟨u48, rfl⟩, t1⟩ := t1
  obtain ⟨_, _, rfl, ⟨u49, rfl⟩, t1⟩ := t1
  obtain ⟨_, _, rfl, ⟨u50, rfl⟩, t1⟩ := t1
  obtain ⟨_, _, rfl, ⟨u51, rfl⟩, t1⟩ := t1
  obtain ⟨_, _, rfl, ⟨u52, rfl⟩, t1⟩ := t1
  obtain ⟨_, _, rfl, ⟨u53, rfl⟩, t1⟩ := t1
  obtain ⟨_, _, rfl, ⟨u54, rfl⟩, t1⟩ := t1
  obtain ⟨_, _, rfl, ⟨u55, rfl⟩, t1⟩ := t1
  obtain ⟨_, _, rfl, ⟨u56, rfl⟩, t1⟩ := t1
  obtain ⟨_, _, rfl, ⟨u57, rfl⟩, t1⟩ := t1
  obtain ⟨_, _, rfl, ⟨u58, rfl⟩, t1⟩ := t1
  obtain ⟨_, _, rfl, ⟨u59, rfl⟩, t1⟩ := t1
  obtain ⟨_, _, rfl, ⟨u60, rfl⟩, t1⟩ := t1
  obtain ⟨_, _, rfl, ⟨u61, rfl⟩, t1⟩ := t1
  obtain ⟨_, _, rfl, ⟨u62, rfl⟩, t1⟩ := t1
  obtain ⟨_, _, rfl, ⟨u63, rfl⟩, t1⟩ := t1
  have t1 := (t1 : _ = [])
  subst t1
  obtain ⟨f, hf⟩ := press_fn (p0 := p0) (p1 := p1) (p2 := p2) (p3 := p3) (p4 := p4) (p5 := p5) (p6 := p6) (p7 := p7) (p8 := p8) (p9 := p9) (p10 := p10) (p11 := p11) (p12 := p12) (p13 := p13) (p14 := p14) (p15 := p15) (p16 := p16) (p17 := p17) (p18 := p18) (p19 := p19) (p20 := p20) (p21 := p21) (p22 := p22) (p23 := p23) (p24 := p24) (p25 := p25) (p26 := p26) (p27 := p27) (p28 := p28) (p29 := p29) (p30 := p30) (p31 := p31) (p32 := p32) (p33 := p33) (p34 := p34) (p35 := p35) (p36 := p36) (p37 := p37) (p38 := p38) (p39 := p39) (p40 := p40) (p41 := p41) (p42 := p42) (p43 := p43) (p44 := p44) (p45 := p45) (p46 := p46) (p47 := p47) (p48 := p48) (p49 := p49) (p50 := p50) (p51 := p51) (p52 := p52) (p53 := p53) (p54 := p54) (p55 := p55) (p56 := p56) (p57 := p57) (p58 := p58) (p59 := p59) (p60 := p60) (p61 := p61) (p62 := p62) (p63 := p63) (p64 := p64) (p65 := p65) (p66 := p66) (p67 := p67) (p68 := p68) (p69 := p69) (p70 := p70) (p71 := p71) (p72 := p72) (p73 := p73) (p74 := p74) (p75 := p75) (p76 := p76) (p77 := p77) (p78 := p78) (p79 := p79) (p80 := p80)
  obtain ⟨t, ht⟩ : ∃ t : Nat → Bool, AV.agg (List.map AV.bool [u0, u1, u2, u3, u4, u5, u6, u7, u8, u9, u10, u11, u12, u13, u14, u15, u16, u17, u18, u19, u20, u21, u22, u23, u24, u25, u26, u27, u28, u29, u30, u31, u32, u33, u34, u35, u36, u37, u38, u39, u40, u41, u42, u43, u44, u45, u46, u47, u48, u49, u50, u51, u52, u53, u54, u55, u56, u57, u58, u59, u60, u61, u62, u63]) = .agg (bl t) := ⟨fun i => [u0, u1, u2, u3, u4, u5, u6, u7, u8, u9, u10, u11, u12, u13, u14, u15, u16, u17, u18, u19, u20, u21, u22, u23, u24, u25, u26, u27, u28, u29, u30, u31, u32, u33, u34, u35, u36, u37, u38, u39, u40, u41, u42, u43, u44, u45, u46, u47, u48, u49, u50, u51, u52, u53, u54, u55, u56, u57, u58, u59, u60, u61, u62, u63].getD i false, rfl⟩
  have key : ∃ K, CallerTOk Try.prog K ∧ ∃ r, evF Try.prog K noL lawN lawD 13 [.agg (pcs f), .agg (bl t)] [] = some (r, true) ∧ delit r.get.1 = .bool true := by
    have hS := hS f t
    have hI := hI f t
    rw [oT_true f (ovwS_true f) (by rw [deqS_self]; rfl)] at hS
    rw [oT_true f (ovwI_true f) (ch_true (owI_true f) 16)] at hI
    have kS := sum_at0 (L := LT f t) sxApart sxMixed (oK_ok f finK_ok) (LT_ok f t) hS (by kernel_rfl) (T := .leaf (.tup [.agg (cF (tv f t)), .int .i64 (tc f)], none)) (fun _ => TT_le f t) (fun _ => ⟨rfl, rfl⟩)
    have kI := sum_at0 (L := noL) sxApart sxMixed (oK_ok f finK_ok) (fun _ _ _ _ => noL_ok) hI (by kernel_rfl) (T := .leaf (.tup [.agg (cF (tv f t)), .int .i64 (tc f)], none)) (fun _ => TT_le f t) (fun _ => ⟨rfl, rfl⟩)
    refine ⟨addK 47 _ (addK 49 _ extK), addK_ok kS (addK_ok kI extK_ok), .leaf (.bool (cond (cond (!sfL (l16 (tv f t) 0)) true (tc f != tc f)) false true), none), ?_, ?_⟩
    · have h : evF Try.prog (addK 47 (runAt [.agg (pcs f), .agg (bl t)] (.leaf (.tup [.agg (cF (tv f t)), .int .i64 (tc f)], none)) true) (addK 49 (runAt [.agg (pcs f), .agg (bl t)] (.leaf (.tup [.agg (cF (tv f t)), .int .i64 (tc f)], none)) true) extK)) noL lawN lawD 13 [.agg (pcs f), .agg (bl t)] [] = some (.leaf (.bool (cond (cond (!sfL (l16 (tv f t) 0)) true (tc f != tc f)) false true), none), andB (andB (andB (deq [.agg (pcs f), .agg (bl t)] [.agg (pcs f), .agg (bl t)]) true) true) (andB (andB (andB (deq [.agg (pcs f), .agg (bl t)] [.agg (pcs f), .agg (bl t)]) true) true) true)) := by kernel_rfl
      rw [deq_self] at h
      exact h
    · simp [Tr.get, delit, sfL_true]
  rw [← hf, ← ht] at key
  exact key

set_option maxRecDepth 100000 in
theorem lifted (os : Os) (started : os.Started) (H : Type) (enc : TypeId × Value → H) :
    ReturnsInHanded {} Try.checked os 13 .any (Rows.fnExactTileCurveSpec.pre6 enc Try.prog Try.f13 Rows.fnExactTileCurveRow.domain false) (Rows.fnExactTileCurveSpec.post enc Try.prog Try.f13 false true false false) := by
  refine returnsInHanded_of_change (C := Try.checked) sxOwn started (by kernel_rfl) Try.func13
    (ChangeSpec.witness6 (enc := enc) (C := Try.checked) false ⟨#[], #[.agg #[.float .f32 0, .float .f32 0, .float .f32 0, .float .f32 0, .float .f32 0, .float .f32 0, .float .f32 0, .float .f32 0, .float .f32 0, .float .f32 0, .float .f32 0, .float .f32 0, .float .f32 0, .float .f32 0, .float .f32 0, .float .f32 0, .float .f32 0, .float .f32 0, .float .f32 0, .float .f32 0, .float .f32 0, .float .f32 0, .float .f32 0, .float .f32 0, .float .f32 0, .float .f32 0, .float .f32 0, .float .f32 0, .float .f32 0, .float .f32 0, .float .f32 0, .float .f32 0, .float .f32 0, .float .f32 0, .float .f32 0, .float .f32 0, .float .f32 0, .float .f32 0, .float .f32 0, .float .f32 0, .float .f32 0, .float .f32 0, .float .f32 0, .float .f32 0, .float .f32 0, .float .f32 0, .float .f32 0, .float .f32 0, .float .f32 0, .float .f32 0, .float .f32 0, .float .f32 0, .float .f32 0, .float .f32 0, .float .f32 0, .float .f32 0, .float .f32 0, .float .f32 0, .float .f32 0, .float .f32 0, .float .f32 0, .float .f32 0, .float .f32 0, .float .f32 0, .float .f32 0, .float .f32 0, .float .f32 0, .float .f32 0, .float .f32 0, .float .f32 0, .float .f32 0, .float .f32 0, .float .f32 0, .float .f32 0, .float .f32 0, .float .f32 0, .float .f32 0, .float .f32 0, .float .f32 0, .float .f32 0, .float .f32 0], .agg #[.bool false, .bool false, .bool false, .bool false, .bool false, .bool false, .bool false, .bool false, .bool false, .bool false, .bool false, .bool false, .bool false, .bool false, .bool false, .bool false, .bool false, .bool false, .bool false, .bool false, .bool false, .bool false, .bool false, .bool false, .bool false, .bool false, .bool false, .bool false, .bool false, .bool false, .bool false, .bool false, .bool false, .bool false, .bool false, .bool false, .bool false, .bool false, .bool false, .bool false, .bool false, .bool false, .bool false, .bool false, .bool false, .bool false, .bool false, .bool false, .bool false, .bool false, .bool false, .bool false, .bool false, .bool false, .bool false, .bool false, .bool false, .bool false, .bool false, .bool false, .bool false, .bool false, .bool false, .bool false]], []⟩ 8 (by kernel_rfl) (by kernel_rfl) (by kernel_rfl) (by kernel_rfl)) ?_
  intro W base args ds gs before hval0 hW hcnd _
  have hval : ∀ (j : Nat) t v, Try.f13.params[j]? = some t → args[j]? = some v → Value.okWide Try.prog W .any base t v := hval0
  have hW' := hW
  obtain ⟨p, q, hA0, hV, rfl, hfz, hnd⟩ := hW
  have hA : DataW.TrodAll enc Try.prog W 0 (fun _ => true) true Try.f13.params.toList args.toList ds p := hA0
  rw [Try.params13] at hA hval
  obtain ⟨v0, vs0, d0, ds0, p0, q0, hargs, rfl, rfl, h0, r0⟩ := trodAll_cons hA
  obtain ⟨v1, vs1, d1, ds1, p1, q1, rfl, rfl, rfl, h1, r1⟩ := trodAll_cons r0
  obtain ⟨rfl, rfl, rfl⟩ := trodAll_nil r1
  obtain rfl : args = #[v0, v1] := by cases args; simp_all
  obtain ⟨rfl, rfl⟩ := trodVars_none hV
  have hrel0 : HRel [] [] W := ⟨rfl, fun b x p h => by simp at h, fun b c x y p q _ h => by simp at h⟩
  have hro0 := ro_nil
  obtain ⟨l0, t0, e0⟩ := arg_agg (ρ := []) (ts := [22, 22, 22, 22, 22, 22, 22, 22, 22, 22, 22, 22, 22, 22, 22, 22, 22, 22, 22, 22, 22, 22, 22, 22, 22, 22, 22, 22, 22, 22, 22, 22, 22, 22, 22, 22, 22, 22, 22, 22, 22, 22, 22, 22, 22, 22, 22, 22, 22, 22, 22, 22, 22, 22, 22, 22, 22, 22, 22, 22, 22, 22, 22, 22, 22, 22, 22, 22, 22, 22, 22, 22, 22, 22, 22, 22, 22, 22, 22, 22, 22]) (ks := [.flt .f32, .flt .f32, .flt .f32, .flt .f32, .flt .f32, .flt .f32, .flt .f32, .flt .f32, .flt .f32, .flt .f32, .flt .f32, .flt .f32, .flt .f32, .flt .f32, .flt .f32, .flt .f32, .flt .f32, .flt .f32, .flt .f32, .flt .f32, .flt .f32, .flt .f32, .flt .f32, .flt .f32, .flt .f32, .flt .f32, .flt .f32, .flt .f32, .flt .f32, .flt .f32, .flt .f32, .flt .f32, .flt .f32, .flt .f32, .flt .f32, .flt .f32, .flt .f32, .flt .f32, .flt .f32, .flt .f32, .flt .f32, .flt .f32, .flt .f32, .flt .f32, .flt .f32, .flt .f32, .flt .f32, .flt .f32, .flt .f32, .flt .f32, .flt .f32, .flt .f32, .flt .f32, .flt .f32, .flt .f32, .flt .f32, .flt .f32, .flt .f32, .flt .f32, .flt .f32, .flt .f32, .flt .f32, .flt .f32, .flt .f32, .flt .f32, .flt .f32, .flt .f32, .flt .f32, .flt .f32, .flt .f32, .flt .f32, .flt .f32, .flt .f32, .flt .f32, .flt .f32, .flt .f32, .flt .f32, .flt .f32, .flt .f32, .flt .f32, .flt .f32]) (hval 0 26 v0 rfl rfl) (by kernel_rfl) (by kernel_rfl) (by kernel_rfl) (by kernel_rfl)
  obtain ⟨l1, t1, e1⟩ := arg_agg (ρ := []) (ts := [4, 4, 4, 4, 4, 4, 4, 4, 4, 4, 4, 4, 4, 4, 4, 4, 4, 4, 4, 4, 4, 4, 4, 4, 4, 4, 4, 4, 4, 4, 4, 4, 4, 4, 4, 4, 4, 4, 4, 4, 4, 4, 4, 4, 4, 4, 4, 4, 4, 4, 4, 4, 4, 4, 4, 4, 4, 4, 4, 4, 4, 4, 4, 4]) (ks := [.bool, .bool, .bool, .bool, .bool, .bool, .bool, .bool, .bool, .bool, .bool, .bool, .bool, .bool, .bool, .bool, .bool, .bool, .bool, .bool, .bool, .bool, .bool, .bool, .bool, .bool, .bool, .bool, .bool, .bool, .bool, .bool, .bool, .bool, .bool, .bool, .bool, .bool, .bool, .bool, .bool, .bool, .bool, .bool, .bool, .bool, .bool, .bool, .bool, .bool, .bool, .bool, .bool, .bool, .bool, .bool, .bool, .bool, .bool, .bool, .bool, .bool, .bool, .bool]) (hval 1 72 v1 rfl rfl) (by kernel_rfl) (by kernel_rfl) (by kernel_rfl) (by kernel_rfl)
  have k0 := h0
  have lt0 : ∀ x ∈ p0, x.block < W.heap.size := by obtain ⟨m, hm⟩ := k0; exact DataW.trod_lt m _ _ _ hm
  have k1 := h1
  have lt1 : ∀ x ∈ p1, x.block < W.heap.size := by obtain ⟨m, hm⟩ := k1; exact DataW.trod_lt m _ _ _ hm
  have hargs : VRels [] [.agg l0, .agg l1] [v0, v1] := by
    simp only [VRels]
    exact ⟨v0, _, rfl, e0, ⟨v1, _, rfl, e1, rfl⟩⟩
  obtain ⟨lawK, lawK_ok, hlaw⟩ := law l0 t0 l1 t1
  refine (evF_true (K := lawK) (L := noL) (N := lawN) (d := lawD) sxApart sxMixed lawK_ok (fun _ _ _ _ => noL_ok) hlaw hrel0 hro0 hargs).mono fun e W' ⟨he, bel⟩ => ?_
  subst he
  exact ⟨_, rfl, _, _, _, [], _, [], hW', trodAll_mk1 (shut_bool Try.underlying4 _), (trodAll_cons_mk (Below.trod sxLaid (by kernel_rfl) (of_decide_eq_true (by kernel_rfl)) k0 bel lt0) (trodAll_cons_mk (Below.trod sxLaid (by kernel_rfl) (of_decide_eq_true (by kernel_rfl)) k1 bel lt1) trodAll_mk0)), rfl, bel.frame _, fun h => by cases h⟩

theorem over : Rows.fnExactTileCurveRow.holds Try.pinned (OpenSpec.ofChange Rows.fnExactTileCurveSpec) :=
  OpenClaim.holds_of_wide 13 Try.f13 rfl rfl rfl rfl rfl rfl rfl ⟨rfl, rfl, rfl, rfl, rfl⟩ rfl rfl rfl rfl rfl (by kernel_rfl) Try.func13 (by kernel_rfl)
    (of_decide_eq_true (by kernel_rfl)) (by unfold Func.isWrapper; first | (rw [if_pos (by decide +kernel)]; kernel_rfl) | (rw [if_neg (by decide +kernel)]; exact ⟨rfl, rfl⟩))
    (fun os started H enc _ => lifted os started H enc)

/-- The statement. -/
theorem proved : Rows.FnExactTileCurveSaid := over
#print axioms proved
end Go.Proofs.Ytpechflfloolkaa.lawTileCurve
