/- Ink of a grid: the law evaluated, and its parts. -/
import Derived.Test.YtofheiggdbhbjaaSxI10
set_option linter.unusedVariables false
set_option linter.unusedSimpArgs false
set_option exponentiation.threshold 3000
set_option maxRecDepth 100000
namespace Go.Proofs.Ytofheiggdbhbjaa.I11
open Go Go.Sx Go.Sx.R0 Go.Sx.C5 Go.Sx.C1 Go.Sx.Fl Go.Sx.Ink Ieee Go.Proofs.Ytofheiggdbhbjaa.I8 Go.Proofs.Ytofheiggdbhbjaa.I9 Go.Proofs.Ytofheiggdbhbjaa.I10

noncomputable def E4 (x0 x1 x2 x3 y0 y1 y2 y3 : Option Nat) : Bool := andB (fcmp .eql .f32 x0 y0) (andB (fcmp .eql .f32 x1 y1) (andB (fcmp .eql .f32 x2 y2) (andB (fcmp .eql .f32 x3 y3) true)))
def nt (b : Bool) : Bool := cond b false true
def big (n m : Nat) : Bool := cond (decide ((n : Int) > 4096)) true (decide ((m : Int) > 4096))
noncomputable def p1 (d0 d1 d2 d3 c0 c1 c2 c3 LL iD iC : Option Nat) : Bool := cond (cond (cond (cond (andB (andB (nt (E4 d0 d1 d2 d3 d0 d1 d2 d3)) true) true) true (fcmp .gtr .f32 iD (fop .add .f32 LL (some 953267991)))) true (andB (fcmp .leq .f32 iC LL) (nt (E4 d0 d1 d2 d3 c0 c1 c2 c3)))) true (fcmp .gtr .f32 d3 c3)) true (andB (fcmp .leq .f32 c3 LL) (fcmp .neq .f32 d3 c3))
noncomputable def p2 (d c : Option Nat) : Bool := cond (fcmp .lss .f32 d (some 0)) true (fcmp .gtr .f32 d c)
noncomputable def p3 (z0 z1 z2 z3 c0 c1 c2 c3 e0 e1 e2 e3 m0 m1 m2 m3 : Option Nat) : Bool := impB (E4 z0 z1 z2 z3 c0 c1 c2 c3) (andB (nt (E4 e0 e1 e2 e3 m0 m1 m2 m3)) true)
noncomputable def p4 (m : Option Nat) : Bool := cond (!true) true (fcmp .lss .f32 m (some 0))
def V (g P1 Pa Pb Pc Pd P3 M0 M1 M2 : Bool) : Bool := cond g true (cond P1 false (cond Pa false (cond Pb false (cond Pc false (cond Pd false (cond P3 false (cond M0 false (cond M1 false (cond M2 false true)))))))))
def O (g P1 Pa Pb Pc Pd P3 M0 M1 M2 q1 q2 q3 q4 q5d q5c q22 q6 q7 q60 n0 n1 n2 n3 : Bool) : Bool := impB (!g) (andB q1 (andB q2 (andB q3 (andB q4 (andB q5d (andB q5c (impB (!P1) (impB (!Pa) (impB (!Pb) (impB (!Pc) (impB (!Pd) (andB q22 (andB q6 (andB q7 (andB q60 (impB (!P3)
  (andB (andB n0 true) (impB (!M0) (andB (andB n1 true) (impB (!M1) (andB (andB n2 true) (impB (!M2) (andB n3 true)))))))))))))))))))))))
noncomputable def le (c0 c1 c2 : Option Nat) : Option Nat := fmin2 .f32 (fmin2 .f32 c0 c1) c2
noncomputable def bk (f : Option Nat → Option Nat → Option Nat → Option Nat) (s c0 c1 c2 c3 : Option Nat) : Option Nat := cond (fcmp .gtr .f32 (fop .add .f32 c3 (mu s (f c0 c1 c2))) (some 1065353216)) (some 1065353216) (fop .add .f32 c3 (mu s (f c0 c1 c2)))
noncomputable def ud (f : Option Nat → Option Nat → Option Nat → Option Nat) (s c0 c1 c2 c : Option Nat) : Option Nat := fop .sub .f32 c (mu s (f c0 c1 c2))
noncomputable def nr (a b d : Option Nat) : Bool := pB (∃ A, NV a A ∧ NV b A ∧ d = some 953267991)
noncomputable def lawK (n m : Nat) (g h : Nat → Int) (c0 c1 c2 c3 d0 d1 d2 d3 : Option Nat) (L s : Int) : CallerT := addK 12 (selRun I10.runN) (addK 5 (runCv n g c0 c1 c2 c3) (addK 6 (runP2 m h L s)
  (addK 7 (runLm c0 c1 c2 c3 (gr 1082130432 L) d0 d1 d2 d3) (addK 8 (runLm c0 c1 c2 c3 (gr 1082130432 L) d0 d1 d2 d3) (addK 9 (selRun runInk)
  (addK 10 (selRun (runPb leI)) (addK 11 (selRun (runPb I8.leS)) extK)))))))
theorem eLaw (n m : Nat) (g h : Nat → Int) (c0 c1 c2 c3 d0 d1 d2 d3 : Option Nat) (L s : Int) :
    evF Try.prog (lawK n m g h c0 c1 c2 c3 d0 d1 d2 d3 L s) noL 20 8 3 [.slc 0 0 n, .slc 1 0 m] [.rows false n 1 (ur g), .rows false m 1 (ur h)] =
      some (.leaf (.bool (V (big n m) (p1 d0 d1 d2 d3 c0 c1 c2 c3 (gr 1082130432 L) (ink d0 d1 d2 d3) (ink c0 c1 c2 c3)) (p2 d0 c0) (p2 d1 c1) (p2 d2 c2) (p2 d3 c3)
        (p3 (ud leI (some 0) c0 c1 c2 c0) (ud leI (some 0) c0 c1 c2 c1) (ud leI (some 0) c0 c1 c2 c2) (bk leI (some 0) c0 c1 c2 c3) c0 c1 c2 c3
          (ud leI (gr 1090519040 s) c0 c1 c2 c0) (ud leI (gr 1090519040 s) c0 c1 c2 c1) (ud leI (gr 1090519040 s) c0 c1 c2 c2) (bk leI (gr 1090519040 s) c0 c1 c2 c3)
          (ud I8.leS (gr 1090519040 s) c0 c1 c2 c0) (ud I8.leS (gr 1090519040 s) c0 c1 c2 c1) (ud I8.leS (gr 1090519040 s) c0 c1 c2 c2) (bk I8.leS (gr 1090519040 s) c0 c1 c2 c3))
        (p4 (ud I8.leS (gr 1090519040 s) c0 c1 c2 c0)) (p4 (ud I8.leS (gr 1090519040 s) c0 c1 c2 c1)) (p4 (ud I8.leS (gr 1090519040 s) c0 c1 c2 c2))), none),
      O (big n m) (p1 d0 d1 d2 d3 c0 c1 c2 c3 (gr 1082130432 L) (ink d0 d1 d2 d3) (ink c0 c1 c2 c3)) (p2 d0 c0) (p2 d1 c1) (p2 d2 c2) (p2 d3 c3)
        (p3 (ud leI (some 0) c0 c1 c2 c0) (ud leI (some 0) c0 c1 c2 c1) (ud leI (some 0) c0 c1 c2 c2) (bk leI (some 0) c0 c1 c2 c3) c0 c1 c2 c3
          (ud leI (gr 1090519040 s) c0 c1 c2 c0) (ud leI (gr 1090519040 s) c0 c1 c2 c1) (ud leI (gr 1090519040 s) c0 c1 c2 c2) (bk leI (gr 1090519040 s) c0 c1 c2 c3)
          (ud I8.leS (gr 1090519040 s) c0 c1 c2 c0) (ud I8.leS (gr 1090519040 s) c0 c1 c2 c1) (ud I8.leS (gr 1090519040 s) c0 c1 c2 c2) (bk I8.leS (gr 1090519040 s) c0 c1 c2 c3))
        (p4 (ud I8.leS (gr 1090519040 s) c0 c1 c2 c0)) (p4 (ud I8.leS (gr 1090519040 s) c0 c1 c2 c1)) (p4 (ud I8.leS (gr 1090519040 s) c0 c1 c2 c2))
        (okCv n g) (okPk m h 17) (okLm c0 c1 c2 c3 (gr 1082130432 L)) (okLm c0 c1 c2 c3 (gr 1082130432 L)) (covI d0 d1 d2 d3) (covI c0 c1 c2 c3) (okPk m h 9)
        (andB (cov c0 c1 c2 c3) (sh (gr 1090519040 s))) (andB (cov c0 c1 c2 c3) (sh (gr 1090519040 s))) (andB (cov c0 c1 c2 c3) (sh (some 0)))
        (nr (ud I8.leS (gr 1090519040 s) c0 c1 c2 c0) (fop .sub .f32 c0 (mu (gr 1090519040 s) (le c0 c1 c2))) (some 953267991))
        (nr (ud I8.leS (gr 1090519040 s) c0 c1 c2 c1) (fop .sub .f32 c1 (mu (gr 1090519040 s) (le c0 c1 c2))) (some 953267991))
        (nr (ud I8.leS (gr 1090519040 s) c0 c1 c2 c2) (fop .sub .f32 c2 (mu (gr 1090519040 s) (le c0 c1 c2))) (some 953267991))
        (nr (bk I8.leS (gr 1090519040 s) c0 c1 c2 c3) (fmin2 .f32 (some 1065353216) (fop .add .f32 c3 (mu (gr 1090519040 s) (le c0 c1 c2)))) (some 953267991))) := by kernel_rfl
end Go.Proofs.Ytofheiggdbhbjaa.I11
