/- Summaries of functions on numbers and curves, as this program has them. -/
import Derived.Test.YtpnjimpiphbcfaaSxK
import Derived.Test.YtpnjimpiphbcfaaSxC1
set_option maxRecDepth 100000
namespace Go.Proofs.Ytpnjimpiphbcfaa
open Go.Sx Go.Sx.C1

theorem sumSameS : SumOk Try.prog 92 sameRun := same_sum sxApart sxMixed extK_ok (N := 1) (d := 1) (fun a b => by kernel_rfl)

end Go.Proofs.Ytpnjimpiphbcfaa
