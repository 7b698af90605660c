/- Summaries of functions on numbers and curves, as this program has them. -/
import Derived.Test.YtibdnhjldifpaaaSxK
import Derived.Test.YtibdnhjldifpaaaSxC1
set_option maxRecDepth 100000
namespace Go.Proofs.Ytibdnhjldifpaaa
open Go.Sx Go.Sx.C1

theorem sumSameS : SumOk Try.prog 116 sameRun := same_sum sxApart sxMixed extK_ok (N := 1) (d := 1) (fun a b => by kernel_rfl)
theorem sumSameI : SumOk Try.prog 110 sameRun := same_sum sxApart sxMixed extK_ok (N := 1) (d := 1) (fun a b => by kernel_rfl)

end Go.Proofs.Ytibdnhjldifpaaa
