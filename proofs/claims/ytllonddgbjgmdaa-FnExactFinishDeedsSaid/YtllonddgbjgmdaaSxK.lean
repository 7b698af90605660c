/- The functions of Go's library that the model does itself, as this program has them. -/
import Derived.Test.YtllonddgbjgmdaaSxBase
import Derived.Test.YtllonddgbjgmdaaSxExt
set_option maxRecDepth 100000
namespace Go.Proofs.Ytllonddgbjgmdaa
open Go.Sx

noncomputable def extK : CallerT := noK
theorem extK_ok : CallerTOk Try.prog extK := noK_ok
end Go.Proofs.Ytllonddgbjgmdaa
