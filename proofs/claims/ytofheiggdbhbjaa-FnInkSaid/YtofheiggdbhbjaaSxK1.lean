/- Summaries of functions on numbers and curves, as this program has them. -/
import Derived.Test.YtofheiggdbhbjaaSxK
import Derived.Test.YtofheiggdbhbjaaSxC1
set_option maxRecDepth 100000
namespace Go.Proofs.Ytofheiggdbhbjaa
open Go.Sx Go.Sx.C1


end Go.Proofs.Ytofheiggdbhbjaa
