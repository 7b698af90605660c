/- The functions of Go's library that the model does itself, as this program has them. -/
import Derived.Test.YtibdnhjldifpaaaSxBase
import Derived.Test.YtibdnhjldifpaaaSxExt
set_option maxRecDepth 100000
namespace Go.Proofs.Ytibdnhjldifpaaa
open Go.Sx

theorem ext133 : SumOk Try.prog 133 (fun args _ => bitsRun .f32 .u32 args) := ext_ok Try.func133 (by kernel_rfl) (by kernel_rfl) (by kernel_rfl) (e := Extern.MathFloatBits.float32bits) (by kernel_rfl) bits32_ok
theorem ext164 : SumOk Try.prog 164 (fun args _ => bitsRun .f64 .u64 args) := ext_ok Try.func164 (by kernel_rfl) (by kernel_rfl) (by kernel_rfl) (e := Extern.MathFloatBits.float64bits) (by kernel_rfl) bits64_ok
theorem ext163 : SumOk Try.prog 163 (fun args _ => fromRun .f64 .u64 18446744073709551616 args) := ext_ok Try.func163 (by kernel_rfl) (by kernel_rfl) (by kernel_rfl) (e := Extern.MathFloatBits.float64frombits) (by kernel_rfl) from64_ok
theorem ext127 : SumOk Try.prog 127 (fun args _ => intRun .even args) := ext_ok Try.func127 (by kernel_rfl) (by kernel_rfl) (by kernel_rfl) (e := Extern.MathFloor.toIntegral "math.RoundToEven" .even) (by kernel_rfl) (int_ok _ .even)
noncomputable def extK : CallerT := (addK 127 (fun args _ => intRun .even args) (addK 163 (fun args _ => fromRun .f64 .u64 18446744073709551616 args) (addK 164 (fun args _ => bitsRun .f64 .u64 args) (addK 133 (fun args _ => bitsRun .f32 .u32 args) noK))))
theorem extK_ok : CallerTOk Try.prog extK := (addK_ok ext127 (addK_ok ext163 (addK_ok ext164 (addK_ok ext133 noK_ok))))
end Go.Proofs.Ytibdnhjldifpaaa
