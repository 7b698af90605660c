/- The functions of Go's library that the model does itself, as this program has them. -/
import Derived.Test.YtpechflfloolkaaSxBase
import Derived.Test.YtpechflfloolkaaSxExt
set_option maxRecDepth 100000
namespace Go.Proofs.Ytpechflfloolkaa
open Go.Sx

theorem ext112 : SumOk Try.prog 112 (fun args _ => bitsRun .f32 .u32 args) := ext_ok Try.func112 (by kernel_rfl) (by kernel_rfl) (by kernel_rfl) (e := Extern.MathFloatBits.float32bits) (by kernel_rfl) bits32_ok
theorem ext150 : SumOk Try.prog 150 (fun args _ => bitsRun .f64 .u64 args) := ext_ok Try.func150 (by kernel_rfl) (by kernel_rfl) (by kernel_rfl) (e := Extern.MathFloatBits.float64bits) (by kernel_rfl) bits64_ok
theorem ext149 : SumOk Try.prog 149 (fun args _ => fromRun .f64 .u64 18446744073709551616 args) := ext_ok Try.func149 (by kernel_rfl) (by kernel_rfl) (by kernel_rfl) (e := Extern.MathFloatBits.float64frombits) (by kernel_rfl) from64_ok
theorem ext151 : SumOk Try.prog 151 (fun args _ => sqrtRun args) := ext_ok Try.func151 (by kernel_rfl) (by kernel_rfl) (by kernel_rfl) (e := Extern.MathSqrt.sqrt) (by kernel_rfl) sqrt_ok
theorem ext85 : SumOk Try.prog 85 (fun args _ => intRun .even args) := ext_ok Try.func85 (by kernel_rfl) (by kernel_rfl) (by kernel_rfl) (e := Extern.MathFloor.toIntegral "math.RoundToEven" .even) (by kernel_rfl) (int_ok _ .even)
noncomputable def extK : CallerT := (addK 85 (fun args _ => intRun .even args) (addK 151 (fun args _ => sqrtRun args) (addK 149 (fun args _ => fromRun .f64 .u64 18446744073709551616 args) (addK 150 (fun args _ => bitsRun .f64 .u64 args) (addK 112 (fun args _ => bitsRun .f32 .u32 args) noK)))))
theorem extK_ok : CallerTOk Try.prog extK := (addK_ok ext85 (addK_ok ext151 (addK_ok ext149 (addK_ok ext150 (addK_ok ext112 noK_ok)))))
end Go.Proofs.Ytpechflfloolkaa
