/- The functions of Go's library that the model does itself, as this program has them. -/
import Derived.Test.YtpnjimpiphbcfaaSxBase
import Derived.Test.YtpnjimpiphbcfaaSxExt
set_option maxRecDepth 100000
namespace Go.Proofs.Ytpnjimpiphbcfaa
open Go.Sx

theorem ext106 : SumOk Try.prog 106 (fun args _ => bitsRun .f32 .u32 args) := ext_ok Try.func106 (by kernel_rfl) (by kernel_rfl) (by kernel_rfl) (e := Extern.MathFloatBits.float32bits) (by kernel_rfl) bits32_ok
theorem ext117 : SumOk Try.prog 117 (fun args _ => bitsRun .f64 .u64 args) := ext_ok Try.func117 (by kernel_rfl) (by kernel_rfl) (by kernel_rfl) (e := Extern.MathFloatBits.float64bits) (by kernel_rfl) bits64_ok
theorem ext107 : SumOk Try.prog 107 (fun args _ => fromRun .f32 .u32 4294967296 args) := ext_ok Try.func107 (by kernel_rfl) (by kernel_rfl) (by kernel_rfl) (e := Extern.MathFloatBits.float32frombits) (by kernel_rfl) from32_ok
theorem ext116 : SumOk Try.prog 116 (fun args _ => fromRun .f64 .u64 18446744073709551616 args) := ext_ok Try.func116 (by kernel_rfl) (by kernel_rfl) (by kernel_rfl) (e := Extern.MathFloatBits.float64frombits) (by kernel_rfl) from64_ok
theorem ext111 : SumOk Try.prog 111 (fun args _ => sqrtRun args) := ext_ok Try.func111 (by kernel_rfl) (by kernel_rfl) (by kernel_rfl) (e := Extern.MathSqrt.sqrt) (by kernel_rfl) sqrt_ok
theorem ext53 : SumOk Try.prog 53 (fun args _ => intRun .even args) := ext_ok Try.func53 (by kernel_rfl) (by kernel_rfl) (by kernel_rfl) (e := Extern.MathFloor.toIntegral "math.RoundToEven" .even) (by kernel_rfl) (int_ok _ .even)
noncomputable def extK : CallerT := (addK 53 (fun args _ => intRun .even args) (addK 111 (fun args _ => sqrtRun args) (addK 116 (fun args _ => fromRun .f64 .u64 18446744073709551616 args) (addK 107 (fun args _ => fromRun .f32 .u32 4294967296 args) (addK 117 (fun args _ => bitsRun .f64 .u64 args) (addK 106 (fun args _ => bitsRun .f32 .u32 args) noK))))))
theorem extK_ok : CallerTOk Try.prog extK := (addK_ok ext53 (addK_ok ext111 (addK_ok ext116 (addK_ok ext107 (addK_ok ext117 (addK_ok ext106 noK_ok))))))
end Go.Proofs.Ytpnjimpiphbcfaa
