/- The functions of Go's library that the model does itself, as this program has them. -/
import Derived.Test.YtodbpecmaiidpaaSxBase
import Derived.Test.YtodbpecmaiidpaaSxExt
set_option maxRecDepth 100000
namespace Go.Proofs.Ytodbpecmaiidpaa
open Go.Sx

theorem ext83 : SumOk Try.prog 83 (fun args _ => bitsRun .f32 .u32 args) := ext_ok Try.func83 (by kernel_rfl) (by kernel_rfl) (by kernel_rfl) (e := Extern.MathFloatBits.float32bits) (by kernel_rfl) bits32_ok
theorem ext96 : SumOk Try.prog 96 (fun args _ => bitsRun .f64 .u64 args) := ext_ok Try.func96 (by kernel_rfl) (by kernel_rfl) (by kernel_rfl) (e := Extern.MathFloatBits.float64bits) (by kernel_rfl) bits64_ok
theorem ext95 : SumOk Try.prog 95 (fun args _ => fromRun .f64 .u64 18446744073709551616 args) := ext_ok Try.func95 (by kernel_rfl) (by kernel_rfl) (by kernel_rfl) (e := Extern.MathFloatBits.float64frombits) (by kernel_rfl) from64_ok
theorem ext50 : SumOk Try.prog 50 (fun args _ => intRun .even args) := ext_ok Try.func50 (by kernel_rfl) (by kernel_rfl) (by kernel_rfl) (e := Extern.MathFloor.toIntegral "math.RoundToEven" .even) (by kernel_rfl) (int_ok _ .even)
noncomputable def extK : CallerT := (addK 50 (fun args _ => intRun .even args) (addK 95 (fun args _ => fromRun .f64 .u64 18446744073709551616 args) (addK 96 (fun args _ => bitsRun .f64 .u64 args) (addK 83 (fun args _ => bitsRun .f32 .u32 args) noK))))
theorem extK_ok : CallerTOk Try.prog extK := (addK_ok ext50 (addK_ok ext95 (addK_ok ext96 (addK_ok ext83 noK_ok))))
end Go.Proofs.Ytodbpecmaiidpaa
