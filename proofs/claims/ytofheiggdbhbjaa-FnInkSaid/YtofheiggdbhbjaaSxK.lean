/- The functions of Go's library that the model does itself, as this program has them. -/
import Derived.Test.YtofheiggdbhbjaaSxBase
import Derived.Test.YtofheiggdbhbjaaSxExt
set_option maxRecDepth 100000
namespace Go.Proofs.Ytofheiggdbhbjaa
open Go.Sx

theorem ext34 : SumOk Try.prog 34 (fun args _ => bitsRun .f32 .u32 args) := ext_ok Try.func34 (by kernel_rfl) (by kernel_rfl) (by kernel_rfl) (e := Extern.MathFloatBits.float32bits) (by kernel_rfl) bits32_ok
theorem ext36 : SumOk Try.prog 36 (fun args _ => bitsRun .f64 .u64 args) := ext_ok Try.func36 (by kernel_rfl) (by kernel_rfl) (by kernel_rfl) (e := Extern.MathFloatBits.float64bits) (by kernel_rfl) bits64_ok
theorem ext33 : SumOk Try.prog 33 (fun args _ => fromRun .f32 .u32 4294967296 args) := ext_ok Try.func33 (by kernel_rfl) (by kernel_rfl) (by kernel_rfl) (e := Extern.MathFloatBits.float32frombits) (by kernel_rfl) from32_ok
theorem ext35 : SumOk Try.prog 35 (fun args _ => fromRun .f64 .u64 18446744073709551616 args) := ext_ok Try.func35 (by kernel_rfl) (by kernel_rfl) (by kernel_rfl) (e := Extern.MathFloatBits.float64frombits) (by kernel_rfl) from64_ok
noncomputable def extK : CallerT := (addK 35 (fun args _ => fromRun .f64 .u64 18446744073709551616 args) (addK 33 (fun args _ => fromRun .f32 .u32 4294967296 args) (addK 36 (fun args _ => bitsRun .f64 .u64 args) (addK 34 (fun args _ => bitsRun .f32 .u32 args) noK))))
theorem extK_ok : CallerTOk Try.prog extK := (addK_ok ext35 (addK_ok ext33 (addK_ok ext36 (addK_ok ext34 noK_ok))))
end Go.Proofs.Ytofheiggdbhbjaa
