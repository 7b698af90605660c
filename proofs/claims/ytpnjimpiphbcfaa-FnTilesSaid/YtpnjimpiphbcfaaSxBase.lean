/- Facts about the program that all proofs of this seat take. -/
import Derived.Test.YtpnjimpiphbcfaaSxArgs
import Derived.Test.YtpnjimpiphbcfaaChecked
set_option maxRecDepth 100000
namespace Go.Proofs.Ytpnjimpiphbcfaa
open Go.Sx

theorem sxOwn : ownKnob Try.prog.godebug = none := by kernel_rfl
theorem sxLaid : laidOutB Try.prog = true := by kernel_rfl
theorem sxMixed : Try.prog.follows .mixedOrders = true := by kernel_rfl
theorem sxNames : (Try.prog.funcs.toList.all fun fn => !(fn.name == "runtime.NumGoroutine")) = true := by kernel_rfl
theorem sxApart : NoApart Try.prog := fun f fn hf _ => by
  have := List.all_eq_true.1 sxNames fn (by rw [← Array.getElem?_toList] at hf; exact List.mem_of_getElem? hf)
  simpa using this

end Go.Proofs.Ytpnjimpiphbcfaa
