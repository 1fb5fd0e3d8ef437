/-
  Plain law: the law FnExactNewConsole, which takes no arguments, returns true.
-/
import Derived.Test.Ytemeabdacejkpaax7Q
import Derived.KernelRfl
namespace Go.Proofs.Ytemeabdacejkpaa
open Go.Abs
theorem plain_FnExactNewConsole : laws_FnExactNewConsole () () = some (true, ()) := by kernel_rfl
theorem L_FnExactNewConsole (x : Ty.dens H_laws_FnExactNewConsole.ps) (h : Ty.fits H_laws_FnExactNewConsole.ps x) : laws_FnExactNewConsole x () = some (true, ()) := plain_FnExactNewConsole
end Go.Proofs.Ytemeabdacejkpaa
