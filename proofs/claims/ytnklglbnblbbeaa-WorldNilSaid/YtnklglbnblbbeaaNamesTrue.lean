/-
  WorldNames answers true when it is called, given that lives does: it has no argument, and nothing is asked of the world. The abstract run is carried out by the kernel.
-/
import Derived.Test.YtnklglbnblbbeaaLives
namespace Go.Proofs.Ytnklglbnblbbeaa
open Go.Ev
set_option maxRecDepth 100000
theorem names_true : saysTrue2 Try.prog 300 7 4 = true := by kernel_rfl
theorem nil_true : saysTrueN Try.prog 300 7 6 2 = true := by kernel_rfl
end Go.Proofs.Ytnklglbnblbbeaa
