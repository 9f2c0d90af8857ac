/-
  CodeNames answers true when it is called, given that lives does: it has no argument, and nothing is asked of the world. The abstract run is carried out by the kernel.
-/
import Derived.Test.YtgjbgebejiapmaaGreatDoorLives
namespace Go.Proofs.YtgjbgebejiapmaaGreatDoor
open Go.Ev
set_option maxRecDepth 100000
theorem names_true : saysTrue2 Tryz.prog 300 6 3 = true := by kernel_rfl
end Go.Proofs.YtgjbgebejiapmaaGreatDoor
