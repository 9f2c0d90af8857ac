/-
  The function lives of chapter 20 answers true when it is called: it has no argument, and nothing is asked of the world. The abstract run is carried out by the kernel.
-/
import Derived.Test.YtgjbgebejiapmaaGreatDoorEvTop
import Derived.Test.YtgjbgebejiapmaaGreatDoorRows
namespace Go.Proofs.YtgjbgebejiapmaaGreatDoor
open Go.Ev
set_option maxRecDepth 100000
theorem noGoroutines : noNG Tryz.prog = true := by kernel_rfl
theorem mixedOrders : Tryz.prog.follows .mixedOrders = true := by kernel_rfl
theorem lives_true : saysTrue Tryz.prog 300 6 = true := by kernel_rfl
end Go.Proofs.YtgjbgebejiapmaaGreatDoor
