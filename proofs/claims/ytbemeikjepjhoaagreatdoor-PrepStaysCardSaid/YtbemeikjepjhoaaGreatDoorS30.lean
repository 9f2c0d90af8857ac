/-
  The function lives of chapter 18 answers true when it is called: it has no argument, and nothing is asked of the world. The abstract run is carried out by the k
-/
import Derived.Test.YtbemeikjepjhoaaGreatDoorS24
import Derived.Test.YtbemeikjepjhoaaGreatDoorRows
import Derived.Test.YtbemeikjepjhoaaGreatDoorChecked
import Derived.KernelRfl
namespace Go.Proofs.YtbemeikjepjhoaaGreatDoor
open Go.Ev
set_option maxRecDepth 100000
theorem noGoroutines:noNG Tryz.prog=true:=by kernel_rfl
theorem mixedOrders:Tryz.prog.follows .mixedOrders=true:=by kernel_rfl
theorem lives_true:saysTrue Tryz.prog 300 4=true:=by kernel_rfl
end Go.Proofs.YtbemeikjepjhoaaGreatDoor
