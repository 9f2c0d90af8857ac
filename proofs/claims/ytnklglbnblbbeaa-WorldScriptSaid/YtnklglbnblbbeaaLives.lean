/-
  The function lives of chapter 14 answers true when it is called: it has no argument, and nothing is asked of the world. The abstract run is carried out by the kernel.
-/
import Derived.Test.YtnklglbnblbbeaaEvTop
import Derived.Test.YtnklglbnblbbeaaRows
namespace Go.Proofs.Ytnklglbnblbbeaa
open Go.Ev
set_option maxRecDepth 100000
theorem noGoroutines : noNG Try.prog = true := by kernel_rfl
theorem mixedOrders : Try.prog.follows .mixedOrders = true := by kernel_rfl
theorem lives_true : saysTrue Try.prog 300 7 = true := by kernel_rfl
end Go.Proofs.Ytnklglbnblbbeaa
