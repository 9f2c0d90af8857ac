/-
  The closed law answers true when it is called: it has no argument, and nothing is asked of the world. The abstract run is carried out by the kernel, where some calls' results are known.
-/
import Derived.Test.YtfknfmmmappbcaaGreatDoorMemo2
namespace Go.Proofs.YtfknfmmmappbcaaGreatDoor
open Go Go.Ev
set_option maxRecDepth 100000
theorem names_run : trueM Tryz.prog (some 5) [m8, m7, m6, m5, m4, m3, m2, m1] 300 3 = true := by kernel_rfl
theorem names_true : SaysTrue Tryz.prog 3 := trueM_says (noNG_spec noGoroutines) mixedOrders known all8 names_run
end Go.Proofs.YtfknfmmmappbcaaGreatDoor
