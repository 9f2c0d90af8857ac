/- A part of the proof. -/
import Derived.Test.YtnmofhngblebiaaGreatDoorS05
import Derived.Test.YtnmofhngblebiaaGreatDoorRows
set_option maxRecDepth 100000
noncomputable section
open Go.Ev
namespace Go.Proofs.YtnmofhngblebiaaGreatDoor
theorem IK:PN Tryz.prog=true:=by kernel_rfl
theorem mixedOrders:Tryz.prog.follows .mixedOrders=true:=by kernel_rfl
theorem Zh:JL Tryz.prog 300 5=true:=by kernel_rfl
