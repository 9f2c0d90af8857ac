/- A part of the proof. -/
import Derived.Test.YtjpheibfljmbjaaGreatDoorS07
import Derived.Test.YtjpheibfljmbjaaGreatDoorRows
set_option maxRecDepth 100000
noncomputable section
open Go.Ev
namespace Go.Proofs.YtjpheibfljmbjaaGreatDoor
theorem FB:Lj Tryz.prog=true:=by kernel_rfl
theorem mixedOrders:Tryz.prog.follows .mixedOrders=true:=by kernel_rfl
theorem Xf:Hq Tryz.prog 300 4=true:=by kernel_rfl
