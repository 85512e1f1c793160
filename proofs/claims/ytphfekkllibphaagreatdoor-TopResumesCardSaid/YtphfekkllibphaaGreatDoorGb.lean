/- These calls go so. -/
import Derived.Test.YtphfekkllibphaaGreatDoorOvfM
import Derived.Test.YtphfekkllibphaaGreatDoorRws
namespace Go.Proofs.YtphfekkllibphaaGreatDoor.Ev
open Go
theorem row3_goes : row3.goes C1 = true := by kernel_rfl
theorem row4_goes : row4.goes C1 = true := by kernel_rfl
theorem row5_goes : row5.goes C1 = true := by kernel_rfl
end Go.Proofs.YtphfekkllibphaaGreatDoor.Ev
