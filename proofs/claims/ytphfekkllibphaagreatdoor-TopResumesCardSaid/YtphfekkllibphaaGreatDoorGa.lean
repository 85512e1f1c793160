/- These calls go so. -/
import Derived.Test.YtphfekkllibphaaGreatDoorOvfM
import Derived.Test.YtphfekkllibphaaGreatDoorRws
namespace Go.Proofs.YtphfekkllibphaaGreatDoor.Ev
open Go
theorem row0_goes : row0.goes C1 = true := by kernel_rfl
theorem row1_goes : row1.goes C1 = true := by kernel_rfl
theorem row2_goes : row2.goes C1 = true := by kernel_rfl
end Go.Proofs.YtphfekkllibphaaGreatDoor.Ev
