/- These calls go so. -/
import Derived.Test.YtphfekkllibphaaGreatDoorOvfM
import Derived.Test.YtphfekkllibphaaGreatDoorRws
namespace Go.Proofs.YtphfekkllibphaaGreatDoor.Ev
open Go
theorem row42_goes : row42.goes C1 = true := by kernel_rfl
theorem row43_goes : row43.goes C1 = true := by kernel_rfl
theorem row44_goes : row44.goes C1 = true := by kernel_rfl
theorem row45_goes : row45.goes C1 = true := by kernel_rfl
theorem row46_goes : row46.goes C1 = true := by kernel_rfl
theorem row47_goes : row47.goes C1 = true := by kernel_rfl
theorem row48_goes : row48.goes C1 = true := by kernel_rfl
end Go.Proofs.YtphfekkllibphaaGreatDoor.Ev
