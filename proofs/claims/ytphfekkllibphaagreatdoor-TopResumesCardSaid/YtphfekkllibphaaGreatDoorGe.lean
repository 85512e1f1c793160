/- These calls go so. -/
import Derived.Test.YtphfekkllibphaaGreatDoorOvfM
import Derived.Test.YtphfekkllibphaaGreatDoorRws
namespace Go.Proofs.YtphfekkllibphaaGreatDoor.Ev
open Go
theorem row34_goes : row34.goes C1 = true := by kernel_rfl
theorem row35_goes : row35.goes C1 = true := by kernel_rfl
theorem row36_goes : row36.goes C1 = true := by kernel_rfl
theorem row37_goes : row37.goes C1 = true := by kernel_rfl
theorem row38_goes : row38.goes C1 = true := by kernel_rfl
theorem row39_goes : row39.goes C1 = true := by kernel_rfl
theorem row40_goes : row40.goes C1 = true := by kernel_rfl
theorem row41_goes : row41.goes C1 = true := by kernel_rfl
end Go.Proofs.YtphfekkllibphaaGreatDoor.Ev
