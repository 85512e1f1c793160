/- These calls go so. -/
import Derived.Test.YtphfekkllibphaaGreatDoorOvfM
import Derived.Test.YtphfekkllibphaaGreatDoorRws
namespace Go.Proofs.YtphfekkllibphaaGreatDoor.Ev
open Go
theorem row6_goes : row6.goes C1 = true := by kernel_rfl
theorem row7_goes : row7.goes C1 = true := by kernel_rfl
theorem row8_goes : row8.goes C1 = true := by kernel_rfl
theorem row9_goes : row9.goes C1 = true := by kernel_rfl
theorem row10_goes : row10.goes C1 = true := by kernel_rfl
theorem row11_goes : row11.goes C1 = true := by kernel_rfl
theorem row12_goes : row12.goes C1 = true := by kernel_rfl
theorem row13_goes : row13.goes C1 = true := by kernel_rfl
theorem row14_goes : row14.goes C1 = true := by kernel_rfl
theorem row15_goes : row15.goes C1 = true := by kernel_rfl
end Go.Proofs.YtphfekkllibphaaGreatDoor.Ev
