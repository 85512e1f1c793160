/- These calls go so. -/
import Derived.Test.YtphfekkllibphaaGreatDoorOvfM
import Derived.Test.YtphfekkllibphaaGreatDoorRws
namespace Go.Proofs.YtphfekkllibphaaGreatDoor.Ev
open Go
theorem row16_goes : row16.goes C1 = true := by kernel_rfl
theorem row17_goes : row17.goes C1 = true := by kernel_rfl
theorem row19_goes : row19.goes C1 = true := by kernel_rfl
theorem row20_goes : row20.goes C1 = true := by kernel_rfl
theorem row21_goes : row21.goes C1 = true := by kernel_rfl
theorem row22_goes : row22.goes C1 = true := by kernel_rfl
theorem row23_goes : row23.goes C1 = true := by kernel_rfl
theorem row24_goes : row24.goes C1 = true := by kernel_rfl
theorem row25_goes : row25.goes C1 = true := by kernel_rfl
theorem row26_goes : row26.goes C1 = true := by kernel_rfl
theorem row27_goes : row27.goes C1 = true := by kernel_rfl
end Go.Proofs.YtphfekkllibphaaGreatDoor.Ev
