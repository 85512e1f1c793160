/- These calls go so. -/
import Derived.Test.YtphfekkllibphaaGreatDoorOvfM
import Derived.Test.YtphfekkllibphaaGreatDoorRws
namespace Go.Proofs.YtphfekkllibphaaGreatDoor.Ev
open Go
theorem row49_goes : row49.goes C1 = true := by kernel_rfl
theorem row50_goes : row50.goes C1 = true := by kernel_rfl
theorem row51_goes : row51.goes C1 = true := by kernel_rfl
theorem row52_goes : row52.goes C1 = true := by kernel_rfl
theorem row53_goes : row53.goes C1 = true := by kernel_rfl
end Go.Proofs.YtphfekkllibphaaGreatDoor.Ev
