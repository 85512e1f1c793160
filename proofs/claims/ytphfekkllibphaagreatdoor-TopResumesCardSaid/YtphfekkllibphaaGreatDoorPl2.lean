/- TopResumes, played: cut leaves 2. -/
import Derived.Test.YtphfekkllibphaaGreatDoorFin3M
namespace Go.Proofs.YtphfekkllibphaaGreatDoor.Ev
open Go
theorem play200 : top 2 0 0 = true := by kernel_rfl
theorem play201 : top 2 0 1 = true := by kernel_rfl
theorem play210 : top 2 1 0 = true := by kernel_rfl
theorem play211 : top 2 1 1 = true := by kernel_rfl
end Go.Proofs.YtphfekkllibphaaGreatDoor.Ev
