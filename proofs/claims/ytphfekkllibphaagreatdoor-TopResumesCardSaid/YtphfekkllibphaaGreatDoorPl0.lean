/- TopResumes, played: cut leaves 0. -/
import Derived.Test.YtphfekkllibphaaGreatDoorFin3M
namespace Go.Proofs.YtphfekkllibphaaGreatDoor.Ev
open Go
theorem play000 : top 0 0 0 = true := by kernel_rfl
theorem play001 : top 0 0 1 = true := by kernel_rfl
theorem play010 : top 0 1 0 = true := by kernel_rfl
theorem play011 : top 0 1 1 = true := by kernel_rfl
end Go.Proofs.YtphfekkllibphaaGreatDoor.Ev
