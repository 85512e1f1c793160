/- TopResumes, played: cut leaves 1. -/
import Derived.Test.YtphfekkllibphaaGreatDoorFin3M
namespace Go.Proofs.YtphfekkllibphaaGreatDoor.Ev
open Go
theorem play100 : top 1 0 0 = true := by kernel_rfl
theorem play101 : top 1 0 1 = true := by kernel_rfl
theorem play110 : top 1 1 0 = true := by kernel_rfl
theorem play111 : top 1 1 1 = true := by kernel_rfl
end Go.Proofs.YtphfekkllibphaaGreatDoor.Ev
