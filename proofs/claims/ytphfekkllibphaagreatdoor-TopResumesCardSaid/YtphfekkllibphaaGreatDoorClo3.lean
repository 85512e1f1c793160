/- The row's closed facts, together. -/
import Derived.Test.YtphfekkllibphaaGreatDoorClo2
import Derived.JoinedOf
namespace Go.Proofs.YtphfekkllibphaaGreatDoor.topResumes
open Go

theorem facts : joinedFacts Tryz.prog 3 Tryz.f3 Rows.topResumesSpec Rows.topResumesRow = true := by
  unfold joinedFacts
  rw [inPlace_eq, unfollowed_eq, recurses_eq, named_eq]
  kernel_rfl
end Go.Proofs.YtphfekkllibphaaGreatDoor.topResumes
