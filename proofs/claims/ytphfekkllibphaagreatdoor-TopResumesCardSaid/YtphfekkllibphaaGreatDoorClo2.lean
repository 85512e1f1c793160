/- The row's closed facts. -/
import Derived.Test.YtphfekkllibphaaGreatDoorClo1
namespace Go.Proofs.YtphfekkllibphaaGreatDoor.topResumes
open Go

theorem inPlace_eq : Tryz.prog.inPlace 3 = ["internal/bytealg.CountString", "internal/bytealg.IndexByteString", "internal/bytealg.IndexString", "slices.overlaps[sublet/api.Grant]"] := by
  unfold Program.inPlace
  rw [closure_eq]
  kernel_rfl
theorem unfollowed_eq : Tryz.prog.unfollowed 3 = true := by
  unfold Program.unfollowed
  rw [closure_eq]
  kernel_rfl
theorem recurses_eq : Tryz.prog.recurses 3 = true := by
  unfold Program.recurses
  rw [unfollowed_eq, Bool.true_or]
theorem named_eq : Tryz.prog.varsNamed 3 = ["unicode/utf8.first", "unicode/utf8.acceptRanges", "internal/bytealg.MaxLen"] := by
  unfold Program.varsNamed
  rw [closure_eq]
  kernel_rfl
end Go.Proofs.YtphfekkllibphaaGreatDoor.topResumes
