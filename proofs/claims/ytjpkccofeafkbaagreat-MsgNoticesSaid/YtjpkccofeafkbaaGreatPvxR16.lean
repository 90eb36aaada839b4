/- The closed facts of the row msgNotices. -/
import Derived.Test.YtjpkccofeafkbaaGreatPvxR1
import Derived.Test.YtjpkccofeafkbaaGreatPvxR2
set_option linter.unusedVariables false
set_option linter.unusedSimpArgs false
namespace Go.Proofs.YtjpkccofeafkbaaGreat.Pvx
open Go.Proofs.YtjpkccofeafkbaaGreat
theorem n16Place : Tryz.prog.inPlace 16 = [] := by kernel_rfl
theorem n16Unf : Tryz.prog.unfollowed 16 = true := by kernel_rfl
theorem n16Rec : Tryz.prog.recurses 16 = true := by unfold Program.recurses; rw [n16Unf]; rfl
theorem n16Vars : Tryz.prog.varsNamed 16 = [] := by kernel_rfl
theorem n16Name : Tryz.pinned.checked.prog.funcNamed Rows.msgNoticesRow.func = some 16 := by kernel_rfl
theorem n16Closed : joinedFacts Tryz.prog 16 Tryz.f16 Rows.msgNoticesSpec Rows.msgNoticesRow = true := by
  unfold joinedFacts
  rw [fLaid, fRowed, fHeard, fMay, fLifts, fMake, n16Place, n16Unf, n16Rec, n16Vars]
  kernel_rfl
end Go.Proofs.YtjpkccofeafkbaaGreat.Pvx
