/- The closed facts of the row ribMakes. -/
import Derived.Test.YtjpkccofeafkbaaGreatPvxR1
import Derived.Test.YtjpkccofeafkbaaGreatPvxR2
set_option linter.unusedVariables false
set_option linter.unusedSimpArgs false
namespace Go.Proofs.YtjpkccofeafkbaaGreat.Pvx
open Go.Proofs.YtjpkccofeafkbaaGreat
theorem n3Place : Tryz.prog.inPlace 3 = Rows.ribMakesRow.inPlace := by kernel_rfl
theorem n3Unf : Tryz.prog.unfollowed 3 = true := by kernel_rfl
theorem n3Rec : Tryz.prog.recurses 3 = true := by unfold Program.recurses; rw [n3Unf]; rfl
theorem n3Vars : Tryz.prog.varsNamed 3 = Rows.ribMakesRow.named := by kernel_rfl
theorem n3Name : Tryz.pinned.checked.prog.funcNamed Rows.ribMakesRow.func = some 3 := by kernel_rfl
theorem n3Closed : joinedFacts Tryz.prog 3 Tryz.f3 Rows.ribMakesSpec Rows.ribMakesRow = true := by
  unfold joinedFacts
  rw [fLaid, fRowed, fHeard, fMay, fLifts, fMake, n3Place, n3Unf, n3Rec, n3Vars]
  kernel_rfl
end Go.Proofs.YtjpkccofeafkbaaGreat.Pvx
