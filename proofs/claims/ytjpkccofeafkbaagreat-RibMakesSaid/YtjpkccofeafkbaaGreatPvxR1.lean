/- Closed facts of the program at large, one theorem each. -/
import Derived.Test.YtjpkccofeafkbaaGreatRows
import Derived.JoinedOf
import Derived.KernelRfl
set_option linter.unusedVariables false
set_option linter.unusedSimpArgs false
namespace Go.Proofs.YtjpkccofeafkbaaGreat.Pvx
theorem heardOf {P : Program} (h : (P.funcs.all fun fn => !fn.norace || (Stop.rowOf fn).isNone) = true) : P.stopsHeard = true := by
  have e : P.stopsHeard = P.funcs.all fun fn => !fn.norace || (Stop.rowOf fn).isNone := by
    unfold Program.stopsHeard
    congr 1
    funext fn
    exact Bool.or_comm _ _
  rw [e]; exact h
theorem fHeard : Tryz.prog.stopsHeard = true := heardOf (by kernel_rfl)
theorem fLaid : laidOutB Tryz.prog = true := by kernel_rfl
theorem fRowed : mapsRowed Tryz.prog = true := by kernel_rfl
end Go.Proofs.YtjpkccofeafkbaaGreat.Pvx
