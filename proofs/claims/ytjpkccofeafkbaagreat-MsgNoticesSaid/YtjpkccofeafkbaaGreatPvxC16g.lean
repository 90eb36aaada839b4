/- Notices: the check says yes at the numbers from 270 on, below 312. -/
import Derived.Test.YtjpkccofeafkbaaGreatPvxT16
set_option linter.unusedVariables false
set_option linter.unusedSimpArgs false
namespace Go.Proofs.YtjpkccofeafkbaaGreat.Pvx
set_option maxRecDepth 100000
theorem n16L18 : (List.range 21).all (fun i => call n16bTab 400 16 [.int .i64 (.ofNat (i + 270))] h0 yes) = true := by kernel_rfl
theorem n16L19 : (List.range 21).all (fun i => call n16bTab 400 16 [.int .i64 (.ofNat (i + 291))] h0 yes) = true := by kernel_rfl
end Go.Proofs.YtjpkccofeafkbaaGreat.Pvx
