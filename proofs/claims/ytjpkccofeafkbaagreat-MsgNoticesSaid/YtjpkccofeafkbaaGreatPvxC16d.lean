/- Notices: the check says yes at the numbers from 135 on, below 180. -/
import Derived.Test.YtjpkccofeafkbaaGreatPvxT16
set_option linter.unusedVariables false
set_option linter.unusedSimpArgs false
namespace Go.Proofs.YtjpkccofeafkbaaGreat.Pvx
set_option maxRecDepth 100000
theorem n16L9 : (List.range 15).all (fun i => call n16bTab 400 16 [.int .i64 (.ofNat (i + 135))] h0 yes) = true := by kernel_rfl
theorem n16L10 : (List.range 15).all (fun i => call n16bTab 400 16 [.int .i64 (.ofNat (i + 150))] h0 yes) = true := by kernel_rfl
theorem n16L11 : (List.range 15).all (fun i => call n16bTab 400 16 [.int .i64 (.ofNat (i + 165))] h0 yes) = true := by kernel_rfl
end Go.Proofs.YtjpkccofeafkbaaGreat.Pvx
