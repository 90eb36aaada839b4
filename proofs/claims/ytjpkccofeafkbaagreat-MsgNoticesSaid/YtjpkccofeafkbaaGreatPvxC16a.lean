/- Notices: the check says yes at the numbers from 0 on, below 45. -/
import Derived.Test.YtjpkccofeafkbaaGreatPvxT16
set_option linter.unusedVariables false
set_option linter.unusedSimpArgs false
namespace Go.Proofs.YtjpkccofeafkbaaGreat.Pvx
set_option maxRecDepth 100000
theorem n16L0 : (List.range 15).all (fun i => call n16bTab 400 16 [.int .i64 (.ofNat (i + 0))] h0 yes) = true := by kernel_rfl
theorem n16L1 : (List.range 15).all (fun i => call n16bTab 400 16 [.int .i64 (.ofNat (i + 15))] h0 yes) = true := by kernel_rfl
theorem n16L2 : (List.range 15).all (fun i => call n16bTab 400 16 [.int .i64 (.ofNat (i + 30))] h0 yes) = true := by kernel_rfl
end Go.Proofs.YtjpkccofeafkbaaGreat.Pvx
