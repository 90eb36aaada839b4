/- Notices: the check says yes at the numbers from 90 on, below 135. -/
import Derived.Test.YtjpkccofeafkbaaGreatPvxT16
set_option linter.unusedVariables false
set_option linter.unusedSimpArgs false
namespace Go.Proofs.YtjpkccofeafkbaaGreat.Pvx
set_option maxRecDepth 100000
theorem n16L6 : (List.range 15).all (fun i => call n16bTab 400 16 [.int .i64 (.ofNat (i + 90))] h0 yes) = true := by kernel_rfl
theorem n16L7 : (List.range 15).all (fun i => call n16bTab 400 16 [.int .i64 (.ofNat (i + 105))] h0 yes) = true := by kernel_rfl
theorem n16L8 : (List.range 15).all (fun i => call n16bTab 400 16 [.int .i64 (.ofNat (i + 120))] h0 yes) = true := by kernel_rfl
end Go.Proofs.YtjpkccofeafkbaaGreat.Pvx
