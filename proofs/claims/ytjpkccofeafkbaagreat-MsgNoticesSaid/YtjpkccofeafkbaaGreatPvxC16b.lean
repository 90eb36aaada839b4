/- Notices: the check says yes at the numbers from 45 on, below 90. -/
import Derived.Test.YtjpkccofeafkbaaGreatPvxT16
set_option linter.unusedVariables false
set_option linter.unusedSimpArgs false
namespace Go.Proofs.YtjpkccofeafkbaaGreat.Pvx
set_option maxRecDepth 100000
theorem n16L3 : (List.range 15).all (fun i => call n16bTab 400 16 [.int .i64 (.ofNat (i + 45))] h0 yes) = true := by kernel_rfl
theorem n16L4 : (List.range 15).all (fun i => call n16bTab 400 16 [.int .i64 (.ofNat (i + 60))] h0 yes) = true := by kernel_rfl
theorem n16L5 : (List.range 15).all (fun i => call n16bTab 400 16 [.int .i64 (.ofNat (i + 75))] h0 yes) = true := by kernel_rfl
end Go.Proofs.YtjpkccofeafkbaaGreat.Pvx
