/- Notices: the check says yes at the numbers from 180 on, below 225. -/
import Derived.Test.YtjpkccofeafkbaaGreatPvxT16
set_option linter.unusedVariables false
set_option linter.unusedSimpArgs false
namespace Go.Proofs.YtjpkccofeafkbaaGreat.Pvx
set_option maxRecDepth 100000
theorem n16L12 : (List.range 15).all (fun i => call n16bTab 400 16 [.int .i64 (.ofNat (i + 180))] h0 yes) = true := by kernel_rfl
theorem n16L13 : (List.range 15).all (fun i => call n16bTab 400 16 [.int .i64 (.ofNat (i + 195))] h0 yes) = true := by kernel_rfl
theorem n16L14 : (List.range 15).all (fun i => call n16bTab 400 16 [.int .i64 (.ofNat (i + 210))] h0 yes) = true := by kernel_rfl
end Go.Proofs.YtjpkccofeafkbaaGreat.Pvx
