/- Notices: the check says yes at the numbers from 225 on, below 270. -/
import Derived.Test.YtjpkccofeafkbaaGreatPvxT16
set_option linter.unusedVariables false
set_option linter.unusedSimpArgs false
namespace Go.Proofs.YtjpkccofeafkbaaGreat.Pvx
set_option maxRecDepth 100000
theorem n16L15 : (List.range 15).all (fun i => call n16bTab 400 16 [.int .i64 (.ofNat (i + 225))] h0 yes) = true := by kernel_rfl
theorem n16L16 : (List.range 15).all (fun i => call n16bTab 400 16 [.int .i64 (.ofNat (i + 240))] h0 yes) = true := by kernel_rfl
theorem n16L17 : (List.range 15).all (fun i => call n16bTab 400 16 [.int .i64 (.ofNat (i + 255))] h0 yes) = true := by kernel_rfl
end Go.Proofs.YtjpkccofeafkbaaGreat.Pvx
