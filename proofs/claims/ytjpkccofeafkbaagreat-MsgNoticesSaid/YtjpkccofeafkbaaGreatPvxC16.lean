/- Notices: the check says yes at the numbers whatever they are. -/
import Derived.Test.YtjpkccofeafkbaaGreatPvxC16a
import Derived.Test.YtjpkccofeafkbaaGreatPvxC16b
import Derived.Test.YtjpkccofeafkbaaGreatPvxC16c
import Derived.Test.YtjpkccofeafkbaaGreatPvxC16d
import Derived.Test.YtjpkccofeafkbaaGreatPvxC16e
import Derived.Test.YtjpkccofeafkbaaGreatPvxC16f
import Derived.Test.YtjpkccofeafkbaaGreatPvxC16g
set_option linter.unusedVariables false
set_option linter.unusedSimpArgs false
namespace Go.Proofs.YtjpkccofeafkbaaGreat.Pvx
set_option maxRecDepth 100000
theorem n16Neg (m : Nat) : call n16bTab 400 16 [.int .i64 (.negSucc m)] h0 yes = true := by kernel_rfl
theorem n16Big (m : Nat) : call n16bTab 400 16 [.int .i64 (.ofNat (m + 312))] h0 yes = true := by kernel_rfl
theorem n16Part {lo n : Nat} (h : (List.range n).all (fun i => call n16bTab 400 16 [.int .i64 (.ofNat (i + lo))] h0 yes) = true) {m : Nat} (h1 : lo ≤ m) (h2 : m < lo + n) : call n16bTab 400 16 [.int .i64 (.ofNat m)] h0 yes = true := by
  have := List.all_eq_true.1 h (m - lo) (List.mem_range.2 (by omega))
  rwa [Nat.sub_add_cancel h1] at this
theorem n16All (a : Int) : call n16bTab 400 16 [.int .i64 a] h0 yes = true := by
  cases a with
  | negSucc m => exact n16Neg m
  | ofNat n =>
    by_cases h0 : n < 15
    · exact n16Part n16L0 (by omega) (by omega)
    by_cases h1 : n < 30
    · exact n16Part n16L1 (by omega) (by omega)
    by_cases h2 : n < 45
    · exact n16Part n16L2 (by omega) (by omega)
    by_cases h3 : n < 60
    · exact n16Part n16L3 (by omega) (by omega)
    by_cases h4 : n < 75
    · exact n16Part n16L4 (by omega) (by omega)
    by_cases h5 : n < 90
    · exact n16Part n16L5 (by omega) (by omega)
    by_cases h6 : n < 105
    · exact n16Part n16L6 (by omega) (by omega)
    by_cases h7 : n < 120
    · exact n16Part n16L7 (by omega) (by omega)
    by_cases h8 : n < 135
    · exact n16Part n16L8 (by omega) (by omega)
    by_cases h9 : n < 150
    · exact n16Part n16L9 (by omega) (by omega)
    by_cases h10 : n < 165
    · exact n16Part n16L10 (by omega) (by omega)
    by_cases h11 : n < 180
    · exact n16Part n16L11 (by omega) (by omega)
    by_cases h12 : n < 195
    · exact n16Part n16L12 (by omega) (by omega)
    by_cases h13 : n < 210
    · exact n16Part n16L13 (by omega) (by omega)
    by_cases h14 : n < 225
    · exact n16Part n16L14 (by omega) (by omega)
    by_cases h15 : n < 240
    · exact n16Part n16L15 (by omega) (by omega)
    by_cases h16 : n < 255
    · exact n16Part n16L16 (by omega) (by omega)
    by_cases h17 : n < 270
    · exact n16Part n16L17 (by omega) (by omega)
    by_cases h18 : n < 291
    · exact n16Part n16L18 (by omega) (by omega)
    by_cases h19 : n < 312
    · exact n16Part n16L19 (by omega) (by omega)
    obtain ⟨m, rfl⟩ := Nat.exists_eq_add_of_le' (Nat.le_of_not_lt h19)
    exact n16Big m
end Go.Proofs.YtjpkccofeafkbaaGreat.Pvx
