/- Made ribs: the check says yes at every self. -/
import Derived.Test.YtjpkccofeafkbaaGreatPvxT3
set_option linter.unusedVariables false
set_option linter.unusedSimpArgs false
namespace Go.Proofs.YtjpkccofeafkbaaGreat.Pvx
set_option maxRecDepth 100000
theorem n3a (b c : Int) : call n3bTab 400 3 [.agg [.int .u32 0, .int .u32 b, .int .u32 c]] h0 yes = true := by kernel_rfl
theorem n3b (m : Nat) (c : Int) : call n3bTab 400 3 [.agg [.int .u32 (.ofNat (m + 1)), .int .u32 0, .int .u32 c]] h0 yes = true := by kernel_rfl
theorem n3c (m n : Nat) : call n3bTab 400 3 [.agg [.int .u32 (.ofNat (m + 1)), .int .u32 (.ofNat (n + 1)), .int .u32 0]] h0 yes = true := by kernel_rfl
theorem n3d (m n k : Nat) : call n3bTab 400 3 [.agg [.int .u32 (.ofNat (m + 1)), .int .u32 (.ofNat (n + 1)), .int .u32 (.ofNat (k + 1))]] h0 yes = true := by kernel_rfl
theorem nat_cases {P : Int → Prop} (h0 : P 0) (h1 : ∀ m : Nat, P (.ofNat (m + 1))) {a : Int} (ha : 0 ≤ a) : P a := by
  cases a with
  | ofNat n => cases n with
    | zero => exact h0
    | succ m => exact h1 m
  | negSucc m => exact absurd ha (by omega)
theorem n3All {a b c : Int} (ha : 0 ≤ a) (hb : 0 ≤ b) (hc : 0 ≤ c) : call n3bTab 400 3 [.agg [.int .u32 a, .int .u32 b, .int .u32 c]] h0 yes = true :=
  nat_cases (P := fun a => call n3bTab 400 3 [.agg [.int .u32 a, .int .u32 b, .int .u32 c]] h0 yes = true) (n3a b c)
    (fun m => nat_cases (P := fun b => call n3bTab 400 3 [.agg [.int .u32 (.ofNat (m + 1)), .int .u32 b, .int .u32 c]] h0 yes = true) (n3b m c)
      (fun n => nat_cases (P := fun c => call n3bTab 400 3 [.agg [.int .u32 (.ofNat (m + 1)), .int .u32 (.ofNat (n + 1)), .int .u32 c]] h0 yes = true) (n3c m n) (fun k => n3d m n k) hc) hb) ha
end Go.Proofs.YtjpkccofeafkbaaGreat.Pvx
