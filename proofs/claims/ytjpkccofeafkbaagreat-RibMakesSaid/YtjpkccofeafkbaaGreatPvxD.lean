/- Plain words for the printed functions: no program in sight. -/
set_option linter.unusedVariables false
set_option linter.unusedSimpArgs false
namespace Go.Proofs.YtjpkccofeafkbaaGreat.Pvx
/-- The element at an index. -/
def getI {α : Type} (xs : List α) (i : Int) : Option α := if 0 ≤ i then xs[i.toNat]? else none
/-- A sum that fits. -/
def chk (x : Int) : Option Int := if -9223372036854775808 ≤ x ∧ x ≤ 9223372036854775807 then some x else none
theorem chk_of {x : Int} (h1 : -9223372036854775808 ≤ x) (h2 : x ≤ 9223372036854775807) : chk x = some x := if_pos ⟨h1, h2⟩
/-- Something that is asked. -/
def ask (p : Bool) : Option Unit := if p then some () else none
theorem ask_some {p : Bool} {u : Unit} (h : ask p = some u) : p = true := by
  unfold ask at h; split at h
  · assumption
  · cases h
theorem ask_of {p : Bool} (h : p = true) : ask p = some () := by simp [ask, h]
theorem bind_some {α β : Type} {o : Option α} {f : α → Option β} {r : β} (h : o.bind f = some r) : ∃ x, o = some x ∧ f x = some r := Option.bind_eq_some_iff.1 h
theorem getI_nat {α : Type} (xs : List α) (i : Nat) : getI xs (i : Int) = xs[i]? := by simp [getI]
end Go.Proofs.YtjpkccofeafkbaaGreat.Pvx
