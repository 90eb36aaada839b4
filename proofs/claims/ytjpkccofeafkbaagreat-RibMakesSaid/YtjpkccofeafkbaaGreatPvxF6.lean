/- Functions of the library without a body. Over any program. -/
import Derived.Test.YtjpkccofeafkbaaGreatPvxF5
import Derived.Laws.Externs
set_option linter.unusedVariables false
set_option linter.unusedSimpArgs false
namespace Go.Proofs.YtjpkccofeafkbaaGreat.Pvx
open Go.RowKit
theorem assoc_cons {k j c : Nat} {l : List (Nat × Nat)} {v : Nat} (h : assoc ((k, c) :: l) j = some v) : (k = j ∧ c = v) ∨ assoc l j = some v := by
  unfold assoc at h
  cases hb : Nat.beq k j with
  | true => rw [hb] at h; injection h with h; exact .inl ⟨Nat.eq_of_beq_eq_true hb, h⟩
  | false => rw [hb] at h; exact .inr h
theorem extClone {P : Program} {k : Nat} {fn : Func} {l : List (Nat × Nat)} (hf : P.funcs[k]? = some fn) (hname : (fn.name == "runtime.NumGoroutine") = false)
    (hb : fn.body.isNone = true) (hn : Extern.findNext fn = none) (he : Extern.find fn = some Extern.MapsClone.clone) (t : ExtOK P l) : ExtOK P ((k, 0) :: l) :=
  ⟨fun j hj => by
    rcases assoc_cons hj with ⟨_, h⟩ | h
    · cases h
    · exact t.1 j h,
   fun j hj args w => by
    rcases assoc_cons hj with ⟨rfl, _⟩ | h
    · rw [run_callFunc_extern hf hname hb hn he]
      rw [Sem.run_bind]
      rfl
    · exact t.2 j h args w⟩
theorem extOne {P : Program} {k : Nat} {l : List (Nat × Nat)} (t : ExtOK P l) : ExtOK P ((k, 1) :: l) :=
  ⟨fun j hj => by
    rcases assoc_cons hj with ⟨_, h⟩ | h
    · cases h
    · exact t.1 j h,
   fun j hj => by
    rcases assoc_cons hj with ⟨_, h⟩ | h
    · cases h
    · exact t.2 j h⟩
end Go.Proofs.YtjpkccofeafkbaaGreat.Pvx
