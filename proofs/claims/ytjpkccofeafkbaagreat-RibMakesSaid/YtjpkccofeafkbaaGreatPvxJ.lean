/- Two values alike: structs, nil. Over any program. -/
import Derived.Test.YtjpkccofeafkbaaGreatPvxI
import Derived.Laws.StructEq
import Derived.Laws.Cover3
import Derived.Laws.Pointers
set_option linter.unusedSimpArgs false
namespace Go.Proofs.YtjpkccofeafkbaaGreat.Pvx
open Go.RowKit
set_option linter.unusedVariables false
/-- What == tells of two values, d levels down at the most. -/
def EqT (P : Program) (d : Nat) (t : TypeId) (x y : Value) (r : Bool) : Prop := ∀ w, (Op.equalIn d t x y).run P w = .ok r w
theorem EqT.int {P : Program} {d : Nat} {t : TypeId} {k k' : IntKind} {a b : Int} {r : Bool} (h : P.underlying t = some (.int k')) (hr : (a == b) = r) : EqT P (d + 1) t (.int k a) (.int k b) r := fun w => by
  subst hr; exact run_equalIn_int w d t k k' a b h
theorem EqT.bool {P : Program} {d : Nat} {t : TypeId} {a b : Bool} {r : Bool} (h : P.underlying t = some .bool) (hr : (a == b) = r) : EqT P (d + 1) t (.bool a) (.bool b) r := fun w => by
  subst hr; exact run_equalIn_bool h a b d
/-- A struct's fields, one by one. -/
inductive EqF (P : Program) (d : Nat) (xs ys : List Value) : List Field → Bool → Prop
  | nil : EqF P d xs ys [] true
  | cons {f : Field} {fs : List Field} {agg : Bool} {z : List Value} {by_ : Nat} {a b : Value} {r q : Bool} (hn : f.name ≠ "_") (ht : TI P f.type agg z by_) (ha : valOf agg ((xs.drop f.offset).take z.length) = a) (hb : valOf agg ((ys.drop f.offset).take z.length) = b)
      (hx : Nat.ble (f.offset + z.length) xs.length = true) (hy : Nat.ble (f.offset + z.length) ys.length = true) (he : EqT P d f.type a b r) (t : EqF P d xs ys fs q) : EqF P d xs ys (f :: fs) (r && q)
theorem part_TI {P : Program} {w : World} {t : TypeId} {agg : Bool} {z : List Value} {by_ off : Nat} {xs : List Value} (ht : TI P t agg z by_) (h : Nat.ble (off + z.length) xs.length = true) : (part t xs.toArray off).run P w = .ok (valOf agg ((xs.drop off).take z.length)) w := by
  have hle := Nat.le_of_ble_eq_true h
  unfold part
  rw [Sem.run_bind, ht.1]
  cases agg with
  | true =>
    simp only [Result.andThen_ok, if_true, Sem.run_bind, ht.size, Sem.run_pure, valOf]
    congr 2
    apply Array.ext'
    simp [List.extract]
  | false =>
    have h1 : z.length = 1 := ht.one rfl
    have hlt : off < xs.length := by omega
    simp only [Result.andThen_ok, Bool.false_eq_true, if_false]
    have h2 : xs.toArray[off]? = some xs[off] := by simp [hlt]
    rw [h2, h1]
    have h3 : (xs.drop off).take 1 = [xs[off]] := by rw [List.drop_eq_getElem_cons hlt]; rfl
    rw [h3]; rfl
theorem run_eqF {P : Program} {d : Nat} {xs ys : List Value} : ∀ {fs : List Field} {r : Bool}, EqF P d xs ys fs r → ∀ w, (Op.eqFields d xs.toArray ys.toArray fs).run P w = .ok r w
  | _, _, .nil, w => by simp [Op.eqFields]
  | _, _, .cons (r := r) hn ht ha hb hx hy he t, w => by
    unfold Op.eqFields
    rw [if_pos hn, Sem.run_bind, part_TI ht hx, ha, Result.andThen_ok, Sem.run_bind, part_TI ht hy, hb, Result.andThen_ok, Sem.run_bind, he w, Result.andThen_ok]
    cases r with
    | false => simp
    | true => simpa using run_eqF t w
theorem EqT.agg {P : Program} {d : Nat} {t : TypeId} {xs ys : List Value} {fs : Array Field} {r : Bool} (hu : P.underlying t = some (.struct fs)) (hs : P.stoodInHeld t = false) (h : EqF P d xs ys fs.toList r) : EqT P (d + 1) t (.agg xs.toArray) (.agg ys.toArray) r := fun w => by
  have hf : P.fieldsOf t = fs := by simp [Program.fieldsOf, hu]
  rw [run_equalIn_struct w d t _ _ (by rw [hf]; exact hu) hs, hf]
  exact run_eqF h w
section
variable {P : Program} {e : Env} {w : World} {ty xt yt : TypeId} {x y : Operand}
theorem r_eq_agg {xs ys : List Value} {r : Bool} (hg : P.eqGuardType P.depth xt = false) (he : EqT P 10000 xt (.agg xs.toArray) (.agg ys.toArray) r) (hx : evalE e x = .agg xs.toArray) (hy : evalE e y = .agg ys.toArray) : Ran P (.binOp .eql xt x y yt) ty e w (.bool r) := fun _ _ _ _ => by
  simp only [execOp, hx, hy, Sem.run_bind, run_eqGuard_agg w _ _ _ _ _ _ hg, Result.andThen_ok, run_eql_struct, he w, Sem.run_pure]
theorem r_ne_agg {xs ys : List Value} {r : Bool} (hg : P.eqGuardType P.depth xt = false) (he : EqT P 10000 xt (.agg xs.toArray) (.agg ys.toArray) r) (hx : evalE e x = .agg xs.toArray) (hy : evalE e y = .agg ys.toArray) : Ran P (.binOp .neq xt x y yt) ty e w (.bool !r) := fun _ _ _ _ => by
  simp only [execOp, hx, hy, Sem.run_bind, run_eqGuard_agg w _ _ _ _ _ _ hg, Result.andThen_ok, run_neq_struct, he w, Sem.run_pure]
end
end Go.Proofs.YtjpkccofeafkbaaGreat.Pvx
