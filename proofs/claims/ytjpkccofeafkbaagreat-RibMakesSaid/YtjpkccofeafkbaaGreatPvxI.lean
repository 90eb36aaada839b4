/- Maps with known keys. Over any program. -/
import Derived.Test.YtjpkccofeafkbaaGreatPvxH
set_option linter.unusedSimpArgs false
namespace Go.Proofs.YtjpkccofeafkbaaGreat.Pvx
open Go.RowKit
set_option linter.unusedVariables false
section
variable {P : Program} {ops rest : List Oper} {e : Env} {w : World} {K : Env → World → Prop} {d : Nat} {ty : TypeId} {pos : String} {af : Array Edge} {gd : Option (Nat × Bool)} {E : Ent} {σ : PHeap} {rs : List PHeap}
theorem run_checkKey {P : Program} {w : World} {kt : TypeId} {ik : IntKind} (hk : P.underlying kt = some (.int ik)) (b : Bool) (z : Int) : (Instr.checkKey b 10000 kt (.int ik z)).run P w = .ok () w := by
  have key : ∀ n, (Instr.checkKey b (n + 1) kt (.int ik z)).run P w = .ok () w := fun n => by
    unfold Instr.checkKey
    rw [Sem.run_bind, run_underlying hk]
    rfl
  exact key 9999
theorem run_findKey {P : Program} {w : World} {kt : TypeId} {ik : IntKind} {ents : List MapEntry} {z : Int} {r : Option (Nat × Value)} (hk : P.underlying kt = some (.int ik)) (hf : Instr.findNow (.int ik) (.int ik z) ents 0 = some r) : (Instr.findKey kt (.int ik z) ents).run P w = .ok r w := by
  simp [Instr.findKey, run_underlying hk, hf]
theorem s_insert {t kt et : TypeId} {i b n : Nat} {ik : IntKind} {x y z : Operand} {v : Value} {kz : Int} {ents : List MapEntry} (hw : Region.wanted ⟨none, .insert t x y z, ty, pos, af, gd⟩ (yieldedE ops e) = true) (H : Inv E σ rs w) (hu : P.underlying t = some (.map kt et)) (hk : P.underlying kt = some (.int ik))
    (hi : rs[i]? = some (single b (.map ents.toArray n))) (hx : evalE e x = .map (some b)) (hy : evalE e y = .int ik kz) (hz : evalE e z = v) (hf : Instr.findNow (.int ik) (.int ik kz) ents 0 = some none)
    (h : ∀ w', Inv E σ (rs.set i (single b (.map (ents ++ [MapEntry.mk (.int ik kz) v n]).toArray (n + 1)))) w' → seqE P ops rest e w' K) : seqE P ops (⟨none, .insert t x y z, ty, pos, af, gd⟩ :: rest) e w K := by
  refine s_s hw _ ?_ (h _ (H.putAt _ i hi))
  have hb := (H.at_ i hi) b _ (single_same _ _)
  simp [execOp, Instr.mapUpdate, hx, hy, hz, run_underlying hu, getObj, setObj, Sem.run, hb, run_checkKey hk, run_findKey hk hf, World.putObj]
theorem r_lookup2 {t kt et : TypeId} {agg : Bool} {z : List Value} {by_ b n : Nat} {ik : IntKind} {x y : Operand} {kz : Int} {ents : List MapEntry} {u : Value} (r : Option (Nat × Value)) (hu : P.underlying t = some (.map kt et)) (hk : P.underlying kt = some (.int ik)) (ht : TI P et agg z by_)
    (hx : evalE e x = .map (some b)) (hy : evalE e y = .int ik kz) (hon : POn (single b (.map ents.toArray n)) w) (hf : Instr.findNow (.int ik) (.int ik kz) ents 0 = some r) (hv : (match r with | some (_, v) => Value.tuple #[v, .bool true] | none => .tuple #[valOf agg z, .bool false]) = u) : Ran P (.lookup t x y true) ty e w u := fun _ _ _ _ => by
  subst hv
  have hb := hon b _ (single_same _ _)
  cases r with
  | none => simp [execOp, Instr.lookup, hx, hy, run_underlying hu, getObj, Sem.run, hb, run_checkKey hk, run_findKey hk hf, ht.zero]
  | some p => obtain ⟨i, v⟩ := p; simp [execOp, Instr.lookup, hx, hy, run_underlying hu, getObj, Sem.run, hb, run_checkKey hk, run_findKey hk hf]
theorem r_lookup1 {t kt et : TypeId} {agg : Bool} {z : List Value} {by_ b n : Nat} {ik : IntKind} {x y : Operand} {kz : Int} {ents : List MapEntry} {u : Value} (r : Option (Nat × Value)) (hu : P.underlying t = some (.map kt et)) (hk : P.underlying kt = some (.int ik)) (ht : TI P et agg z by_)
    (hx : evalE e x = .map (some b)) (hy : evalE e y = .int ik kz) (hon : POn (single b (.map ents.toArray n)) w) (hf : Instr.findNow (.int ik) (.int ik kz) ents 0 = some r) (hv : (match r with | some (_, v) => v | none => valOf agg z) = u) : Ran P (.lookup t x y false) ty e w u := fun _ _ _ _ => by
  subst hv
  have hb := hon b _ (single_same _ _)
  cases r with
  | none => simp [execOp, Instr.lookup, hx, hy, run_underlying hu, getObj, Sem.run, hb, run_checkKey hk, run_findKey hk hf, ht.zero]
  | some p => obtain ⟨i, v⟩ := p; simp [execOp, Instr.lookup, hx, hy, run_underlying hu, getObj, Sem.run, hb, run_checkKey hk, run_findKey hk hf]
end
end Go.Proofs.YtjpkccofeafkbaaGreat.Pvx
