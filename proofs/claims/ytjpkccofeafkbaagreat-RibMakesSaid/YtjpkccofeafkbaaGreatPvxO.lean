/- The operations: what each comes to, in the words of PvxA and PvxM. Over any program. -/
import Derived.Test.YtjpkccofeafkbaaGreatPvxM
import Derived.Shelf.Abstract
set_option linter.unusedSimpArgs false
namespace Go.Proofs.YtjpkccofeafkbaaGreat.Pvx
open Go.RowKit
set_option linter.unusedVariables false

/-! ### Types -/
def valOf (agg : Bool) (cs : List Value) : Value := match agg with | true => .agg cs.toArray | false => cs.headD undef
/-- What is known of a type: is it a struct or an array; its zero cells; its bytes. -/
structure TI (P : Program) (t : TypeId) (agg : Bool) (z : List Value) (bytes : Nat) : Prop where
  run_agg : ∀ w, (isAgg t).run P w = .ok agg w
  one : agg = false → z.length = 1
  cells : ∀ v ∈ z, v.oneCell' = true
  info : ∃ i, P.info? t = some i ∧ i.size = z.length ∧ i.zero = some (valOf agg z) ∧ i.bytes = bytes
section ti
variable {P : Program} {t : TypeId} {agg : Bool} {z : List Value} {by_ : Nat} {w : World}
theorem TI.mk' {i : TypeInfo} (ha : ∀ w, (isAgg t).run P w = .ok agg w) (hi : P.info? t = some i) (h : (i.size, i.zero, i.bytes) = (z.length, some (valOf agg z), by_)) (h1 : agg = false → z.length = 1) (hc : ∀ v ∈ z, v.oneCell' = true) : TI P t agg z by_ := by
  simp only [Prod.mk.injEq] at h
  exact ⟨ha, h1, hc, i, hi, h.1, h.2.1, h.2.2⟩
theorem TI.size (h : TI P t agg z by_) : (sizeOf t).run P w = .ok z.length w := by
  obtain ⟨i, hi, hs, _⟩ := h.info
  simp [sizeOf, typeInfo, hi, hs]
theorem TI.zero (h : TI P t agg z by_) : (zeroValue t).run P w = .ok (valOf agg z) w := by
  obtain ⟨i, hi, _, hz, _⟩ := h.info
  simp [zeroValue, typeInfo, hi, hz]
end ti

theorem cells_one {v : Value} (h : v.oneCell' = true) : v.cells = #[v] := by cases v <;> first | rfl | cases h
theorem cells_valOf {agg : Bool} {z : List Value} (h1 : agg = false → z.length = 1) (hc : ∀ v ∈ z, v.oneCell' = true) : (valOf agg z).cells = z.toArray := by
  cases agg with
  | true => rfl
  | false =>
    match z, h1 rfl with
    | [v], _ => exact cells_one (hc v (by simp))

/-! ### Loads -/
section loads
variable {P : Program} {t : TypeId} {agg : Bool} {z : List Value} {by_ : Nat} {w : World}
theorem run_loadCellsFrom {τ : PHeap} (hon : POn τ w) : ∀ (cs : List Value) (a : Addr) (i : Nat) (acc : Array Value), a.spot = none → (∀ j v, cs[j]? = some v → w.cell? ⟨a.block, a.off + i + j, none⟩ = some v) →
    (loadCellsFrom a i cs.length acc).run P w = .ok (acc ++ cs.toArray) w
  | [], a, i, acc, _, _ => by simp [loadCellsFrom]
  | v :: cs, a, i, acc, h0, h => by
    have hv := h 0 v rfl
    simp only [List.length_cons, loadCellsFrom, Sem.run_bind, addr_add a h0, run_load]
    rw [show a.off + i = a.off + i + 0 from rfl, hv]
    simp only [Result.andThen_ok]
    rw [run_loadCellsFrom hon cs a (i + 1) (acc.push v) h0 (fun j u hj => by
      have := h (j + 1) u (by simpa using hj)
      rw [show a.off + (i + 1) + j = a.off + i + (j + 1) from by omega]; exact this)]
    simp
theorem run_loadVar {τ : PHeap} {a : Addr} {cs : List Value} (ht : TI P t agg z by_) (hr : RowAt τ a cs) (hon : POn τ w) (hl : cs.length = z.length) : (loadVar t a).run P w = .ok (valOf agg cs) w := by
  unfold loadVar
  simp only [Sem.run_bind, ht.run_agg, Result.andThen_ok]
  cases hagg : agg with
  | true =>
    simp only [if_true, Sem.run_bind, ht.size, Result.andThen_ok, loadCells]
    rw [← hl, run_loadCellsFrom hon cs a 0 #[] hr.1 (fun j v hj => by simpa using hr.cell hon j v hj)]
    simp [valOf]
  | false =>
    have h1 : cs.length = 1 := hl.trans (ht.one hagg)
    match cs, h1 with
    | [v], _ =>
      have := hr.cell hon 0 v rfl
      have ha : (⟨a.block, a.off + 0, none⟩ : Addr) = a := by
        have := hr.1; cases a; simp_all
      rw [ha] at this
      simp [this, valOf]
end loads

/-! ### Stores -/
section stores
variable {P : Program} {t : TypeId} {agg : Bool} {z : List Value} {by_ : Nat}
theorem setCell_eq_put {w : World} {b : Nat} {c : Array Value} {ty : TypeId} (hb : w.heap[b]? = some (.cells c ty (0, 0))) (j : Nat) (v : Value) : w.setCell ⟨b, j, none⟩ v = w.putObj b (.cells (c.setIfInBounds j v) ty (0, 0)) := by
  obtain ⟨hlt, he⟩ := Array.getElem?_eq_some_iff.1 hb
  unfold World.setCell World.putObj
  congr 1
  apply Array.ext
  · simp
  · intro i h1 h2
    have h2' : i < w.heap.size := by simpa using h2
    rw [Array.getElem_modify, Array.getElem_setIfInBounds h2']
    by_cases hi : b = i
    · subst hi; simp [he]
    · simp [hi]
theorem run_storeCells : ∀ (vs : List Value) (w : World) (b o i : Nat) (c : Array Value) (ty : TypeId), (∀ v ∈ vs, v.oneCell' = true) → w.heap[b]? = some (.cells c ty (0, 0)) → o + i + vs.length ≤ c.size →
    (storeCells ⟨b, o, none⟩ vs i).run P w = .ok () (w.putObj b (.cells (c.toList.take (o + i) ++ vs ++ c.toList.drop (o + i + vs.length)).toArray ty (0, 0)))
  | [], w, b, o, i, c, ty, _, hb, hl => by
    obtain ⟨hlt, he⟩ := Array.getElem?_eq_some_iff.1 hb
    simp only [storeCells, Sem.run_pure, List.append_nil, List.length_nil, Nat.add_zero, List.take_append_drop, Array.toArray_toList]
    have : w.heap.setIfInBounds b (.cells c ty) = w.heap := by
      apply Array.ext
      · simp
      · intro k h1 h2
        rw [Array.getElem_setIfInBounds h2]
        split
        · subst_vars; exact he.symm
        · rfl
    simp [World.putObj, this]
  | v :: vs, w, b, o, i, c, ty, h1, hb, hl => by
    simp only [List.length_cons] at hl
    have hc : w.cell? ⟨b, o + i, none⟩ = some (c[o + i]'(by omega)) := by simp [World.cell?, hb]
    have hf : w.frozen? ⟨b, o + i, none⟩ = false := by simp [World.frozen?, hb]
    simp only [storeCells, Sem.run_bind, addr_add ⟨b, o, none⟩ rfl]
    rw [run_store P w _ v _ (h1 v (by simp))]
    simp only [hc, hf, Bool.false_eq_true, if_false, Result.andThen_ok, setCell_eq_put hb]
    rw [run_storeCells vs _ b o (i + 1) (c.setIfInBounds (o + i) v) ty (fun u hu => h1 u (by simp [hu])) (World.putObj_heap_same (Array.getElem?_eq_some_iff.1 hb).1) (by simp; omega)]
    congr 1
    unfold World.putObj
    simp only [Array.setIfInBounds_setIfInBounds]
    congr 4
    have hs : (c.setIfInBounds (o + i) v).toList = c.toList.set (o + i) v := by simp
    rw [hs]
    have hlt : o + i < c.toList.length := by simp; omega
    apply List.ext_getElem?
    intro k
    simp only [List.append_assoc, List.getElem?_append, List.length_take, List.length_set, List.length_cons, List.getElem?_take, List.getElem?_drop, List.getElem?_set, Array.length_toList]
    have e1 : min (o + (i + 1)) c.size = o + i + 1 := by omega
    have e2 : min (o + i) c.size = o + i := by omega
    rw [e1, e2]
    by_cases hk : k < o + i
    · simp [hk, show k < o + i + 1 by omega, show k < o + (i + 1) by omega, show ¬ o + i = k by omega]
    · by_cases hk2 : k = o + i
      · subst hk2
        simp [show o + i < o + (i + 1) by omega, show o + i < c.size by omega]
      · have hk3 : ¬ k < o + i + 1 := by omega
        simp only [hk3, if_false, hk]
        by_cases hk4 : k - (o + i + 1) < vs.length
        · simp only [hk4, if_true, show k - (o + i) < vs.length + 1 by omega]
          rw [show k - (o + i) = (k - (o + i + 1)) + 1 by omega, List.getElem?_cons_succ]
        · simp only [hk4, if_false, show ¬ k - (o + i) < vs.length + 1 by omega]
          rw [if_neg (by omega)]
          congr 1
          omega
theorem run_storeVar {w : World} {b f : Nat} {c : Array Value} {ty : TypeId} {v : Value} (ht : TI P t agg z by_) (hb : w.heap[b]? = some (.cells c ty (0, 0))) (hv : v.cells.size = z.length) (h1 : ∀ u ∈ v.cells.toList, u.oneCell' = true) (hl : f + z.length ≤ c.size) :
    (storeVar t ⟨b, f, none⟩ v).run P w = .ok () (w.putObj b (.cells (c.toList.take f ++ v.cells.toList ++ c.toList.drop (f + z.length)).toArray ty (0, 0))) := by
  have h2 : v.cells.toList.length = z.length := by simpa using hv
  unfold storeVar
  simp only [Sem.run_bind, ht.size, Result.andThen_ok, hv, ne_eq, not_true_eq_false, if_false]
  rw [run_storeCells v.cells.toList w b f 0 c ty h1 hb (by rw [h2]; omega), h2]
  simp
end stores

/-! ### The forms of a step -/
/-- In this world the operation leaves v and nothing else. -/
def Ran (P : Program) (op : Op) (ty : TypeId) (e : Env) (w : World) (v : Value) : Prop := ∀ d pos af g, (execOp (evalE e) ⟨d, op, ty, pos, af, g⟩).run P w = .ok (.value v) w
section steps
variable {P : Program} {ops rest : List Oper} {e : Env} {w : World} {K : Env → World → Prop} {d : Nat} {ty : TypeId} {pos : String} {af : Array Edge} {gd : Option (Nat × Bool)}
theorem s_nil (h : K e w) : seqE P ops [] e w K := ⟨h⟩
theorem s_q {op : Op} (hw : Region.wanted ⟨some d, op, ty, pos, af, gd⟩ (yieldedE ops e) = true) (v : Value) (hr : Ran P op ty e w v) (h : seqE P ops rest (upd e d v) w K) : seqE P ops (⟨some d, op, ty, pos, af, gd⟩ :: rest) e w K := by
  rw [seqE_cons]; unfold opE stepE
  rw [if_pos hw]
  rw [hr]
  exact h
/-- An operation that makes something. -/
theorem s_v {op : Op} (hw : Region.wanted ⟨some d, op, ty, pos, af, gd⟩ (yieldedE ops e) = true) (v : Value) (w' : World) (hr : (execOp (evalE e) ⟨some d, op, ty, pos, af, gd⟩).run P w = .ok (.value v) w') (h : seqE P ops rest (upd e d v) w' K) : seqE P ops (⟨some d, op, ty, pos, af, gd⟩ :: rest) e w K := by
  rw [seqE_cons]; unfold opE stepE
  rw [if_pos hw, hr]
  exact h
theorem s_s {op : Op} (hw : Region.wanted ⟨none, op, ty, pos, af, gd⟩ (yieldedE ops e) = true) (w' : World) (hr : (execOp (evalE e) ⟨none, op, ty, pos, af, gd⟩).run P w = .ok .skip w') (h : seqE P ops rest e w' K) : seqE P ops (⟨none, op, ty, pos, af, gd⟩ :: rest) e w K := by
  rw [seqE_cons]; unfold opE stepE
  rw [if_pos hw, hr]
  exact h
/-- The guard has come out as wanted. -/
theorem wg {o : Oper} {g tg : Nat} {want b : Bool} (hg : (ops[g]?).bind (·.dst) = some tg) (he : e tg = .bool b) (hb : b = want) (ho : o.guard = some (g, want) := by rfl) : Region.wanted o (yieldedE ops e) = true := by
  subst hb
  simp [Region.wanted, ho, yieldedE, hg, he]
theorem wg0 {o : Oper} (ho : o.guard = none := by rfl) : Region.wanted o (yieldedE ops e) = true := by simp [Region.wanted, ho]
/-- .. or not. -/
theorem wgn {o : Oper} {g tg : Nat} {want b : Bool} (hg : (ops[g]?).bind (·.dst) = some tg) (he : e tg = .bool b) (hb : b ≠ want) (ho : o.guard = some (g, want) := by rfl) : Region.wanted o (yieldedE ops e) = false := by
  simp [Region.wanted, ho, yieldedE, hg, he, hb]
theorem wgu {o : Oper} {g tg : Nat} {want : Bool} (hg : (ops[g]?).bind (·.dst) = some tg) (he : e tg = undef) (ho : o.guard = some (g, want) := by rfl) : Region.wanted o (yieldedE ops e) = false := by
  simp [Region.wanted, ho, yieldedE, hg, he, undef]
theorem s_pass {o : Oper} (hw : Region.wanted o (yieldedE ops e) = false) (h : seqE P ops rest (updO e o.dst undef) w K) : seqE P ops (o :: rest) e w K := by
  rw [seqE_cons]; unfold opE
  rw [hw]
  exact h
theorem s_split (n : Nat) (l : List Oper) (h : seqE P ops (l.take n) e w fun e' w' => seqE P ops (l.drop n) e' w' K) : seqE P ops l e w K := by
  induction l generalizing n e w with
  | nil => cases n <;> simpa [seqE_nil] using h
  | cons o l ih =>
    cases n with
    | zero => simpa [seqE_nil] using h
    | succ n =>
      simp only [List.take_succ_cons, List.drop_succ_cons] at h
      rw [seqE_cons] at h ⊢
      exact opE_mono h fun e' w' h' => ih n h'
theorem q_in {S : World → Prop} {op : Op} {v : Value} (hw : Region.wanted ⟨some d, op, ty, pos, af, gd⟩ (yieldedE ops e) = true) (h : ∀ w, S w → Ran P op ty e w v) : QuietE P ops S ⟨some d, op, ty, pos, af, gd⟩ e v := .inl ⟨hw, fun w hw => h w hw _ _ _ _⟩
theorem q_out {S : World → Prop} {o : Oper} (hw : Region.wanted o (yieldedE ops e) = false) : QuietE P ops S o e undef := .inr ⟨hw, rfl⟩

/-! ### Reading operations -/
theorem r_move {x : Operand} {v : Value} (hx : evalE e x = v) : Ran P (.move x) ty e w v := fun _ _ _ _ => by subst hx; rfl
theorem r_assign {x : Operand} {v : Value} (hx : evalE e x = v) : Ran P (.assign x) ty e w v := fun _ _ _ _ => by subst hx; rfl
theorem r_pick {c x y : Operand} {b : Bool} {v : Value} (hc : evalE e c = .bool b) (hv : (if b then evalE e x else evalE e y) = v) : Ran P (.pick c x y) ty e w v := fun _ _ _ _ => by
  simp only [execOp, hc, asBool, Sem.run_bind, Sem.run_pure, Result.andThen_ok]
  rw [hv]
theorem r_not {xt : TypeId} {x : Operand} {b : Bool} (hx : evalE e x = .bool b) : Ran P (.unOp .not xt x) ty e w (.bool !b) := fun _ _ _ _ => by
  simp [execOp, hx, Op.unary]
theorem r_nilCheck {x : Operand} {a : Addr} (hx : evalE e x = .pointer (some a)) : Ran P (.nilCheck x) ty e w (.pointer (some a)) := fun _ _ _ _ => by
  simp [execOp, hx]
theorem r_makeFunc {fn : Fn} {cap : Array Operand} (vs : List Value) (hc0 : cap.toList.map (evalE e) = vs) : Ran P (.makeFunc fn #[] cap) ty e w (.func fn #[] vs.toArray) := fun _ _ _ _ => by
  have hc : cap.map (evalE e) = vs.toArray := by subst hc0; apply Array.ext'; simp
  simp [execOp, Instr.makeFunc, hc]
theorem r_extract {x : Operand} {i : Nat} {vs : List Value} {v : Value} (hx : evalE e x = .tuple vs.toArray) (hv : vs[i]? = some v) : Ran P (.extract x i) ty e w v := fun _ _ _ _ => by
  simp [execOp, Instr.extract, hx, hv]
/-- A field's address: how far it lies. -/
def FI (P : Program) (s : TypeId) (i off : Nat) : Prop := ∀ (a : Addr) (w : World), (Instr.fieldAt s (.pointer (some a)) i).run P w = .ok (.pointer (some (a.add off))) w
theorem FI.of {s i off : Nat} {fs : Array Field} {f : Field} {agg : Bool} {z : List Value} {by_ : Nat} (hu : P.underlying s = some (.struct fs)) (hf : fs[i]? = some f) (ho : f.offset = off) (ht : TI P f.type agg z by_) (hz : z.length ≠ 0) : FI P s i off := fun a w => by
  simp [Instr.fieldAt, run_underlying hu, hf, Instr.sureAddr, fieldPlace, ht.size, ho]
  intro h0; exact absurd (by simpa using h0) hz
theorem r_field {s i off : Nat} {x : Operand} {a : Addr} {v : Value} (hf : FI P s i off) (hx : evalE e x = .pointer (some a)) (hv : Value.pointer (some (a.add off)) = v) : Ran P (.fieldAddr s x i) ty e w v := fun _ _ _ _ => by
  subst hv; simp [execOp, hx, hf a w]
theorem r_load {t : TypeId} {agg : Bool} {z : List Value} {by_ : Nat} {x : Operand} {a : Addr} {τ : PHeap} {cs : List Value} {v : Value} (ht : TI P t agg z by_) (hx : evalE e x = .pointer (some a)) (hr : RowAt τ a cs) (hon : POn τ w) (hl : cs.length = z.length) (hv : valOf agg cs = v) : Ran P (.load t x) ty e w v := fun _ _ _ _ => by
  subst hv
  simp [execOp, hx, Instr.loadAt, Instr.sureAddr, run_loadVar ht hr hon hl]
theorem r_len {x : Operand} {t el : TypeId} {a : Option Addr} {n c : Nat} (hu : P.underlying t = some (.slice el)) (hx : evalE e x = .slice a n c) : Ran P (.call { callee := .builtin .len, args := #[x], argTypes := #[t] }) ty e w (.int .i64 (n : Int)) := fun _ _ _ _ => by
  simp [execOp, resolve, invoke, builtin, hx, Builtin.len_, goInt, run_underlying hu]
end steps
end Go.Proofs.YtjpkccofeafkbaaGreat.Pvx
