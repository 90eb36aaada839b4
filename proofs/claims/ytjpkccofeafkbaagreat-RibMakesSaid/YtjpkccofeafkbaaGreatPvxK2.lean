/- Operations that make something new. Over any program. -/
import Derived.Test.YtjpkccofeafkbaaGreatPvxK
import Derived.Laws.MakeOwn
namespace Go.Proofs.YtjpkccofeafkbaaGreat.Pvx
open Go.RowKit
set_option linter.unusedVariables false
set_option linter.unusedSimpArgs false
section ops
variable {P : Program} {T : Tab} {w0 : World} {ρ : Rho} {e : AEnv} {e' : Env} {h : Hp} {w : World} {a : AV}
/-- A new block of this make, and a value that leads to it. -/
def MS (P : Program) (w0 : World) (ρ : Rho) (e' : Env) (w : World) (o : Op) (s : Nat) (x : AObj) (a : AV) : Prop := ∃ r N v, (∀ d ty pos af g, (execOp (evalE e') ⟨d, o, ty, pos, af, g⟩).run P w = .ok (.value v) (w.alloc r)) ∧
  ∀ ρ', RLe ρ ρ' → ρ' s = some (w.heap.size, N) → OR (PAll w0) ρ' (w.heap.size, N) (some r) x ∧ VR (PAll w0) a ρ' v
theorem a_alloc (TO : TabOK P T) {t : TypeId} {s : Nat} {x : AObj} (hq : aop T (.alloc t) e s = some (x, a)) : MS P w0 ρ e' w (.alloc t) s x a := by
  simp only [aop] at hq
  split at hq
  · rename_i i hi
    cases hq
    obtain ⟨zs, hti, hz⟩ := (TO.ty _ _ hi).ti
    refine ⟨.cells zs.toArray t, zs.length, .pointer (some ⟨w.heap.size, 0, none⟩), fun d ty pos af g => ?_, fun ρ' hle hs => ⟨⟨zs, [], by simp, hz _ _, hti.cells, by simp⟩, by simp only [VR]; exact ⟨_, hs, rfl⟩⟩⟩
    simp [execOp, Instr.alloc, hti.zero, newVar, newRow, cells_valOf hti.one hti.cells]
  · cases hq
theorem a_box (TO : TabOK P T) (He : EnvR (PAll w0) ρ e e') {t : TypeId} {y : Operand} {s : Nat} {x : AObj} (hq : aop T (.box t y) e s = some (x, a)) : MS P w0 ρ e' w (.box t y) s x a := by
  simp only [aop] at hq
  split at hq
  · rename_i v hv
    split at hq
    · rename_i i hi
      cases hb : Nat.beq (cellsOf v).length i.z.length with
      | false => rw [hb] at hq; cases hq
      | true =>
        rw [hb] at hq; cases hq
        obtain ⟨h1, h2, h3⟩ := (ev1_sound He hv).cells (Nat.eq_of_beq_eq_true hb) (TO.ty _ _ hi).pos
        refine ⟨.cells (evalE e' y).cells t, i.z.length, .pointer (some ⟨w.heap.size, 0, none⟩), fun d ty pos af g => ?_, fun ρ' hle hs => ⟨⟨(evalE e' y).cells.toList, [], by simp, h1.mono hle, h2, by simpa using h3⟩, by simp only [VR]; exact ⟨_, hs, rfl⟩⟩⟩
        simp [execOp, Instr.box, newVar, newRow]
    · cases hq
  · cases hq
theorem repA_length (z : List AV) : ∀ n, (repA z n).length = n * z.length
  | 0 => by simp [repA]
  | n + 1 => by simp [repA, repA_length z n, Nat.add_mul]; omega
theorem rep_range (zs : List Value) (hz : 0 < zs.length) : ∀ n, ((List.range (n * zs.length)).map fun j => zs.toArray[j % zs.toArray.size]!) = (List.replicate n zs).flatten := by
  intro n
  induction n with
  | zero => simp
  | succ n ih =>
    rw [List.replicate_succ', List.flatten_append, Nat.add_mul, Nat.one_mul, List.range_add, List.map_append, ih]
    congr 1
    simp only [List.flatten_cons, List.flatten_nil, List.append_nil, List.map_map]
    apply List.ext_getElem?
    intro k
    simp only [List.getElem?_map, List.size_toArray]
    by_cases hk : k < zs.length
    · rw [List.getElem?_range hk]
      simp only [Option.map_some, Function.comp_apply, List.getElem?_eq_getElem hk]
      congr 1
      rw [Nat.add_comm, Nat.add_mul_mod_self_right, Nat.mod_eq_of_lt hk]
      simp [hk]
    · rw [List.getElem?_eq_none (by simp; omega), List.getElem?_eq_none (by omega)]
      rfl
theorem a_buildSlice (TO : TabOK P T) (He : EnvR (PAll w0) ρ e e') {t : TypeId} {n : Nat} {ps : Array (Nat × Operand)} {s : Nat} {x : AObj} (hq : aop T (.buildSlice t n ps) e s = some (x, a)) : MS P w0 ρ e' w (.buildSlice t n ps) s x a := by
  simp only [aop] at hq
  split at hq
  · rename_i et i hsl
    obtain ⟨hu, hok, _⟩ := slElem_sound TO hsl
    obtain ⟨zs, hti, hz⟩ := hok.ti
    have hzl := (hz (PAll w0) ρ).length
    have hpos := hok.pos
    split at hq
    · rename_i vs hvs
      split at hq
      · rename_i cs hcs
        cases hb : Nat.ble (n * i.z.length) 16777216 with
        | false => rw [hb] at hq; cases hq
        | true =>
          rw [hb] at hq; cases hq
          have hle := Nat.le_of_ble_eq_true hb
          have h0 : VRs (PAll w0) (repA i.z n) ρ (List.replicate n zs).flatten := VRs.rep (hz _ _) n
          have h1 : ∀ u ∈ (List.replicate n zs).flatten, u.oneCell' = true := by
            intro u hu
            obtain ⟨l, hl, hu⟩ := List.mem_flatten.1 hu
            rw [List.mem_replicate] at hl
            rw [hl.2] at hu
            exact hti.cells u hu
          obtain ⟨ys, h2, h3, h4⟩ := fillA_sound (ρ := ρ) (fun j off m hj => by simp only [Option.some.injEq, Prod.mk.injEq] at hj; omega) hcs (evps_sound He hvs) h0 h1
          have hlen : ys.length = n * i.z.length := by
            have hf : ∀ {place : Nat → Option (Nat × Nat)} {vs : List (Nat × AV)} {cs ds : List AV}, fillA place cs vs = some ds → ds.length = cs.length := by
              intro place vs
              induction vs with
              | nil => intro cs ds h; simp only [fillA, Option.some.injEq] at h; rw [h]
              | cons p vs ih =>
                intro cs ds h
                obtain ⟨j, v⟩ := p
                unfold fillA at h
                split at h
                · cases h
                · rename_i off size _
                  cases hc : (Nat.beq (cellsOf v).length size && Nat.ble (off + size) cs.length) with
                  | false => rw [hc] at h; cases h
                  | true =>
                    rw [hc] at h
                    simp only [Bool.and_eq_true] at hc
                    have q1 := Nat.eq_of_beq_eq_true hc.1
                    have q2 := Nat.le_of_ble_eq_true hc.2
                    rw [ih h]
                    simp only [over, List.length_append, List.length_take, List.length_drop]
                    omega
            rw [h3.length, hf hcs, repA_length]
          refine ⟨.cells ys.toArray et, n * i.z.length, .slice (some ⟨w.heap.size, 0, none⟩) n n, fun d ty pos af g => ?_, fun ρ' hle' hs => ⟨⟨ys, [], by simp, h3.mono hle', h4, by simpa using hlen⟩, ?_⟩⟩
          · have e1 : (ps.map fun x => (x.1, evalE e' x.2)) = (ps.toList.map fun (i, x) => (i, evalE e' x)).toArray := by apply Array.ext'; simp
            have e2 := fill_L h2
            have e3 : (List.replicate n zs).flatten.toArray = (Array.range (n * zs.length)).map (fun j => zs.toArray[j % zs.toArray.size]!) := by
              rw [← rep_range zs (by omega) n]; apply Array.ext'; simp
            rw [e3] at e2
            have e4 : ¬ (n * zs.length > 2 ^ 24) := by rw [hzl]; omega
            rw [hzl.symm] at e2
            by_cases hn : n * zs.length = 0
            · have hn0 : n = 0 := by
                rcases Nat.mul_eq_zero.1 hn with h | h
                · exact h
                · omega
              subst hn0
              simp only [Nat.zero_mul] at e2
              have e6 : Array.range 0 = #[] := rfl
              rw [e6] at e2
              simp only [Array.map_empty] at e2
              simp only [execOp, Instr.buildSlice, Sem.run_bind, run_underlying hu, Result.andThen_ok, hti.size, Nat.zero_mul, e4, if_false, if_true, Sem.run_pure, e1, e6, Array.map_empty, e2, newRow, run_newObj, World.alloc_eq, show ¬ (0 > 2 ^ 24) by decide]
            · simp only [execOp, Instr.buildSlice, Sem.run_bind, run_underlying hu, Result.andThen_ok, hti.size, e4, if_false, hn, hti.zero, Sem.run_pure, cells_valOf hti.one hti.cells, e1, e2, newRow, run_newObj, World.alloc_eq]
          · simp only [VR]
            have : n ≤ 16777216 := by
              have := Nat.le_mul_of_pos_right n hpos
              omega
            exact ⟨_, n, hs, rfl, Nat.le_refl _, by simp only [maxLen]; omega, rfl⟩
      · cases hq
    · cases hq
  · cases hq
theorem a_makeMap {t : TypeId} {s : Nat} {x : AObj} (hq : aop T (.makeMap t none) e s = some (x, a)) : MS P w0 ρ e' w (.makeMap t none) s x a := by
  simp only [aop, Option.some.injEq, Prod.mk.injEq] at hq
  obtain ⟨rfl, rfl⟩ := hq
  exact ⟨.map #[] 0, 0, .map (some w.heap.size), fun d ty pos af g => by simp [execOp, Instr.makeMap], fun ρ' hle hs => ⟨⟨[], rfl, rfl⟩, by simp only [VR]; exact ⟨_, hs, rfl⟩⟩⟩
theorem a_makeSlice (TO : TabOK P T) (He : EnvR (PAll w0) ρ e e') {t : TypeId} {y z : Operand} {s : Nat} {x : AObj} (hq : aop T (.makeSlice t y z) e s = some (x, a)) : MS P w0 ρ e' w (.makeSlice t y z) s x a := by
  simp only [aop] at hq
  split at hq
  · rename_i et i hsl
    obtain ⟨hu, hok, _⟩ := slElem_sound TO hsl
    obtain ⟨zs, hti, hz⟩ := hok.ti
    have hzl := (hz (PAll w0) ρ).length
    have hpos := hok.pos
    split at hq
    · rename_i n hn
      split at hq
      · rename_i m hm
        cases hb : (Nat.ble n m && Nat.ble (i.bytes * m) 281474976710656 && Nat.ble m 9223372036854775807) with
        | false => rw [hb] at hq; cases hq
        | true =>
          rw [hb] at hq; cases hq
          simp only [Bool.and_eq_true] at hb
          obtain ⟨⟨b1, b2⟩, b3⟩ := hb
          have b1 := Nat.le_of_ble_eq_true b1
          have b2 := Nat.le_of_ble_eq_true b2
          have b3 := Nat.le_of_ble_eq_true b3
          have Hn := VR_int (ev1_sound He hn)
          have Hm := VR_int (ev1_sound He hm)
          obtain ⟨inf, hinf, hs1, hs2, hs3⟩ := hti.info
          refine ⟨.cells (List.replicate m zs).flatten.toArray et, m * i.z.length, .slice (some ⟨w.heap.size, 0, none⟩) n m, fun d ty pos af g => ?_, fun ρ' hle' hs => ⟨⟨_, [], by simp, VRs.rep (hz _ _) m, ?_, ?_⟩, ?_⟩⟩
          · have hbm : (inf.bytes : Int) * (m : Int) ≤ 281474976710656 := by
              rw [hs3]
              have : ((i.bytes : Int) * (m : Int)) = ((i.bytes * m : Nat) : Int) := by simp
              rw [this]; omega
            have hr := run_make (P := P) w t et inf _ hu hinf hs2 .i64 .i64 (n : Int) (m : Int) (by omega) (by omega) hbm (by omega)
            have hm' : madeCells (valOf i.agg zs).cells ((m : Int).toNat * inf.size) = (List.replicate m zs).flatten.toArray := by
              rw [cells_valOf hti.one hti.cells, hs1, ← rep_range zs (by omega) m]
              apply Array.ext'
              simp [madeCells]
            rw [hm'] at hr
            have Hn' : evalE e' y = .int .i64 (n : Int) := Hn
            have Hm' : evalE e' z = .int .i64 (m : Int) := Hm
            simp [execOp, Hn', Hm', hr]
          · intro u hu
            obtain ⟨l, hl, hu⟩ := List.mem_flatten.1 hu
            rw [List.mem_replicate] at hl
            rw [hl.2] at hu
            exact hti.cells u hu
          · simp [hzl]
          · simp only [VR]
            exact ⟨_, m, hs, rfl, b1, by simp only [maxLen]; omega, rfl⟩
      · cases hq
    · cases hq
  · cases hq
theorem aop_sound (TO : TabOK P T) (He : EnvR (PAll w0) ρ e e') {o : Op} {s : Nat} {x : AObj} (hq : aop T o e s = some (x, a)) : MS P w0 ρ e' w o s x a := by
  cases o with
  | alloc t => exact a_alloc TO hq
  | box t y => exact a_box TO He hq
  | buildSlice t n ps => exact a_buildSlice TO He hq
  | makeMap t r =>
    cases r with
    | none => exact a_makeMap hq
    | some y => simp [aop] at hq
  | makeSlice t y z => exact a_makeSlice TO He hq
  | call c => obtain ⟨cl, args, ats⟩ := c; cases cl <;> simp [aop] at hq
  | _ => simp [aop] at hq
end ops
end Go.Proofs.YtjpkccofeafkbaaGreat.Pvx
