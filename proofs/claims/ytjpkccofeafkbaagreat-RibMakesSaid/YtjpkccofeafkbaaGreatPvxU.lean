/- Calls; guarded operations; a function's entry and its end; loops and joins. Over any program. -/
import Derived.Test.YtjpkccofeafkbaaGreatPvxT
import Derived.Maps.AppendAt
set_option linter.unusedSimpArgs false
namespace Go.Proofs.YtjpkccofeafkbaaGreat.Pvx
open Go.RowKit
set_option linter.unusedVariables false

/-- A call of function k comes to an end and hands back what R tells. -/
def Fn (P : Program) (k : FuncId) (vs : List Value) (w : World) (R : Value → World → Prop) : Prop := Calls P k vs.toArray w fun en w' => ∃ v, en = .returned v ∧ R v w'
theorem Fn.mono {P : Program} {k : FuncId} {vs : List Value} {w : World} {R R' : Value → World → Prop} (h : Fn P k vs w R) (hr : ∀ v w', R v w' → R' v w') : Fn P k vs w R' :=
  Calls.mono h fun _ _ ⟨v, he, hv⟩ => ⟨v, he, hr _ _ hv⟩

/-- Cells are filled in. -/
def fillL (place : Nat → Option (Nat × Nat)) : List Value → List (Nat × Value) → Option (List Value)
  | cs, [] => some cs
  | cs, (i, v) :: rest => match place i with
    | none => none
    | some (off, size) => bif Nat.beq v.cells.toList.length size && Nat.ble (off + size) cs.length then fillL place (cs.take off ++ v.cells.toList ++ cs.drop (off + size)) rest else none
theorem foldl_put : ∀ (vs : List Value) (cs : List Value) (off k : Nat), off + k + vs.length ≤ cs.length →
    ((vs.zipIdx k).foldl (fun cs (c, j) => cs.setIfInBounds (off + j) c) cs.toArray) = (cs.take (off + k) ++ vs ++ cs.drop (off + k + vs.length)).toArray
  | [], cs, off, k, h => by simp
  | v :: vs, cs, off, k, h => by
    simp only [List.length_cons] at h
    simp only [List.zipIdx_cons, List.foldl_cons, List.setIfInBounds_toArray]
    rw [foldl_put vs (cs.set (off + k) v) off (k + 1) (by simp; omega)]
    congr 1
    have hlt : off + k < cs.length := by omega
    rw [show off + (k + 1) = off + k + 1 by omega, List.take_set, List.drop_set_of_lt (by omega), List.take_add_one, List.getElem?_eq_getElem hlt]
    simp only [Option.toList_some]
    rw [List.set_append_right _ _ (by simp; omega)]
    have h9 : off + k + 1 + vs.length = off + k + (v :: vs).length := by simp; omega
    rw [h9]
    simp [Nat.min_eq_left (Nat.le_of_lt hlt)]
theorem fill_L {place : Nat → Option (Nat × Nat)} : ∀ {vs : List (Nat × Value)} {cs ds : List Value}, fillL place cs vs = some ds → Instr.fill place cs.toArray vs = some ds.toArray
  | [], cs, ds, h => by simp only [fillL, Option.some.injEq] at h; subst h; rfl
  | (i, v) :: rest, cs, ds, h => by
    unfold fillL at h
    unfold Instr.fill
    cases hp : place i with
    | none => simp [hp] at h
    | some os =>
      obtain ⟨off, size⟩ := os
      simp only [hp] at h
      cases hc : (Nat.beq v.cells.toList.length size && Nat.ble (off + size) cs.length) with
      | false => rw [hc] at h; cases h
      | true =>
        simp only [hc, cond_true] at h
        simp only [Bool.and_eq_true] at hc
        have h1 := Nat.eq_of_beq_eq_true hc.1
        have h2 := Nat.le_of_ble_eq_true hc.2
        simp only [Array.length_toList] at h1
        have h3 := foldl_put v.cells.toList cs off 0 (by simp [h1]; omega)
        have h4 : (v.cells.zipIdx.foldl (fun cs (c, j) => cs.setIfInBounds (off + j) c) cs.toArray) = (cs.take off ++ v.cells.toList ++ cs.drop (off + size)).toArray := by
          rw [← Array.foldl_toList, Array.toList_zipIdx]
          simpa [h1] using h3
        have h5 : ¬ (v.cells.size ≠ size || decide (off + v.cells.size > cs.toArray.size)) = true := by simp [h1]; omega
        simp only [h5, h4]
        exact fill_L h

section steps
variable {P : Program} {ops rest : List Oper} {e : Env} {w : World} {K : Env → World → Prop} {d : Nat} {ty : TypeId} {pos : String} {af : Array Edge} {gd : Option (Nat × Bool)} {E : Ent} {σ : PHeap} {rs : List PHeap}
theorem stepE_call {k : FuncId} {c : Operand} {args : Array Operand} {ats : Array TypeId} {vs : List Value} {cap : Array Value} {R : Value → World → Prop} {K : Value → World → Prop} {dst : Option Nat} {g : Option (Nat × Bool)}
    (hk : Enters P k) (hc : evalE e c = .func (.func k) #[] cap) (ha : args.map (evalE e) ++ cap = vs.toArray) (hf : Fn P k vs w R)
    (h : ∀ v w', R v w' → K v w') : stepE P ⟨dst, .call { callee := .value c, args := args, argTypes := ats }, ty, pos, af, g⟩ e w K := by
  have hr : (execOp (evalE e) ⟨dst, .call { callee := .value c, args := args, argTypes := ats }, ty, pos, af, g⟩).run P w = .ok (.enter k vs.toArray) w := by
    simp [execOp, resolve, hc, Deferred.ofValue, invoke, ha, hk vs.toArray w]
  unfold stepE
  rw [hr]
  exact Calls.mono hf fun _ _ ⟨v, he, hv⟩ => ⟨v, he, h v _ hv⟩
theorem s_call {k : FuncId} {args : Array Operand} {ats : Array TypeId} (hw : Region.wanted ⟨some d, .call { callee := .value (.func k), args := args, argTypes := ats }, ty, pos, af, gd⟩ (yieldedE ops e) = true) (vs : List Value) {R : Value → World → Prop} (hk : Enters P k) (ha : args.toList.map (evalE e) = vs) (hf : Fn P k vs w R)
    (h : ∀ v w', R v w' → seqE P ops rest (upd e d v) w' K) : seqE P ops (⟨some d, .call { callee := .value (.func k), args := args, argTypes := ats }, ty, pos, af, gd⟩ :: rest) e w K := by
  rw [seqE_cons]; unfold opE
  rw [if_pos hw]
  exact stepE_call (cap := #[]) hk rfl (by subst ha; apply Array.ext'; simp) hf h
/-- A call of a function value that is known. -/
theorem s_vcall {k : FuncId} {c : Operand} {args : Array Operand} {ats : Array TypeId} (hw : Region.wanted ⟨some d, .call { callee := .value c, args := args, argTypes := ats }, ty, pos, af, gd⟩ (yieldedE ops e) = true) (vs : List Value) {cap : Array Value} {R : Value → World → Prop} (hk : Enters P k) (hc : evalE e c = .func (.func k) #[] cap) (ha : args.toList.map (evalE e) ++ cap.toList = vs) (hf : Fn P k vs w R)
    (h : ∀ v w', R v w' → seqE P ops rest (upd e d v) w' K) : seqE P ops (⟨some d, .call { callee := .value c, args := args, argTypes := ats }, ty, pos, af, gd⟩ :: rest) e w K := by
  rw [seqE_cons]; unfold opE
  rw [if_pos hw]
  exact stepE_call hk hc (by subst ha; apply Array.ext'; simp) hf h
/-- A literal slice. -/
theorem s_buildSlice {t et : TypeId} {agg : Bool} {z : List Value} {by_ n : Nat} {parts : Array (Nat × Operand)} (hw : Region.wanted ⟨some d, .buildSlice t n parts, ty, pos, af, gd⟩ (yieldedE ops e) = true) (vs : List (Nat × Value)) (cs : List Value) (H : Inv E σ rs w) (hu : P.underlying t = some (.slice et)) (ht : TI P et agg z by_) (hz0 : 0 < n * z.length) (hb : n * z.length ≤ 16777216)
    (hp : parts.toList.map (fun (i, x) => (i, evalE e x)) = vs)
    (hf : fillL (fun i => some (i * z.length, z.length)) ((List.range (n * z.length)).map (fun j => z.toArray[j % z.toArray.size]!)) vs = some cs)
    (h : ∀ b w', Inv E σ (single b (.cells cs.toArray et) :: rs) w' → seqE P ops rest (upd e d (.slice (some ⟨b, 0, none⟩) n n)) w' K) : seqE P ops (⟨some d, .buildSlice t n parts, ty, pos, af, gd⟩ :: rest) e w K := by
  refine s_v hw _ _ ?_ (h _ _ (H.alloc _))
  have h1 : (parts.map fun x => (x.1, evalE e x.2)) = vs.toArray := by subst hp; apply Array.ext'; simp
  have hf := fill_L hf
  rw [show ((List.range (n * z.length)).map (fun j => z.toArray[j % z.toArray.size]!)).toArray = (Array.range (n * z.length)).map (fun j => z.toArray[j % z.toArray.size]!) by apply Array.ext'; simp] at hf
  have h2 : ¬ (n * z.length > 2 ^ 24) := by omega
  have h3 : ¬ (n * z.length = 0) := by omega
  simp only [execOp, Instr.buildSlice, Sem.run_bind, run_underlying hu, Result.andThen_ok, ht.size, h2, if_false, h3, ht.zero, Sem.run_pure, cells_valOf ht.one ht.cells, h1, hf, newRow, run_newObj, World.alloc_eq]
end steps

/-! ### Guarded operations -/
def hasN : List Nat → Nat → Bool
  | [], _ => false
  | d :: D, t => Nat.beq t d || hasN D t
/-- Outside of D it is as it was. -/
def Agree (D : List Nat) (e' e : Env) : Prop := ∀ t, hasN D t = false → e' t = e t
def ov (D : List Nat) (j e : Env) : Env := fun t => bif hasN D t then j t else e t
theorem Agree.refl (D : List Nat) (e : Env) : Agree D e e := fun _ _ => rfl
theorem Agree.upd {D : List Nat} {e' e : Env} {d : Nat} {v : Value} (h : Agree D e' e) (hd : hasN D d = true) : Agree D (upd e' d v) e := fun t ht => by
  rw [upd_ne _ _ (fun hh => by subst hh; rw [hd] at ht; cases ht)]; exact h t ht
theorem Agree.ov (D : List Nat) (j e : Env) : Agree D (ov D j e) e := fun t ht => by simp [Pvx.ov, ht]
theorem Agree.trans {D : List Nat} {a b c : Env} (h : Agree D a b) (k : Agree D b c) : Agree D a c := fun t ht => (h t ht).trans (k t ht)
theorem Agree.ov' {D D' : List Nat} {j e e0 : Env} (h : Agree D e e0) (hs : ∀ t, hasN D t = false → hasN D' t = false) : Agree D (Pvx.ov D' j e) e0 := fun t ht => by simp [Pvx.ov, hs t ht, h t ht]
theorem Agree.eq {D : List Nat} {e' e : Env} (h : Agree D e' e) : e' = Pvx.ov D e' e := by
  funext t
  cases ht : hasN D t with
  | true => simp [Pvx.ov, ht]
  | false => simp [Pvx.ov, ht, h t ht]
def subN (D' D : List Nat) : Bool := D'.all (hasN D)
theorem hasN_mem {D : List Nat} {t : Nat} (h : hasN D t = true) : t ∈ D := by
  induction D with
  | nil => cases h
  | cons d D ih =>
    simp only [hasN, Bool.or_eq_true] at h
    rcases h with h | h
    · exact List.mem_cons.2 (.inl (Nat.eq_of_beq_eq_true h))
    · exact List.mem_cons.2 (.inr (ih h))
theorem subN_spec {D' D : List Nat} (h : subN D' D = true) (t : Nat) (ht : hasN D t = false) : hasN D' t = false := by
  cases h' : hasN D' t with
  | false => rfl
  | true =>
    have := List.all_eq_true.1 h t (hasN_mem h')
    rw [ht] at this; cases this
/-- A list of slots and what they hold. -/
def Has (e : Env) : List (Nat × Value) → Prop
  | [] => True
  | (s, v) :: l => e s = v ∧ Has e l
def setl (e : Env) : List (Nat × Value) → Env
  | [] => e
  | (s, v) :: l => setl (upd e s v) l
theorem upd_eq {e : Env} {s : Nat} {v : Value} (h : e s = v) : upd e s v = e := by
  funext t
  by_cases ht : t = s
  · subst ht; rw [upd_same, h]
  · rw [upd_ne _ _ ht]
theorem Has.eq {e : Env} : ∀ {l : List (Nat × Value)}, Has e l → setl e l = e
  | [], _ => rfl
  | (s, v) :: l, h => by
    unfold setl
    rw [upd_eq h.1]
    exact Has.eq h.2
/-- The frame where a piece begins, written out. -/
theorem frame_eq {D : List Nat} {e e0 : Env} {l : List (Nat × Value)} (h : Agree D e e0) (k : Has e l) : ∃ j, e = setl (Pvx.ov D j e0) l := ⟨e, by rw [← h.eq, k.eq]⟩

/-- May this operation be passed by, where the guard of number g has not come out as wanted? -/
def skipOK (ops : List Oper) (g : Nat) (want : Bool) (D : List Nat) : List Oper → List Nat → Bool
  | [], _ => true
  | o :: l, done => (match o.guard with
      | some (k, b) => (Nat.beq k g && (b == want)) || (match (ops[k]?).bind (·.dst) with | some d => hasN done d | none => false)
      | none => false) &&
    (match o.dst with
      | some d => hasN D d && skipOK ops g want D l (d :: done)
      | none => skipOK ops g want D l done)
theorem skip_all {P : Program} {ops : List Oper} {g : Nat} {want b : Bool} {D : List Nat} {tg : Nat} (hg : (ops[g]?).bind (·.dst) = some tg) (htg : hasN D tg = false) (hne : b ≠ want) :
    ∀ (l : List Oper) (done : List Nat) (e : Env) (w : World) (K : Env → World → Prop), skipOK ops g want D l done = true → e tg = .bool b → (∀ d, hasN done d = true → e d = undef) → (∀ e', Agree D e' e → K e' w) → seqE P ops l e w K
  | [], done, e, w, K, _, _, _, h => ⟨h e (Agree.refl D e)⟩
  | o :: l, done, e, w, K, hs, he, hd, h => by
    unfold skipOK at hs
    cases hgd : o.guard with
    | none => simp [hgd] at hs
    | some kb =>
      obtain ⟨k, b'⟩ := kb
      simp only [hgd, Bool.and_eq_true] at hs
      obtain ⟨h1, h2⟩ := hs
      have hw : Region.wanted o (yieldedE ops e) = false := by
        simp only [Region.wanted, hgd]
        simp only [Bool.or_eq_true, Bool.and_eq_true, beq_iff_eq] at h1
        rcases h1 with ⟨hk, hb⟩ | hk
        · have hk' := Nat.eq_of_beq_eq_true hk
          subst hk' hb
          simp [yieldedE, hg, he, hne]
        · cases hx : (ops[k]?).bind (·.dst) with
          | none => simp [hx] at hk
          | some dd =>
            simp only [hx] at hk
            have := hd dd hk
            simp [yieldedE, hx, this, undef]
      rw [seqE_cons]; unfold opE
      rw [hw]
      simp only [Bool.false_eq_true, if_false]
      cases hdst : o.dst with
      | none =>
        simp only [hdst] at h2
        exact skip_all hg htg hne l done e w K h2 he hd h
      | some dd =>
        simp only [hdst, Bool.and_eq_true] at h2
        have hne' : tg ≠ dd := fun hh => by subst hh; rw [h2.1] at htg; cases htg
        refine skip_all hg htg hne l (dd :: done) _ w K h2.2 ?_ ?_ ?_
        · show upd e dd undef tg = _
          rw [upd_ne _ _ hne']; exact he
        · intro x hx
          show upd e dd undef x = _
          by_cases hxd : x = dd
          · subst hxd; exact upd_same _ _ _
          · rw [upd_ne _ _ hxd]
            simp only [hasN, Bool.or_eq_true] at hx
            rcases hx with hx | hx
            · exact absurd (Nat.eq_of_beq_eq_true hx) hxd
            · exact hd x hx
        · intro e' ha
          exact h e' (ha.trans ((Agree.refl D e).upd h2.1))
section unit
variable {P : Program} {ops : List Oper} {e : Env} {w : World} {K : Env → World → Prop} {E : Ent} {σ : PHeap} {rs : List PHeap}
/-- Some operations under one guard, as one piece: carried out, they leave r in slot tl; else they leave nothing. -/
theorem s_unit {l : List Oper} (n g : Nat) (want b : Bool) (D : List Nat) (tl : Nat) (r : Bool) (H : Inv E σ rs w) {tg : Nat} (hg : (ops[g]?).bind (·.dst) = some tg) (htg : hasN D tg = false) (he : e tg = .bool b) (hs : skipOK ops g want D (l.take n) [] = true)
    (h1 : b = want → seqE P ops (l.take n) e w fun e' w' => Agree D e' e ∧ Inv E σ rs w' ∧ e' tl = .bool r)
    (h2 : ∀ j w', Inv E σ rs w' → (b = want → j tl = .bool r) → seqE P ops (l.drop n) (Pvx.ov D j e) w' K) : seqE P ops l e w K := by
  refine s_split n l ?_
  by_cases hb : b = want
  · refine seqE_mono (fun e' w' ⟨ha, hi, hr⟩ => ?_) _ _ _ (h1 hb)
    rw [ha.eq]
    exact h2 e' w' hi (fun _ => hr)
  · refine skip_all (D := D) hg htg hb (l.take n) [] e w _ hs he (fun d hd => by simp [hasN] at hd) fun e' ha => ?_
    rw [ha.eq]
    exact h2 e' w H (fun h => absurd h hb)
end unit

/-! ### A function's entry and its end -/
def okRes (n : Nat) : List ResultVar → Bool
  | [] => true
  | .tmp t :: l => Nat.blt t n && okRes n l
  | .cell a _ :: l => Nat.blt a n && okRes n l
/-- What the results come to. -/
def ResE (P : Program) (e : Env) (w : World) : List ResultVar → List Value → Prop
  | [], [] => True
  | .tmp t :: l, v :: vs => e t = v ∧ ResE P e w l vs
  | .cell a t :: l, v :: vs => (∃ p, e a = .pointer (some p) ∧ (loadVar t p).run P w = .ok v w) ∧ ResE P e w l vs
  | _, _ => False
def oneOr (vs : List Value) : Value := match vs with | [v] => v | vs => .tuple vs.toArray
/-- The marks are taken. -/
def Closed : List Nat → World → World → Prop
  | [], w, w' => w' = w
  | r :: m, w, w' => w.heap[r]? = some (.deferred (some [])) ∧ Closed m (w.putObj r (.deferred none)) w'
def RetE (P : Program) (fn : Func) (R : Value → World → Prop) (e : Env) (m : List Nat) (w : World) : Prop := ∃ w' vs, Closed m w w' ∧ ResE P e w' fn.results.toList vs ∧ R (oneOr vs) w'
def fnPost (P : Program) (fn : Func) (R : Value → World → Prop) : Exit → Env → List Nat → World → Prop
  | .normal => RetE P fn R
  | .ret => RetE P fn R
  | _ => fun _ _ _ => False
def resSem (tmps : Array Value) : ResultVar → Sem Value
  | .tmp t => pure (tmps.getD t undef)
  | .cell a t => do loadVar t (← asAddr (tmps.getD a undef))
theorem mapM_res {P : Program} {n : Nat} {e : Env} {m : List Nat} {w : World} : ∀ (l : List ResultVar) (vs : List Value), okRes n l = true → ResE P e w l vs →
    (l.mapM (resSem (mk n e m).tmps)).run P w = .ok vs w
  | [], [], _, _ => by simp
  | [], _ :: _, _, h => h.elim
  | .tmp t :: l, v :: vs, ho, h => by
    simp only [okRes, Bool.and_eq_true] at ho
    have ih := mapM_res (m := m) l vs ho.2 h.2
    rw [List.mapM_cons, Sem.run_bind]
    simp only [resSem, Sem.run_pure, Result.andThen_ok, mk_getD n e m t (by simpa using ho.1), h.1, Sem.run_bind]
    rw [ih]; rfl
  | .cell a t :: l, v :: vs, ho, h => by
    simp only [okRes, Bool.and_eq_true] at ho
    obtain ⟨⟨p, hp, hl⟩, h2⟩ := h
    have ih := mapM_res (m := m) l vs ho.2 h2
    rw [List.mapM_cons, Sem.run_bind]
    simp only [resSem, Sem.run_bind, mk_getD n e m a (by simpa using ho.1), hp, asAddr, Sem.run_pure, Result.andThen_ok, hl]
    rw [ih]; rfl
  | .tmp _ :: _, [], _, h => h.elim
  | .cell _ _ :: _, [], _, h => h.elim
theorem results_eq (fn : Func) (tmps : Array Value) : results fn tmps = (do let vs ← fn.results.mapM (resSem tmps); pure (if h : vs.size = 1 then vs[0] else .tuple vs)) := by
  unfold results
  congr 1
theorem run_results {P : Program} {fn : Func} {n : Nat} {e : Env} {m : List Nat} {w : World} {vs : List Value} (ho : okRes n fn.results.toList = true) (h : ResE P e w fn.results.toList vs) :
    (results fn (mk n e m).tmps).run P w = .ok (oneOr vs) w := by
  have hm := mapM_res (m := m) _ _ ho h
  rw [results_eq, Array.mapM_eq_mapM_toList, Sem.run_bind, Sem.run_map, hm]
  simp only [Result.andThen_ok, Sem.run_pure]
  congr 1
  unfold oneOr
  match vs with
  | [] => simp
  | [v] => simp
  | _ :: _ :: _ => simp
theorem leaves_of {P : Program} {fn : Func} {n : Nat} {R : Value → World → Prop} {e : Env} (ho : okRes n fn.results.toList = true) : ∀ (m : List Nat) (w : World) (tm : Array Value), tm = (mk n e []).tmps → (∃ w' vs, Closed m w w' ∧ ResE P e w' fn.results.toList vs ∧ R (oneOr vs) w') →
    LeavesInM Fence.wide 0 P fn tm (fun en w' => ∃ v, en = .returned v ∧ R v w') (m.map mark) .returning w
  | [], w, tm, ht, ⟨w', vs, hc, hr, hR⟩ => by
    have : w' = w := hc
    subst this ht
    exact ⟨_, run_results ho hr, _, rfl, hR⟩
  | r :: m, w, tm, ht, ⟨w', vs, hc, hr, hR⟩ => by
    refine ⟨by simp, .inl ⟨r, _, rfl, run_takeDeferred hc.1, ?_⟩⟩
    exact leaves_of ho m _ tm ht ⟨w', vs, hc.2, hr, hR⟩
theorem fn_entry {P : Program} {N : FuncId} {fn : Func} {c : Code} {n : Nat} {vs : List Value} {w : World} {R : Value → World → Prop} (hf : P.funcs[N]? = some fn) (hb : fn.body = some c) (hn : fn.ntmps = n) (hl : Nat.ble vs.length n = true) (ho : okRes n fn.results.toList = true)
    (h : CE P none n c (fnPost P fn R) (entry vs) [] w) : Fn P N vs w R := by
  refine callsIn_wide.1 (callsIn_of_wp_marks (F := Fence.wide) (n := 0) hf hb trivial ?_)
  have hst : ({ tmps := vs.toArray ++ Array.replicate (fn.ntmps - vs.toArray.size) undef, defers := [] } : Act) = mk n (entry vs) [] := by
    unfold mk entry
    subst hn
    have hle : vs.length ≤ fn.ntmps := Nat.le_of_ble_eq_true hl
    congr 1
    apply Array.ext
    · simp; omega
    · intro i h1 h2
      simp only [Array.getElem_append, List.size_toArray, Array.getElem_replicate, List.getElem_toArray, Array.getElem_ofFn]
      split
      · rename_i hi; simp [List.getD, hi]
      · rename_i hi; simp [List.getD, Nat.not_lt.1 hi]
  rw [hst]
  refine wpIn_mono h fun x a w' ⟨e, m, ha, hQ⟩ => ?_
  subst ha
  cases x with
  | normal => exact leaves_of ho m w' _ rfl hQ
  | ret => exact leaves_of ho m w' _ rfl hQ
  | _ => exact hQ.elim

/-! ### Pieces of code -/
section code
variable {P : Program} {ro : Option Nat} {n : Nat} {Q : Exit → Env → List Nat → World → Prop} {e : Env} {m : List Nat} {w : World}
/-- What stands behind a piece is proved once, of all that the piece may leave. -/
theorem c_mid {x y : Code} (M : Env → List Nat → World → Prop) (h1 : CE P ro n x (andThen M Q) e m w) (h2 : ∀ e m w, M e m w → CE P ro n y Q e m w) : CE P ro n (.seq x y) Q e m w :=
  c_seq (CE.mono h1 fun x e m w h => by cases x <;> first | exact h2 _ _ _ h | exact h)
theorem c_midA {x y : Code} (M : Env → Env → List Nat → World → Prop) (h1 : CE P ro n x (andThen (M e) Q) e m w) (h2 : ∀ e' m' w', M e e' m' w' → CE P ro n y Q e' m' w') : CE P ro n (.seq x y) Q e m w := c_mid (M e) h1 h2
theorem c_loopA {c : Code} (I : Env → Nat → Env → List Nat → World → Prop) (k : Nat) (h0 : I e k e m w) (hr : ∀ k e' m' w', I e k e' m' w' → CE P ro n c (andThen (fun e2 m2 w2 => ∃ j, j < k ∧ I e j e2 m2 w2) Q) e' m' w') : CE P ro n (.loop c) Q e m w := c_loop (I e) k h0 hr
/-- A region, and what stands behind it proved once. -/
theorem c_regA {id : Nat} {ops : List Oper} (M : Env → Env → World → Prop) (hn : okOps n ops = true) (h1 : seqE P ops ops e w (M e)) (h2 : ∀ e' w', M e e' w' → Q .normal e' m w') : CE P ro n (.region id ops.toArray false) Q e m w :=
  c_region hn (seqE_mono h2 _ _ _ h1)
theorem cond_t {α : Type} {c : Bool} {x y : α} {r : α} (h : c = true) (hf : (bif c then x else y) = r) : x = r := by subst h; exact hf
theorem cond_f {α : Type} {c : Bool} {x y : α} {r : α} (h : c = false) (hf : (bif c then x else y) = r) : y = r := by subst h; exact hf
theorem c_if {c : Operand} {x y : Code} {t : Bool} (hc : evalE e c = .bool t) (ho : okOperand n c = true) (h1 : t = true → CE P ro n x Q e m w) (h2 : t = false → CE P ro n y Q e m w) : CE P ro n (.cond c x y) Q e m w := c_cond hc ho h1 h2
end code
end Go.Proofs.YtjpkccofeafkbaaGreat.Pvx
