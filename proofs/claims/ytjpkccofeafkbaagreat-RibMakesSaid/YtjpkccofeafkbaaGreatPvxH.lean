/- A range over a function: the statement, a round, a call of yield. Over any program. -/
import Derived.Test.YtjpkccofeafkbaaGreatPvxG
import Derived.RangeFuncNested
set_option linter.unusedSimpArgs false
namespace Go.Proofs.YtjpkccofeafkbaaGreat.Pvx
open Go.RowKit
set_option linter.unusedVariables false

/-- The record of a loop. -/
def lrec (st : LoopState) (pend : Option Code) (fn n : Nat) (ey : Env) (ps : List Nat) (ca cb : Code) (d : Nat) : Loop :=
  { state := st, pending := pend, fn := fn, tmps := (mk n ey []).tmps, params := ps.toArray, assign := ca, body := cb, defers := d }
/-- A part of a code, by the way to it. -/
def subc : List Nat → Code → Code
  | [], c => c
  | 0 :: p, .seq a _ => subc p a
  | 1 :: p, .seq _ b => subc p b
  | 0 :: p, .cond _ a _ => subc p a
  | 1 :: p, .cond _ _ b => subc p b
  | 0 :: p, .block _ a => subc p a
  | 0 :: p, .loop a => subc p a
  | 0 :: p, .scope a => subc p a
  | 0 :: p, .rangeFunc _ _ a _ => subc p a
  | 1 :: p, .rangeFunc _ _ _ b => subc p b
  | _, c => c
def bodyOf (f : Func) : Code := match f.body with | some c => c | none => .skip

section
variable {P : Program} {ro : Option Nat} {n : Nat} {Q : Exit → Env → List Nat → World → Prop} {e : Env} {m : List Nat} {w : World} {E : Ent} {σ : PHeap} {rs : List PHeap}
/-- What the statement goes on by, behind the function that it ranged over. -/
def EndR (P : Program) (ro : Option Nat) (n l : Nat) (Q : Exit → Env → List Nat → World → Prop) (e : Env) (m : List Nat) (w : World) : Prop :=
  ∃ jump w4, (Instr.endLoop l).run P w = .ok jump w4 ∧ (match jump with | none => Q .normal e m w4 | some c => CE P ro n c Q e m w4)
theorem tmps_mk (n : Nat) (e : Env) (m : List Nat) : (mk n e m).tmps = (mk n e []).tmps := rfl
theorem c_range0 {g : Operand} {ps : Array Tmp} {gf : Nat} {cap : Array Value} (ca cb : Code) (hg : evalE e g = .func (.func gf) #[] cap) (hent : Enters P gf) (hok : okOperand n g = true) (H : Inv E σ rs w)
    (h : ∀ (fn d l : Nat) (w' : World) (ey : Env), ey = e → Inv E σ (single l (.loop (lrec .ready none fn n ey ps.toList ca cb d)) :: single d (.deferred (some [])) :: rs) w' →
      Fn P gf (.func (.yield l) #[] #[] :: cap.toList) w' fun _ w2 => EndR P none n l Q e (d :: m) w2) :
    CE P none n (.rangeFunc g ps ca cb) Q e m w := by
  refine wpIn_rangeFunc fun fn _ => ?_
  have h1 := h fn w.heap.size (w.alloc (.deferred (some []))).heap.size _ e rfl ((H.alloc (.deferred (some []))).alloc (.loop (lrec .ready none fn n e ps.toList ca cb w.heap.size)))
  refine ⟨(w.alloc (.deferred (some []))).heap.size, [mark w.heap.size], (w.alloc (.deferred (some []))).alloc (.loop (lrec .ready none fn n e ps.toList ca cb w.heap.size)), { target := .fn (.func gf) cap, args := #[.func (.yield (w.alloc (.deferred (some []))).heap.size) #[] #[]] }, (w.alloc (.deferred (some []))).alloc (.loop (lrec .ready none fn n e ps.toList ca cb w.heap.size)), gf, #[.func (.yield (w.alloc (.deferred (some []))).heap.size) #[] #[]] ++ cap, (w.alloc (.deferred (some []))).alloc (.loop (lrec .ready none fn n e ps.toList ca cb w.heap.size)), ?_, ?_, fun _ _ => trivial, ?_, fun hd => by simp [Fence.wide] at hd, ?_⟩
  · refine (run_enterLoop_outer fn (mk n e m).tmps ps ca cb).trans ?_
    rw [World.size_alloc]; rfl
  · simp only [resolve, evalE_ok hok, hg]
    simp [go_sem]
  · simp [invoke, go_sem, hent _ _]
  · have h2 : (Value.func (.yield (w.alloc (.deferred (some []))).heap.size) #[] #[] :: cap.toList).toArray = #[.func (.yield (w.alloc (.deferred (some []))).heap.size) #[] #[]] ++ cap := by
      apply Array.ext' ; simp
    rw [← h2]
    refine (callsIn_FW h1).mono fun en w3 ⟨v, he, jump, w4, hj, hq⟩ => ?_
    subst he
    refine ⟨jump, w4, hj, ?_⟩
    cases jump with
    | none => exact ⟨e, _, rfl, hq⟩
    | some c => exact hq
theorem c_range1 {g : Operand} {ps : Array Tmp} {gf : Nat} {cap : Array Value} {l0 i : Nat} {r0 : Loop} (ca cb : Code) (hg : evalE e g = .func (.func gf) #[] cap) (hent : Enters P gf) (hok : okOperand n g = true) (H : Inv E σ rs w) (hi : rs[i]? = some (single l0 (.loop r0)))
    (h : ∀ (fn l : Nat) (w' : World) (ey : Env), ey = e → Inv E σ (single l (.loop (lrec .ready none fn n ey ps.toList ca cb r0.defers)) :: rs) w' →
      Fn P gf (.func (.yield l) #[] #[] :: cap.toList) w' fun _ w2 => EndR P (some l0) n l Q e m w2) :
    CE P (some l0) n (.rangeFunc g ps ca cb) Q e m w := by
  refine wpIn_rangeFunc fun fn _ => ?_
  have h1 := h fn w.heap.size _ e rfl (H.alloc (.loop (lrec .ready none fn n e ps.toList ca cb r0.defers)))
  have hl0 : w.heap[l0]? = some (.loop r0) := H.at_ i hi _ _ (single_same _ _)
  refine ⟨w.heap.size, [], w.alloc (.loop (lrec .ready none fn n e ps.toList ca cb r0.defers)), { target := .fn (.func gf) cap, args := #[.func (.yield w.heap.size) #[] #[]] }, w.alloc (.loop (lrec .ready none fn n e ps.toList ca cb r0.defers)), gf, #[.func (.yield w.heap.size) #[] #[]] ++ cap, w.alloc (.loop (lrec .ready none fn n e ps.toList ca cb r0.defers)), ?_, ?_, fun _ _ => trivial, ?_, fun hd => by simp [Fence.wide] at hd, ?_⟩
  · exact run_enterLoop_inner hl0 fn (mk n e m).tmps ps ca cb
  · simp only [resolve, evalE_ok hok, hg]
    simp [go_sem]
  · simp [invoke, go_sem, hent _ _]
  · have h2 : (Value.func (.yield w.heap.size) #[] #[] :: cap.toList).toArray = #[.func (.yield w.heap.size) #[] #[]] ++ cap := by
      apply Array.ext' ; simp
    rw [← h2]
    refine (callsIn_FW h1).mono fun en w3 ⟨v, he, jump, w4, hj, hq⟩ => ?_
    subst he
    refine ⟨jump, w4, hj, ?_⟩
    cases jump with
    | none => exact ⟨e, _, rfl, hq⟩
    | some c => exact hq
theorem re_none {i l fn n' d : Nat} {st : LoopState} {ey : Env} {ps : List Nat} {ca cb : Code} (H : Inv E σ rs w) (hi : rs[i]? = some (single l (.loop (lrec st none fn n' ey ps ca cb d)))) (hs : st ≠ .busy)
    (h : ∀ w', Inv E σ (rs.set i (single l (.loop (lrec .exhausted none fn n' ey ps ca cb d)))) w' → Q .normal e m w') : EndR P ro n l Q e m w :=
  ⟨none, _, run_endLoop (H.at_ i hi _ _ (single_same _ _)) hs, h _ (H.putAt _ i hi)⟩
theorem re_some {i l fn n' d : Nat} {st : LoopState} {ey : Env} {ps : List Nat} {ca cb c : Code} (H : Inv E σ rs w) (hi : rs[i]? = some (single l (.loop (lrec st (some c) fn n' ey ps ca cb d)))) (hs : st ≠ .busy)
    (h : ∀ w', Inv E σ (rs.set i (single l (.loop (lrec .exhausted (some c) fn n' ey ps ca cb d)))) w' → CE P ro n c Q e m w') : EndR P ro n l Q e m w :=
  ⟨some c, _, run_endLoop (H.at_ i hi _ _ (single_same _ _)) hs, h _ (H.putAt _ i hi)⟩

/-! ### A round -/
def foldSet (t : Array Value) (l : List (Nat × Value)) : Array Value := l.foldl (fun t (p, v) => t.setIfInBounds p v) t
/-- A round of a loop comes to an end: yield hands back what R tells. -/
def Rd (P : Program) (l fn n : Nat) (ey : Env) (ps : List Nat) (vs : List Value) (ca cb : Code) (w : World) (R : Value → World → Prop) : Prop :=
  RoundIn Fence.wide 0 P l fn (foldSet (mk n ey []).tmps (ps.zip vs)) ca cb w fun en w' => ∃ v, en = .returned v ∧ R v w'
theorem Rd.mono {l fn n : Nat} {ey : Env} {ps : List Nat} {vs : List Value} {ca cb : Code} {R R' : Value → World → Prop} (h : Rd P l fn n ey ps vs ca cb w R) (hr : ∀ v w', R v w' → R' v w') : Rd P l fn n ey ps vs ca cb w R' :=
  RoundIn.mono h fun _ _ ⟨v, he, hv⟩ => ⟨v, he, hr _ _ hv⟩
theorem foldSet_mk (n : Nat) : ∀ (l : List (Nat × Value)) (e : Env), foldSet (mk n e []).tmps l = (mk n (setl e l) []).tmps
  | [], e => rfl
  | (p, v) :: l, e => by
    have h1 : ((mk n e []).tmps).setIfInBounds p v = (mk n (upd e p v) []).tmps := by
      have := mk_put n e [] (some p) v
      simp only [Act.put, updO] at this
      exact congrArg Act.tmps this
    show foldSet (((mk n e []).tmps).setIfInBounds p v) l = _
    rw [h1]; exact foldSet_mk n l _
def rdPost (P : Program) (l : Nat) (R : Value → World → Prop) : Exit → Env → List Nat → World → Prop
  | .normal, _, _, w => ∃ v w', (Instr.endRound l none).run P w = .ok v w' ∧ R v w'
  | .ret, _, _, w => ∃ v w', (Instr.endRound l (some .ret)).run P w = .ok v w' ∧ R v w'
  | .exit id, _, _, w => ∃ v w', (Instr.endRound l (some (.exit id))).run P w = .ok v w' ∧ R v w'
  | _, _, _, _ => False
def rdA (P : Program) (l n : Nat) (cb : Code) (R : Value → World → Prop) : Exit → Env → List Nat → World → Prop
  | .normal, e, m, w => ∃ w2, (Instr.beginRound l).run P w = .ok () w2 ∧ CE P (some l) n cb (rdPost P l R) e m w2
  | _, _, _, _ => False
theorem rd_entry {l fn n : Nat} {ey : Env} {ps : List Nat} {vs : List Value} {ca cb : Code} {R : Value → World → Prop} (L : List (Nat × Value)) (hL : ps.zip vs = L)
    (h : CE P (some l) n ca (rdA P l n cb R) (setl ey L) [] w) : Rd P l fn n ey ps vs ca cb w R := by
  subst hL
  refine roundIn_of_wpIn (F := Fence.wide) trivial ?_
  rw [foldSet_mk]
  refine wpIn_mono (show ca.wpIn (FW (some l)) 0 P _ (mk n (setl ey (ps.zip vs)) []) w from h) fun x a w ⟨e, m, ha, hQ⟩ => ?_
  subst ha
  cases x with
  | normal =>
    obtain ⟨w2, h1, h2⟩ := hQ
    refine ⟨w2, h1, wpIn_mono (show cb.wpIn (FW (some l)) 0 P _ (mk n e m) w2 from h2) fun x a w ⟨e, m, ha, hQ⟩ => ?_⟩
    cases x with
    | normal => obtain ⟨v, w', h3, h4⟩ := hQ; exact ⟨v, w', h3, v, rfl, h4⟩
    | ret => obtain ⟨v, w', h3, h4⟩ := hQ; exact ⟨v, w', h3, v, rfl, h4⟩
    | exit id => obtain ⟨v, w', h3, h4⟩ := hQ; exact ⟨v, w', h3, v, rfl, h4⟩
    | _ => exact hQ.elim
  | _ => exact hQ.elim
theorem ce_has {l : Nat} {c : Code} {ey : Env} {cp L : List (Nat × Value)} (h : Has ey cp) (k : ∀ j, CE P (some l) n c Q (setl (setl j cp) L) [] w) : CE P (some l) n c Q (setl ey L) [] w := by
  have := k ey; rwa [h.eq] at this
theorem rd_begin {i l fn n' d : Nat} {pend : Option Code} {ey : Env} {ps : List Nat} {ca cb cb' : Code} {R : Value → World → Prop} (H : Inv E σ rs w) (hi : rs[i]? = some (single l (.loop (lrec .ready pend fn n' ey ps ca cb d))))
    (h : ∀ w', Inv E σ (rs.set i (single l (.loop (lrec .busy pend fn n' ey ps ca cb d)))) w' → CE P (some l) n cb' (rdPost P l R) e m w') : rdA P l n cb' R .normal e m w :=
  ⟨_, run_beginRound (H.at_ i hi _ _ (single_same _ _)) rfl, h _ (H.putAt _ i hi)⟩
theorem rd_end_n {i l fn n' d : Nat} {st : LoopState} {pend : Option Code} {ey : Env} {ps : List Nat} {ca cb : Code} {R : Value → World → Prop} (H : Inv E σ rs w) (hi : rs[i]? = some (single l (.loop (lrec st pend fn n' ey ps ca cb d))))
    (h : ∀ w', Inv E σ (rs.set i (single l (.loop (lrec .ready none fn n' ey ps ca cb d)))) w' → R (.bool true) w') : ∃ v w', (Instr.endRound l none).run P w = .ok v w' ∧ R v w' :=
  ⟨_, _, run_endRound none (H.at_ i hi _ _ (single_same _ _)), h _ (H.putAt _ i hi)⟩
theorem rd_end_r {i l fn n' d : Nat} {st : LoopState} {pend : Option Code} {ey : Env} {ps : List Nat} {ca cb : Code} {R : Value → World → Prop} (H : Inv E σ rs w) (hi : rs[i]? = some (single l (.loop (lrec st pend fn n' ey ps ca cb d))))
    (h : ∀ w', Inv E σ (rs.set i (single l (.loop (lrec .done (some .ret) fn n' ey ps ca cb d)))) w' → R (.bool false) w') : ∃ v w', (Instr.endRound l (some .ret)).run P w = .ok v w' ∧ R v w' :=
  ⟨_, _, run_endRound (some .ret) (H.at_ i hi _ _ (single_same _ _)), h _ (H.putAt _ i hi)⟩
theorem rd_end_x {i l fn n' d id : Nat} {st : LoopState} {pend : Option Code} {ey : Env} {ps : List Nat} {ca cb : Code} {R : Value → World → Prop} (H : Inv E σ rs w) (hi : rs[i]? = some (single l (.loop (lrec st pend fn n' ey ps ca cb d))))
    (h : ∀ w', Inv E σ (rs.set i (single l (.loop (lrec .done (some (.exit id)) fn n' ey ps ca cb d)))) w' → R (.bool false) w') : ∃ v w', (Instr.endRound l (some (.exit id))).run P w = .ok v w' ∧ R v w' :=
  ⟨_, _, run_endRound (some (.exit id)) (H.at_ i hi _ _ (single_same _ _)), h _ (H.putAt _ i hi)⟩
end
section
variable {P : Program} {ops rest : List Oper} {e : Env} {w : World} {K : Env → World → Prop} {dst : Option Nat} {ty : TypeId} {pos : String} {af : Array Edge} {gd : Option (Nat × Bool)}
/-- A call of yield. -/
theorem s_yield {l fn n dd : Nat} {c : Operand} {args : Array Operand} {ats : Array TypeId} {pend : Option Code} {ey : Env} {ps : List Nat} {ca cb : Code} (hw : Region.wanted ⟨dst, .call { callee := .value c, args := args, argTypes := ats }, ty, pos, af, gd⟩ (yieldedE ops e) = true) (vs : List Value) {R : Value → World → Prop}
    (hc : evalE e c = .func (.yield l) #[] #[]) (ha0 : args.toList.map (evalE e) = vs) (hl : POn (single l (.loop (lrec .ready pend fn n ey ps ca cb dd))) w) (hs : ps.length = vs.length) (hf : Rd P l fn n ey ps vs ca cb w R)
    (h : ∀ v w', R v w' → seqE P ops rest (updO e dst v) w' K) : seqE P ops (⟨dst, .call { callee := .value c, args := args, argTypes := ats }, ty, pos, af, gd⟩ :: rest) e w K := by
  rw [seqE_cons]; unfold opE
  rw [if_pos hw]
  have hl := hl _ _ (single_same _ _)
  have ha : args.map (evalE e) = vs.toArray := by subst ha0; apply Array.ext'; simp
  have hr : (execOp (evalE e) ⟨dst, .call { callee := .value c, args := args, argTypes := ats }, ty, pos, af, gd⟩).run P w = .ok (.round l fn (foldSet (mk n ey []).tmps (ps.zip vs)) ca cb) w := by
    have hy := run_yield (P := P) (args := vs.toArray) hl (by simp [lrec, hs])
    simp only [execOp, resolve, hc, ha]
    simp [Deferred.ofValue, invoke, hy, lrec, foldSet]
  unfold stepE
  rw [hr]
  exact RoundIn.mono hf fun _ _ ⟨v, he, hv⟩ => ⟨v, he, h v _ hv⟩
end
end Go.Proofs.YtjpkccofeafkbaaGreat.Pvx
