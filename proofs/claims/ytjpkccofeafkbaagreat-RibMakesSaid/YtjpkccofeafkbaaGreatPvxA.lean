/- The layer of execution: a function's temporaries as a function from numbers to values; what one operation, a region, a piece of code come to. Over any program. -/
import Derived.RangeFuncLeaves
import Derived.RangeFuncCalls
import Derived.Below
import Derived.OrdersIn
import Derived.TacticsIn
set_option linter.unusedSimpArgs false
namespace Go.Proofs.YtjpkccofeafkbaaGreat.Pvx
open Go.RowKit
set_option linter.unusedVariables false

/-- The fence that lets everything in, in a frame of this make. -/
abbrev FW (ro : Option Nat) : Fence := { Fence.wide with round := ro }
theorem FW_room (ro : Option Nat) (n : Nat) : (FW ro).room n := fun _ h => by simp [Fence.wide] at h

/-! ### Temporaries -/
abbrev Env := Nat → Value
def upd (e : Env) (i : Nat) (v : Value) : Env := fun j => bif Nat.beq j i then v else e j
def updO (e : Env) : Option Nat → Value → Env
  | some d, v => upd e d v
  | none, _ => e
def entry (l : List Value) : Env := fun t => l.getD t undef
def evalE (e : Env) : Operand → Value
  | .tmp t => e t
  | .const v => v
  | .global g => .pointer (some ⟨g, 0, none⟩)
  | .func f => .func (.func f) #[] #[]
/-- The mark that a range over a function leaves among the deferred calls. -/
def mark (r : Nat) : Deferred := { target := .collected r, args := #[] }
def mk (n : Nat) (e : Env) (m : List Nat) : Act := ⟨Array.ofFn (n := n) fun i => e i.val, m.map mark⟩

theorem upd_same (e : Env) (i : Nat) (v : Value) : upd e i v i = v := by simp [upd]
theorem upd_ne (e : Env) {i j : Nat} (v : Value) (h : j ≠ i) : upd e i v j = e j := by
  have : Nat.beq j i = false := by
    cases hb : Nat.beq j i with
    | false => rfl
    | true => exact absurd (Nat.eq_of_beq_eq_true hb) h
  simp [upd, this]

theorem mk_getD (n : Nat) (e : Env) (m : List Nat) (t : Nat) (h : t < n) : (mk n e m).tmps.getD t undef = e t := by
  simp [mk, Array.getD, h]
theorem mk_get? (n : Nat) (e : Env) (m : List Nat) (t : Nat) (h : t < n) : (mk n e m).tmps[t]? = some (e t) := by
  simp [mk, h]
theorem mk_put (n : Nat) (e : Env) (m : List Nat) (d : Option Nat) (v : Value) : (mk n e m).put d v = mk n (updO e d v) m := by
  cases d with
  | none => rfl
  | some d =>
    simp only [Act.put, mk, updO, Act.mk.injEq, and_true]
    apply Array.ext
    · simp
    · intro i h1 h2
      simp only [Array.size_setIfInBounds, Array.size_ofFn] at h1
      rw [Array.getElem_setIfInBounds (by simpa using h1)]
      by_cases hd : d = i
      · subst hd; simp [upd]
      · rw [if_neg hd]; simp [upd_ne e v (Ne.symm hd)]

def okOperand (n : Nat) : Operand → Bool
  | .tmp t => Nat.blt t n
  | _ => true
/-- An operation names temporaries below n alone, and is one of those that are carried out in a round as everywhere. -/
def okOp (n : Nat) (o : Oper) : Bool :=
  o.op.operands.all (okOperand n) && (match o.op with | .defer _ => false | .select .. => false | .go _ => false | _ => true)
def okDst (n : Nat) (o : Oper) : Bool := match o.dst with | some d => Nat.blt d n | none => true
def okOps (n : Nat) (ops : List Oper) : Bool := ops.all fun o => okOp n o && okDst n o

theorem evalE_ok {n : Nat} {e : Env} {m : List Nat} {x : Operand} (h : okOperand n x = true) : (mk n e m).eval x = evalE e x := by
  cases x with
  | tmp t => exact mk_getD n e m t (by simpa [okOperand] using h)
  | _ => rfl
theorem exec_ok {n : Nat} {e : Env} {m : List Nat} {o : Oper} (h : okOp n o = true) : execOp (mk n e m).eval o = execOp (evalE e) o := by
  simp only [okOp, Bool.and_eq_true, Array.all_eq_true_iff_forall_mem] at h
  refine execOp_congr o (fun cs b hs => ?_) (fun x hx => evalE_ok (h.1 x hx))
  have := h.2; simp [hs] at this
theorem okOp_noDefer {n : Nat} {o : Oper} (h : okOp n o = true) : ∀ c, o.op ≠ .defer c := fun c hc => by
  simp only [okOp, Bool.and_eq_true] at h
  have := h.2; simp [hc] at this
theorem okOp_noSelect {n : Nat} {o : Oper} (h : okOp n o = true) : ∀ cs b, o.op ≠ .select cs b := fun cs b hc => by
  simp only [okOp, Bool.and_eq_true] at h
  have := h.2; simp [hc] at this

/-- What the guard's operation has yielded. -/
def yieldedE (ops : List Oper) (e : Env) (j : Nat) : Option Bool :=
  match (ops[j]?).bind (·.dst) with
  | some d => match e d with | .bool b => some b | _ => none
  | none => none
theorem yielded_ok {n : Nat} {ops : List Oper} (hn : okOps n ops = true) (e : Env) (m : List Nat) : yielded ops.toArray (mk n e m).tmps = yieldedE ops e := by
  funext j
  unfold yielded yieldedE
  simp only [List.getElem?_toArray]
  cases ho : ops[j]? with
  | none => rfl
  | some o =>
    cases hd : o.dst with
    | none => simp [hd]
    | some d =>
      have hm := List.mem_of_getElem? ho
      have := List.all_eq_true.1 hn o hm
      simp only [Bool.and_eq_true, okDst, hd] at this
      have hlt : d < n := by simpa using this.2
      simp only [Option.bind_some, hd, mk_get? n e m d hlt]
      cases e d <;> rfl

/-! ### One operation -/
/-- What the callee, a round of a loop, or the operation itself leaves. -/
def stepE (P : Program) (o : Oper) (e : Env) (w : World) (K : Value → World → Prop) : Prop :=
  match (execOp (evalE e) o).run P w with
  | .ok (.value v) w' => K v w'
  | .ok .skip w' => K undef w'
  | .ok (.enter f args) w' => Calls P f args w' fun en w'' => ∃ v, en = .returned v ∧ K v w''
  | .ok (.round l f tmps assign body) w' => RoundIn Fence.wide 0 P l f tmps assign body w' fun en w'' => ∃ v, en = .returned v ∧ K v w''
  | _ => False

theorem stepE_mono {P : Program} {o : Oper} {e : Env} {w : World} {K K' : Value → World → Prop} (h : stepE P o e w K) (hk : ∀ v w, K v w → K' v w) : stepE P o e w K' := by
  unfold stepE at *
  generalize (execOp (evalE e) o).run P w = r at *
  cases r with
  | halt h' w' => exact h.elim
  | ok x w' =>
    cases x with
    | value v => exact hk _ _ h
    | skip => exact hk _ _ h
    | enter f args => exact Calls.mono h fun _ _ ⟨v, he, hv⟩ => ⟨v, he, hk _ _ hv⟩
    | round l f t a b => exact RoundIn.mono h fun _ _ ⟨v, he, hv⟩ => ⟨v, he, hk _ _ hv⟩
    | _ => exact h.elim

theorem callsIn_FW {ro : Option Nat} {P : Program} {f : FuncId} {args : Array Value} {w : World} {R : Ending → World → Prop} (h : Calls P f args w R) : CallsIn (FW ro) 0 P f args w R := by
  have := callsIn_wide (n := 0).2 h
  exact this
theorem roundIn_FW {ro : Option Nat} {P : Program} {l : Nat} {f : FuncId} {tmps : Array Value} {assign body : Code} {w : World} {R : Ending → World → Prop}
    (h : RoundIn Fence.wide 0 P l f tmps assign body w R) : RoundIn (FW ro) 0 P l f tmps assign body w R := h

theorem wpIn_of_stepE {P : Program} {ro : Option Nat} {n : Nat} {o : Oper} {e : Env} {m : List Nat} {w : World} {K : Act → World → Prop} {Q : Exit → Act → World → Prop}
    (ho : okOp n o = true) (h : stepE P o e w fun v w' => K (mk n (updO e o.dst v) m) w') : o.wpIn (FW ro) 0 P (mk n e m) w K Q := by
  refine ⟨fun _ _ => trivial, ?_⟩
  rw [Oper.semAt_eq ro _ o (okOp_noDefer ho), exec_ok ho]
  unfold stepE at h
  split at h
  · rename_i hr; rw [hr]; show K _ _; rw [mk_put]; exact h
  · rename_i hr; rw [hr]; show K _ _; rw [mk_put]; exact h
  · rename_i hr; rw [hr]; simp only [Oper.uponIn, mk_put]
    exact ⟨fun hd => by simp [Fence.wide] at hd, (callsIn_FW h).mono fun en w'' ⟨v, he, hv⟩ => by subst he; exact hv⟩
  · rename_i hr; rw [hr]; simp only [Oper.uponIn, mk_put]
    exact ⟨fun hd => by simp [Fence.wide] at hd, (roundIn_FW h).mono fun en w'' ⟨v, he, hv⟩ => by subst he; exact hv⟩
  · exact h.elim

/-- One operation of a region: carried out if its guard lets it. -/
def opE (P : Program) (ops : List Oper) (o : Oper) (e : Env) (w : World) (K : Env → World → Prop) : Prop :=
  if Region.wanted o (yieldedE ops e) then stepE P o e w fun v w' => K (updO e o.dst v) w' else K (updO e o.dst undef) w
theorem opE_mono {P : Program} {ops : List Oper} {o : Oper} {e : Env} {w : World} {K K' : Env → World → Prop} (h : opE P ops o e w K) (hk : ∀ e w, K e w → K' e w) : opE P ops o e w K' := by
  unfold opE at *
  split
  · rename_i hw; rw [if_pos hw] at h; exact stepE_mono h fun _ _ hv => hk _ _ hv
  · rename_i hw; rw [if_neg hw] at h; exact hk _ _ h

/-! ### A region in the order of its text -/
def seqR (P : Program) (ops : List Oper) : List Oper → Env → World → (Env → World → Prop) → Prop
  | [], e, w, K => K e w
  | o :: rest, e, w, K => opE P ops o e w fun e' w' => seqR P ops rest e' w' K
/-- The same, under a name that nothing looks through. -/
structure seqE (P : Program) (ops l : List Oper) (e : Env) (w : World) (K : Env → World → Prop) : Prop where
  h : seqR P ops l e w K

theorem seqR_mono {P : Program} {ops : List Oper} {K K' : Env → World → Prop} (hk : ∀ e w, K e w → K' e w) : ∀ (l : List Oper) (e : Env) (w : World), seqR P ops l e w K → seqR P ops l e w K'
  | [], _, _, h => hk _ _ h
  | _ :: rest, _, _, h => opE_mono h fun e w h => seqR_mono hk rest e w h
theorem seqE_mono {P : Program} {ops : List Oper} {K K' : Env → World → Prop} (hk : ∀ e w, K e w → K' e w) (l : List Oper) (e : Env) (w : World) (h : seqE P ops l e w K) : seqE P ops l e w K' := ⟨seqR_mono hk l e w h.h⟩
theorem seqE_nil {P : Program} {ops : List Oper} {e : Env} {w : World} {K : Env → World → Prop} : seqE P ops [] e w K = K e w := propext ⟨fun h => h.h, fun h => ⟨h⟩⟩
theorem seqE_cons {P : Program} {ops rest : List Oper} {o : Oper} {e : Env} {w : World} {K : Env → World → Prop} : seqE P ops (o :: rest) e w K = opE P ops o e w fun e' w' => seqE P ops rest e' w' K :=
  propext ⟨fun h => opE_mono h.h fun _ _ h => ⟨h⟩, fun h => ⟨opE_mono h fun _ _ h => h.h⟩⟩

/-- What is said of a piece of code, in these words. -/
def lift (n : Nat) (Q : Exit → Env → List Nat → World → Prop) (x : Exit) (a : Act) (w : World) : Prop := ∃ e m, a = mk n e m ∧ Q x e m w
def CE (P : Program) (ro : Option Nat) (n : Nat) (c : Code) (Q : Exit → Env → List Nat → World → Prop) (e : Env) (m : List Nat) (w : World) : Prop :=
  c.wpIn (FW ro) 0 P (lift n Q) (mk n e m) w

theorem wpListIn_of_seqE {P : Program} {ro : Option Nat} {n : Nat} {ops : List Oper} {m : List Nat} {Q : Exit → Env → List Nat → World → Prop} (hn : okOps n ops = true) :
    ∀ (l : List Oper), (∀ o ∈ l, o ∈ ops) → ∀ (e : Env) (w : World), seqR P ops l e w (fun e' w' => Q .normal e' m w') → wpListIn (FW ro) 0 P ops.toArray (lift n Q) l (mk n e m) w
  | [], _, e, w, h => ⟨e, m, rfl, h⟩
  | o :: rest, hl, e, w, h => by
    have ho : okOp n o = true := by
      have := List.all_eq_true.1 hn o (hl o (by simp))
      simp only [Bool.and_eq_true] at this
      exact this.1
    unfold wpListIn
    rw [yielded_ok hn]
    unfold seqR opE at h
    split
    · rename_i hw
      rw [if_pos hw] at h
      exact wpIn_of_stepE ho (stepE_mono h fun v w' hv => wpListIn_of_seqE hn rest (fun x hx => hl x (by simp [hx])) _ _ hv)
    · rename_i hw
      rw [if_neg hw] at h
      refine ⟨fun _ _ => trivial, ?_⟩
      rw [mk_put]
      exact wpListIn_of_seqE hn rest (fun x hx => hl x (by simp [hx])) _ _ h

section code
variable {P : Program} {ro : Option Nat} {n : Nat} {Q Q' : Exit → Env → List Nat → World → Prop} {e : Env} {m : List Nat} {w : World}
theorem CE.mono {c : Code} (h : CE P ro n c Q e m w) (hq : ∀ x e m w, Q x e m w → Q' x e m w) : CE P ro n c Q' e m w :=
  wpIn_mono h fun x a w ⟨e, m, ha, hQ⟩ => ⟨e, m, ha, hq _ _ _ _ hQ⟩
theorem c_region {id : Nat} {ops : List Oper} (hn : okOps n ops = true) (h : seqE P ops ops e w fun e' w' => Q .normal e' m w') : CE P ro n (.region id ops.toArray false) Q e m w :=
  wpIn_region_lit (wpListIn_of_seqE hn ops (fun _ h => h) e w h.h)
theorem c_skip (h : Q .normal e m w) : CE P ro n .skip Q e m w := wpIn_skip ⟨e, m, rfl, h⟩
theorem c_exit {id : Nat} (h : Q (.exit id) e m w) : CE P ro n (.exit id) Q e m w := wpIn_exit ⟨e, m, rfl, h⟩
theorem c_ret (h : Q .ret e m w) : CE P ro n .ret Q e m w := wpIn_ret ⟨e, m, rfl, h⟩
def andThen (K : Env → List Nat → World → Prop) (Q : Exit → Env → List Nat → World → Prop) : Exit → Env → List Nat → World → Prop
  | .normal => K
  | x => Q x
theorem c_seq {x y : Code} (h : CE P ro n x (andThen (CE P ro n y Q) Q) e m w) : CE P ro n (.seq x y) Q e m w := by
  refine wpIn_seq (wpIn_mono h fun x a w ⟨e, m, ha, hQ⟩ => ?_)
  subst ha
  cases x <;> first | exact hQ | exact ⟨e, m, rfl, hQ⟩
/-- What stands behind goes under a name. -/
theorem c_seq' {x y : Code} (h : ∀ K : Env → List Nat → World → Prop, (∀ e m w, CE P ro n y Q e m w → K e m w) → CE P ro n x (andThen K Q) e m w) : CE P ro n (.seq x y) Q e m w := c_seq (h _ fun _ _ _ h => h)
theorem c_cond {c : Operand} {x y : Code} {t : Bool} (hc : evalE e c = .bool t) (ho : okOperand n c = true) (h1 : t = true → CE P ro n x Q e m w) (h2 : t = false → CE P ro n y Q e m w) : CE P ro n (.cond c x y) Q e m w :=
  wpIn_cond_split (by rw [evalE_ok ho]; exact hc) h1 h2
def inBlk (id : Nat) (Q : Exit → Env → List Nat → World → Prop) : Exit → Env → List Nat → World → Prop
  | .exit j => if j = id then Q .normal else Q (.exit j)
  | x => Q x
theorem c_block {id : Nat} {c : Code} (h : CE P ro n c (inBlk id Q) e m w) : CE P ro n (.block id c) Q e m w := by
  refine wpIn_block (wpIn_mono h fun x a w ⟨e, m, ha, hQ⟩ => ?_)
  subst ha
  cases x with
  | exit j =>
    simp only [inBlk, Exit.inBlock] at *
    split
    · rename_i hj; rw [if_pos hj] at hQ; exact ⟨e, m, rfl, hQ⟩
    · rename_i hj; rw [if_neg hj] at hQ; exact ⟨e, m, rfl, hQ⟩
  | _ => exact ⟨e, m, rfl, hQ⟩
theorem least {p : Nat → Prop} (h : ∃ k, p k) : ∃ k, p k ∧ ∀ j, p j → k ≤ j := by
  obtain ⟨k, hk⟩ := h
  induction k using Nat.strongRecOn with
  | _ k ih =>
    by_cases hs : ∃ j, j < k ∧ p j
    · obtain ⟨j, hj, hp⟩ := hs; exact ih j hj hp
    · exact ⟨k, hk, fun j hj => Nat.le_of_not_lt fun hlt => hs ⟨j, hlt, hj⟩⟩
open Classical in
noncomputable def least? (p : Nat → Prop) : Nat := if h : ∃ k, p k then (least h).choose else 0
theorem least?_spec {p : Nat → Prop} (h : ∃ k, p k) : p (least? p) ∧ ∀ j, p j → least? p ≤ j := by
  unfold least?; rw [dif_pos h]; exact (least h).choose_spec
/-- A loop: I k holds where a round begins with k rounds to come at the most. -/
theorem c_loop {c : Code} (I : Nat → Env → List Nat → World → Prop) (k : Nat) (h0 : I k e m w)
    (hr : ∀ k e m w, I k e m w → CE P ro n c (andThen (fun e' m' w' => ∃ j, j < k ∧ I j e' m' w') Q) e m w) : CE P ro n (.loop c) Q e m w := by
  refine wpIn_loop (fun a w => ∃ k e m, a = mk n e m ∧ I k e m w) (fun a w => least? fun k => ∃ e m, a = mk n e m ∧ I k e m w) ⟨k, e, m, rfl, h0⟩ ?_
  rintro a w hex
  obtain ⟨⟨e, m, rfl, hI⟩, hmin⟩ := least?_spec (p := fun k => ∃ e m, a = mk n e m ∧ I k e m w) hex
  refine wpIn_mono (hr _ e m w hI) fun x a w' ⟨e2, m2, ha, hQ⟩ => ?_
  subst ha
  cases x with
  | normal =>
    obtain ⟨j, hj, hI2⟩ := hQ
    exact ⟨⟨j, e2, m2, rfl, hI2⟩, Nat.lt_of_le_of_lt ((least?_spec (p := fun k => ∃ e m, mk n e2 m2 = mk n e m ∧ I k e m w') ⟨j, e2, m2, rfl, hI2⟩).2 j ⟨e2, m2, rfl, hI2⟩) hj⟩
  | _ => exact ⟨e2, m2, rfl, hQ⟩
end code
end Go.Proofs.YtjpkccofeafkbaaGreat.Pvx
