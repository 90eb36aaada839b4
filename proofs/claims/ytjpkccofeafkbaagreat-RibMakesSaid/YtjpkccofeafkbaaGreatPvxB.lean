/- A region whose order is open: an operation that only reads, or does not depend on what the others do, may be taken first; the rest in whatever order. A range over a function. A function's entry and its end. Over any program. -/
import Derived.Test.YtjpkccofeafkbaaGreatPvxA
set_option linter.unusedSimpArgs false
namespace Go.Proofs.YtjpkccofeafkbaaGreat.Pvx
open Go.RowKit
set_option linter.unusedVariables false

section any
variable {P : Program} {ops : List Oper}
/-- Operation number i comes up. -/
def opAt (P : Program) (ops : List Oper) (i : Nat) (e : Env) (w : World) (K : Env → World → Prop) : Prop :=
  match ops[i]? with
  | some o => opE P ops o e w K
  | none => K e w
theorem opAt_mono {i : Nat} {e : Env} {w : World} {K K' : Env → World → Prop} (h : opAt P ops i e w K) (hk : ∀ e w, K e w → K' e w) : opAt P ops i e w K' := by
  unfold opAt at *
  cases ho : ops[i]? with
  | none => simp only [ho] at h ⊢; exact hk _ _ h
  | some o => simp only [ho] at h ⊢; exact opE_mono h hk
/-- Whatever order is picked; S holds behind each operation of L. -/
def anyE (P : Program) (ops : List Oper) (S : World → Prop) (L : Nat → Bool) (K : Env → World → Prop) : Nat → Array Bool → Env → World → Prop
  | 0, listed, e, w => Region.ready .any ops.toArray listed = [] ∧ K e w
  | f + 1, listed, e, w => (Region.ready .any ops.toArray listed = [] → K e w) ∧
    ∀ i ∈ Region.ready .any ops.toArray listed, opAt P ops i e w fun e' w' => (L i = true → S w') ∧ anyE P ops S L K f (listed.setIfInBounds i true) e' w'

theorem wpAnyIn_of_anyE {ro : Option Nat} {n : Nat} {m : List Nat} {Q : Exit → Env → List Nat → World → Prop} {S : World → Prop} {L : Nat → Bool} (hn : okOps n ops = true) :
    ∀ (f : Nat) (listed : Array Bool) (e : Env) (w : World), anyE P ops S L (fun e' w' => Q .normal e' m w') f listed e w →
      wpAnyIn (FW ro) 0 P .any ops.toArray (lift n Q) f listed (mk n e m) w
  | 0, listed, e, w, h => ⟨h.1, e, m, rfl, h.2⟩
  | f + 1, listed, e, w, h => ⟨fun h0 => ⟨e, m, rfl, h.1 h0⟩, fun i hi => by
      have := h.2 i hi
      unfold opAt at this
      unfold wpOpIn
      simp only [List.getElem?_toArray]
      cases ho : ops[i]? with
      | none => simp only [ho] at this ⊢; exact wpAnyIn_of_anyE hn f _ e w this.2
      | some o =>
        simp only [ho] at this ⊢
        have hm := List.all_eq_true.1 hn o (List.mem_of_getElem? ho)
        simp only [Bool.and_eq_true] at hm
        rw [yielded_ok hn]
        unfold opE at this
        split
        · rename_i hw
          rw [if_pos hw] at this
          exact wpIn_of_stepE hm.1 (stepE_mono this fun v w' hv => wpAnyIn_of_anyE hn f _ _ w' hv.2)
        · rename_i hw
          rw [if_neg hw] at this
          refine ⟨fun _ _ => trivial, ?_⟩
          rw [mk_put]
          exact wpAnyIn_of_anyE hn f _ _ w this.2⟩

theorem c_draw {ro : Option Nat} {n : Nat} {m : List Nat} {Q : Exit → Env → List Nat → World → Prop} {id : Nat} {e : Env} {w : World} (S : World → Prop) (L : Nat → Bool) (hm : P.follows .mixedOrders = true) (hn : okOps n ops = true)
    (h : anyE P ops S L (fun e' w' => Q .normal e' m w') ops.length (Array.replicate ops.length false) e w.drew) : CE P ro n (.region id ops.toArray true) Q e m w :=
  wpIn_region_any hm (by
    have := wpAnyIn_of_anyE (ro := ro) (Q := Q) hn _ _ _ _ h
    simpa using this)

/-- Number j comes up behind number i in every order. -/
def dep (ops : List Oper) : Nat → Nat → Nat → Bool
  | 0, _, _ => false
  | f + 1, j, i => match ops[j]? with
    | some o => o.after.any fun x => Region.binds .any x && (Nat.beq x.on i || dep ops f x.on i)
    | none => false
def Down (ops : List Oper) (listed : Array Bool) : Prop := ∀ j o, ops[j]? = some o → listed.getD j false = true → ∀ x ∈ o.after, Region.binds .any x = true → listed.getD x.on false = true
theorem dep_listed {listed : Array Bool} (hd : Down ops listed) : ∀ (f j i : Nat), dep ops f j i = true → (listed.getD j false = true ∨ j ∈ Region.ready .any ops.toArray listed) → listed.getD i false = true
  | 0, _, _, h, _ => by simp [dep] at h
  | f + 1, j, i, h, hj => by
    unfold dep at h
    cases ho : ops[j]? with
    | none => simp [ho] at h
    | some o =>
      simp only [ho] at h
      obtain ⟨x, hx, hb⟩ := Array.any_eq_true'.1 h
      simp only [Bool.and_eq_true, Bool.or_eq_true] at hb
      have hl : listed.getD x.on false = true := by
        rcases hj with hj | hj
        · exact hd j o ho hj x hx hb.1
        · obtain ⟨_, o', ho', hall⟩ := mem_ready.1 hj
          simp only [List.getElem?_toArray, ho, Option.some.injEq] at ho'
          subst ho'
          exact hall x hx hb.1
      rcases hb.2 with h' | h'
      · rw [Nat.eq_of_beq_eq_true h'] at hl; exact hl
      · exact dep_listed hd f x.on i h' (.inl hl)
theorem down_set {listed : Array Bool} {i : Nat} (hd : Down ops listed) (hi : i ∈ Region.ready .any ops.toArray listed) : Down ops (listed.setIfInBounds i true) := fun j o ho hj x hx hb => by
  by_cases hij : i = j
  · subst hij
    obtain ⟨_, o', ho', hall⟩ := mem_ready.1 hi
    simp only [List.getElem?_toArray, ho, Option.some.injEq] at ho'
    subst ho'
    exact getD_set_true (hall x hx hb)
  · rw [getD_set_ne false hij] at hj
    exact getD_set_true (hd j o ho hj x hx hb)

/-- Number i may be taken first where so many have come up: each other one that has not come up comes behind it, or is apart from it and keeps S. -/
def firstOK (ops : List Oper) (L : Nat → Bool) (listed : Array Bool) (i : Nat) : Bool :=
  match ops[i]? with
  | none => false
  | some oi => !listed.getD i true && (oi.after.all fun x => !Region.binds .any x || listed.getD x.on false) &&
      ((List.range ops.length).all fun j => Nat.beq j i || listed.getD j true || dep ops ops.length j i ||
        (L j && match ops[j]? with | some oj => oi.apart ops.toArray oj | none => true))
/-- In every world of S the operation leaves v and nothing else, or is passed by. -/
def QuietE (P : Program) (ops : List Oper) (S : World → Prop) (o : Oper) (e : Env) (v : Value) : Prop :=
  (Region.wanted o (yieldedE ops e) = true ∧ ∀ w, S w → (execOp (evalE e) o).run P w = .ok (.value v) w) ∨ (Region.wanted o (yieldedE ops e) = false ∧ v = undef)

theorem updO_comm (e : Env) {x y : Option Nat} (v u : Value) (h : ∀ d, x = some d → y ≠ some d) : updO (updO e x v) y u = updO (updO e y u) x v := by
  cases x with
  | none => rfl
  | some a =>
    cases y with
    | none => rfl
    | some b =>
      have hab : a ≠ b := fun hh => h a rfl (by rw [hh])
      funext j
      simp only [updO]
      by_cases ha : j = a
      · subst ha; rw [upd_ne _ _ hab, upd_same, upd_same]
      · by_cases hb : j = b
        · subst hb; rw [upd_same, upd_ne _ _ ha, upd_same]
        · rw [upd_ne _ _ hb, upd_ne _ _ ha, upd_ne _ _ ha, upd_ne _ _ hb]
theorem evalE_updO {e : Env} {x : Option Nat} {v : Value} {y : Operand} (h : ∀ d, x = some d → y ≠ .tmp d) : evalE (updO e x v) y = evalE e y := by
  cases x with
  | none => rfl
  | some d =>
    cases y with
    | tmp t => exact upd_ne _ _ (fun hh => h d rfl (by rw [hh]))
    | _ => rfl
theorem exec_updO (o : Oper) (hs : ∀ cs b, o.op ≠ .select cs b) (e : Env) (x : Option Nat) (v : Value) (h : ∀ d, x = some d → d ∉ o.looksAt ops.toArray) : execOp (evalE (updO e x v)) o = execOp (evalE e) o :=
  execOp_congr o hs fun y hy => evalE_updO fun d hd hyd => h d hd (by
    subst hyd
    unfold Oper.looksAt
    exact List.mem_append.2 (.inl (List.mem_filterMap.2 ⟨_, by simpa using hy, rfl⟩)))
theorem wanted_updO (o : Oper) (e : Env) (x : Option Nat) (v : Value) (h : ∀ d, x = some d → d ∉ o.looksAt ops.toArray) : Region.wanted o (yieldedE ops (updO e x v)) = Region.wanted o (yieldedE ops e) := by
  unfold Region.wanted
  cases hg : o.guard with
  | none => rfl
  | some g =>
    obtain ⟨j, want⟩ := g
    have : yieldedE ops (updO e x v) j = yieldedE ops e j := by
      unfold yieldedE
      cases hd : (ops[j]?).bind (·.dst) with
      | none => rfl
      | some d =>
        have hne : x ≠ some d := fun hh => h d hh (by
          unfold Oper.looksAt
          refine List.mem_append.2 (.inr ?_)
          simp only [hg, List.getElem?_toArray]
          rw [hd]; simp)
        simp only
        rw [show updO e x v d = e d from by
          cases x with
          | none => rfl
          | some a => exact upd_ne _ _ (fun hh => hne (by rw [hh]))]
    simp only [this]

theorem any_first {S : World → Prop} {L : Nat → Bool} {K : Env → World → Prop} {i : Nat} {oi : Oper} {v : Value} (hi : ops[i]? = some oi) (hsel : ∀ (j : Nat) (o : Oper) cs b, ops[j]? = some o → o.op ≠ .select cs b) :
    ∀ (f : Nat) (listed : Array Bool) (e : Env) (w : World), Down ops listed →
      (∀ j oj, ops[j]? = some oj → j ≠ i → listed.getD j true = false → dep ops ops.length j i = false → L j = true ∧ oi.apart ops.toArray oj = true) →
      i ∈ Region.ready .any ops.toArray listed → QuietE P ops S oi e v → S w →
      anyE P ops S L K f (listed.setIfInBounds i true) (updO e oi.dst v) w → anyE P ops S L K (f + 1) listed e w := by
  have run : ∀ (f : Nat) (listed : Array Bool) (e : Env) (w : World), QuietE P ops S oi e v → S w → anyE P ops S L K f (listed.setIfInBounds i true) (updO e oi.dst v) w →
      opAt P ops i e w fun e' w' => (L i = true → S w') ∧ anyE P ops S L K f (listed.setIfInBounds i true) e' w' := by
    intro f listed e w hq hS H
    unfold opAt
    simp only [hi]
    unfold opE
    rcases hq with ⟨hw, hv⟩ | ⟨hw, rfl⟩
    · rw [if_pos hw]
      unfold stepE
      rw [hv w hS]
      exact ⟨fun _ => hS, H⟩
    · rw [if_neg (by simp [hw])]
      exact ⟨fun _ => hS, H⟩
  intro f
  induction f with
  | zero =>
    intro listed e w hdn hfree hr hq hS H
    refine ⟨fun h => (by rw [h] at hr; cases hr), fun j hj => ?_⟩
    by_cases hji : j = i
    · subst hji; exact run 0 listed e w hq hS H
    · have := ready_mono hj hji
      rw [H.1] at this
      cases this
  | succ f ih =>
    intro listed e w hdn hfree hr hq hS H
    refine ⟨fun h => (by rw [h] at hr; cases hr), fun j hj => ?_⟩
    by_cases hji : j = i
    · subst hji; exact run (f + 1) listed e w hq hS H
    · have h1 := H.2 j (ready_mono hj hji)
      obtain ⟨hjun, oj, hoj, hall⟩ := mem_ready.1 hj
      simp only [List.getElem?_toArray] at hoj
      have hnd : dep ops ops.length j i = false := by
        cases hdp : dep ops ops.length j i with
        | false => rfl
        | true =>
          have hl := dep_listed hdn _ _ _ hdp (.inr hj)
          have h0 := (mem_ready.1 hr).1
          rcases Nat.lt_or_ge i listed.size with h' | h'
          · simp [h'] at h0 hl; rw [h0] at hl; cases hl
          · simp [Array.getElem?_eq_none h'] at hl
      obtain ⟨hL, hap⟩ := hfree j oj hoj hji hjun hnd
      obtain ⟨a1, a2, a3⟩ := Oper.apart_spec hap
      have hfree' : ∀ k ok, ops[k]? = some ok → k ≠ i → (listed.setIfInBounds j true).getD k true = false → dep ops ops.length k i = false → L k = true ∧ oi.apart ops.toArray ok = true := fun k ok hk hki hun hno => by
        refine hfree k ok hk hki ?_ hno
        by_cases hjk : j = k
        · subst hjk; exact hjun
        · rw [getD_set_ne true hjk] at hun; exact hun
      have keep : ∀ u, QuietE P ops S oi (updO e oj.dst u) v := fun u => by
        unfold QuietE at *
        rw [wanted_updO oi e oj.dst u a3, exec_updO oi (fun cs b => hsel i oi cs b hi) e oj.dst u a3]
        exact hq
      have cont : ∀ u w', ((L j = true → S w') ∧ anyE P ops S L K f ((listed.setIfInBounds i true).setIfInBounds j true) (updO (updO e oi.dst v) oj.dst u) w') →
          (L j = true → S w') ∧ anyE P ops S L K (f + 1) (listed.setIfInBounds j true) (updO e oj.dst u) w' := fun u w' h => by
        refine ⟨h.1, ih (listed.setIfInBounds j true) (updO e oj.dst u) w' (down_set hdn hj) hfree' (ready_mono hr (Ne.symm hji)) (keep u) (h.1 hL) ?_⟩
        rw [Array.setIfInBounds_comm _ _ hji, ← updO_comm e v u a2]
        exact h.2
      unfold opAt at h1 ⊢
      simp only [hoj] at h1 ⊢
      unfold opE at h1 ⊢
      rw [wanted_updO oj e oi.dst v a1] at h1
      split
      · rename_i hw
        rw [if_pos hw] at h1
        unfold stepE at h1 ⊢
        rw [exec_updO oj (fun cs b => hsel j oj cs b hoj) e oi.dst v a1] at h1
        generalize (execOp (evalE e) oj).run P w = r at *
        cases r with
        | halt _ _ => exact h1.elim
        | ok x w' =>
          cases x with
          | value u => exact cont _ _ h1
          | skip => exact cont _ _ h1
          | enter f args => exact Calls.mono h1 fun _ _ ⟨u, he, hu⟩ => ⟨u, he, cont _ _ hu⟩
          | round l f t a b => exact RoundIn.mono h1 fun _ _ ⟨u, he, hu⟩ => ⟨u, he, cont _ _ hu⟩
          | _ => exact h1.elim
      · rename_i hw
        rw [if_neg hw] at h1
        exact cont _ _ h1

def noSel (ops : List Oper) : Bool := ops.all fun o => match o.op with | .select .. => false | _ => true
theorem noSel_spec (h : noSel ops = true) (j : Nat) (o : Oper) (cs : Array SelectCase) (b : Bool) (ho : ops[j]? = some o) : o.op ≠ .select cs b := fun hc => by
  have := List.all_eq_true.1 h o (List.mem_of_getElem? ho)
  simp [hc] at this
/-- The invariant that the walk of a region carries along: what has come up is closed. -/
def AnyS (P : Program) (ops : List Oper) (S : World → Prop) (L : Nat → Bool) (K : Env → World → Prop) (f : Nat) (listed : Array Bool) (e : Env) (w : World) : Prop := Down ops listed → anyE P ops S L K f listed e w

theorem a_start {S : World → Prop} {L : Nat → Bool} {K : Env → World → Prop} {e : Env} {w : World} (h : AnyS P ops S L K ops.length (Array.replicate ops.length false) e w) : anyE P ops S L K ops.length (Array.replicate ops.length false) e w :=
  h fun j o ho hl => by
    rcases Nat.lt_or_ge j ops.length with h' | h'
    · simp [h'] at hl
    · simp [Nat.not_lt.2 h'] at hl
/-- Take number i first. -/
theorem a_take {S : World → Prop} {L : Nat → Bool} {K : Env → World → Prop} {f : Nat} {listed : Array Bool} {e : Env} {w : World} (i : Nat) {oi : Oper} (v : Value) (hi : ops[i]? = some oi) (hs : noSel ops = true) (hf : firstOK ops L listed i = true)
    (hq : QuietE P ops S oi e v) (hS : S w) (h : AnyS P ops S L K f (listed.setIfInBounds i true) (updO e oi.dst v) w) : AnyS P ops S L K (f + 1) listed e w := fun hdn => by
  unfold firstOK at hf
  simp only [hi, Bool.and_eq_true, List.all_eq_true, List.mem_range, Bool.or_eq_true, Array.all_eq_true_iff_forall_mem] at hf
  obtain ⟨⟨h1, h2⟩, h3⟩ := hf
  have hr : i ∈ Region.ready .any ops.toArray listed := mem_ready.2 ⟨by simpa using h1, oi, by simpa using hi, fun x hx hb => (h2 x hx).resolve_left (by simp [hb])⟩
  refine any_first hi (fun j o cs b ho => noSel_spec hs j o cs b ho) f listed e w hdn (fun j oj hoj hne hun hnd => ?_) hr hq hS (h (down_set hdn hr))
  have hlt : j < ops.length := by
    rcases Nat.lt_or_ge j ops.length with h' | h'
    · exact h'
    · simp [Nat.not_lt.2 h'] at hoj
  rcases h3 j hlt with ((h4 | h4) | h4) | h4
  · exact absurd (Nat.eq_of_beq_eq_true h4) hne
  · rw [hun] at h4; cases h4
  · rw [hnd] at h4; cases h4
  · simp only [hoj] at h4; exact h4
/-- Each of those that may come up. -/
theorem a_all {S : World → Prop} {L : Nat → Bool} {K : Env → World → Prop} {f : Nat} {listed : Array Bool} {e : Env} {w : World} (rs : List Nat) (hr : Region.ready .any ops.toArray listed = rs) (hne : rs ≠ [])
    (h : ∀ i ∈ rs, opAt P ops i e w fun e' w' => (L i = true → S w') ∧ AnyS P ops S L K f (listed.setIfInBounds i true) e' w') : AnyS P ops S L K (f + 1) listed e w := fun hdn =>
  ⟨fun h0 => absurd (hr ▸ h0) hne, fun i hi => opAt_mono (h i (hr ▸ hi)) fun e' w' h' => ⟨h'.1, h'.2 (down_set hdn hi)⟩⟩
theorem a_done {S : World → Prop} {L : Nat → Bool} {K : Env → World → Prop} {listed : Array Bool} {e : Env} {w : World} (hr : Region.ready .any ops.toArray listed = []) (h : K e w) : ∀ {f : Nat}, AnyS P ops S L K f listed e w
  | 0 => fun _ => ⟨hr, h⟩
  | _ + 1 => fun _ => ⟨fun _ => h, by rw [hr]; simp⟩
end any
end Go.Proofs.YtjpkccofeafkbaaGreat.Pvx
