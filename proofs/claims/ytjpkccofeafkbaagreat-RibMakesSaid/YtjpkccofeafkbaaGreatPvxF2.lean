/- Regions whose order is open: what the machine does in its own order is what the model does in every order. Over any program. -/
import Derived.Test.YtjpkccofeafkbaaGreatPvxF1
namespace Go.Proofs.YtjpkccofeafkbaaGreat.Pvx
open Go.RowKit
set_option linter.unusedVariables false
set_option linter.unusedSimpArgs false
section static
variable {ops : List Oper}
theorem memN_iff (l : List Nat) (n : Nat) : Hp.memN l n = true ↔ n ∈ l := by
  induction l with
  | nil => simp [Hp.memN]
  | cons x l ih =>
    simp only [Hp.memN, Bool.or_eq_true, ih, List.mem_cons]
    exact ⟨fun h => h.imp (fun h => (Nat.eq_of_beq_eq_true h).symm) id, fun h => h.imp (fun h => by subst h; exact Nat.beq_refl _) id⟩
/-- What is done is closed. -/
def Clo (ops : List Oper) (D : List Nat) : Prop := ∀ i ∈ D, ∀ o x, ops[i]? = some o → x ∈ o.after → Region.binds .any x = true → x.on ∈ D
theorem depA_mem {D : List Nat} (hD : Clo ops D) : ∀ (f j i : Nat), depA ops f j i = true → (j ∈ D ∨ ∀ o x, ops[j]? = some o → x ∈ o.after → Region.binds .any x = true → x.on ∈ D) → i ∈ D
  | 0, j, i, h, _ => by simp [depA] at h
  | f + 1, j, i, h, hj => by
    unfold depA at h
    cases ho : ops[j]? with
    | none => simp [ho] at h
    | some o =>
      simp only [ho] at h
      obtain ⟨x, hx, hb⟩ := List.any_eq_true.1 h
      simp only [Bool.and_eq_true, Bool.or_eq_true] at hb
      have hx' : x ∈ o.after := by simpa using hx
      have hm : x.on ∈ D := by
        rcases hj with hj | hj
        · exact hD j hj o x ho hx' hb.1
        · exact hj o x ho hx' hb.1
      rcases hb.2 with h' | h'
      · rw [← Nat.eq_of_beq_eq_true h']; exact hm
      · exact depA_mem hD f x.on i h' (.inl hm)
theorem depA_down {listed : Array Bool} (hd : Down ops listed) : ∀ (f j i : Nat), depA ops f j i = true → (listed.getD j false = true ∨ j ∈ Region.ready .any ops.toArray listed) → listed.getD i false = true
  | 0, _, _, h, _ => by simp [depA] at h
  | f + 1, j, i, h, hj => by
    unfold depA at h
    cases ho : ops[j]? with
    | none => simp [ho] at h
    | some o =>
      simp only [ho] at h
      obtain ⟨x, hx, hb⟩ := List.any_eq_true.1 h
      simp only [Bool.and_eq_true, Bool.or_eq_true] at hb
      have hx' : x ∈ o.after := by simpa using hx
      have hl : listed.getD x.on false = true := by
        rcases hj with hj | hj
        · exact hd j o ho hj x hx' hb.1
        · obtain ⟨_, o', ho', hall⟩ := mem_ready.1 hj
          simp only [List.getElem?_toArray, ho, Option.some.injEq] at ho'
          subst ho'
          exact hall x hx' hb.1
      rcases hb.2 with h' | h'
      · rw [Nat.eq_of_beq_eq_true h'] at hl; exact hl
      · exact depA_down hd f x.on i h' (.inl hl)
theorem readyA_iff {D : List Nat} {i : Nat} : readyA ops D i = true ↔ i ∉ D ∧ ∃ o, ops[i]? = some o ∧ ∀ x ∈ o.after, Region.binds .any x = true → x.on ∈ D := by
  unfold readyA
  simp only [Bool.and_eq_true, Bool.not_eq_true']
  constructor
  · rintro ⟨h1, h2⟩
    refine ⟨fun hi => (by rw [(memN_iff D i).2 hi] at h1; cases h1), ?_⟩
    cases ho : ops[i]? with
    | none => simp [ho] at h2
    | some o =>
      simp only [ho] at h2
      refine ⟨o, rfl, fun x hx hb => ?_⟩
      have := List.all_eq_true.1 h2 x (by simpa using hx)
      simp only [hb, Bool.not_true, Bool.false_or] at this
      exact (memN_iff D x.on).1 this
  · rintro ⟨h1, o, ho, hall⟩
    refine ⟨?_, ?_⟩
    · cases hm : Hp.memN D i with
      | false => rfl
      | true => exact absurd ((memN_iff D i).1 hm) h1
    · simp only [ho]
      refine List.all_eq_true.2 fun x hx => ?_
      cases hb : Region.binds .any x with
      | false => rfl
      | true => simp only [Bool.not_true, Bool.false_or]; exact (memN_iff D x.on).2 (hall x (by simpa using hx) hb)
structure Quick (ops : List Oper) (i : Nat) (o : Oper) (d : Nat) : Prop where
  op : ops[i]? = some o
  kind : quickKind o.op = true
  dst : o.dst = some d
  own : looksA ops o d = false
  pair : ∀ j q, j ≠ i → ops[j]? = some q → depA ops ops.length j i = false → looksA ops q d = false ∧ ∀ d', q.dst = some d' → d ≠ d' ∧ (looksA ops o d' = false ∨ depA ops ops.length i j = true)
theorem quickAt_iff {i : Nat} (h : quickAt ops i = true) : ∃ o d, Quick ops i o d := by
  unfold quickAt at h
  cases ho : ops[i]? with
  | none => simp [ho] at h
  | some o =>
    simp only [ho, Bool.and_eq_true] at h
    obtain ⟨h1, h2⟩ := h
    cases hd : o.dst with
    | none => simp [hd] at h2
    | some d =>
      simp only [hd, Bool.and_eq_true, Bool.not_eq_true', List.all_eq_true, List.mem_range] at h2
      refine ⟨o, d, ho, h1, hd, h2.1, fun j q hji hj hdep => ?_⟩
      have hlt : j < ops.length := (List.getElem?_eq_some_iff.1 hj).1
      have := h2.2 j hlt
      unfold pairOK at this
      simp only [hj, hdep, Bool.or_eq_true, Bool.or_false, Bool.and_eq_true, Bool.not_eq_true'] at this
      rcases this with this | ⟨h3, h4⟩
      · exact absurd (Nat.eq_of_beq_eq_true this) hji
      · refine ⟨h3, fun d' hd' => ?_⟩
        simp only [hd', Bool.and_eq_true, Bool.not_eq_true', Bool.or_eq_true] at h4
        exact ⟨fun e => (by subst e; rw [Nat.beq_refl] at h4; cases h4.1), h4.2⟩
end static
section sem
variable {P : Program} {T : Tab} {w0 : World} {ih : EvT} {ops : List Oper}
/-- Temporaries that an operation does not look at may differ. -/
theorem agree_of {e e2 : AEnv} {o : Oper} (h : ∀ t, looksA ops o t = true → e.get t = e2.get t) : AgreeOn e e2 o.op.operands.toList := by
  intro x hx
  cases x with
  | tmp t =>
    refine h t ?_
    unfold looksA
    simp only [Bool.or_eq_true]
    exact .inl (List.any_eq_true.2 ⟨_, hx, by simp⟩)
  | _ => rfl
theorem wantedA_congr {e e2 : AEnv} {o : Oper} (h : ∀ t, looksA ops o t = true → e.get t = e2.get t) : wantedA ops o e = wantedA ops o e2 := by
  unfold wantedA
  cases hg : o.guard with
  | none => rfl
  | some g =>
    obtain ⟨j, want⟩ := g
    simp only
    cases hd : (ops[j]?).bind (·.dst) with
    | none => rfl
    | some d =>
      simp only
      rw [h d (by unfold looksA; simp [hg, hd])]
theorem get_setO_ne {e : AEnv} {d : Option Nat} {v : AV} {t : Nat} (h : d ≠ some t) : (setO e d v).get t = e.get t := by
  cases d with
  | none => rfl
  | some d =>
    unfold setO
    rw [PT.set_get _ _ _ _ _ (Nat.lt_succ_self _), if_neg (fun e => h (by rw [e]))]
theorem get_setO_same {e : AEnv} {d : Nat} {v : AV} : (setO e (some d) v).get d = some v := by
  unfold setO
  rw [PT.set_get _ _ _ _ _ (Nat.lt_succ_self _), if_pos rfl]
/-- An operation that the machine has carried out, and the model has not yet. -/
structure Pend (T : Tab) (ops : List Oper) (ls : List (Nat × Nat)) (e : AEnv) (h : Hp) (ρ : Rho) (p : Nat) (sl : Option Nat) (o : Oper) (d : Nat) : Prop where
  q : Quick ops p o d
  lk : ∀ s, qlock o.op e = some s → (p, s) ∈ ls ∨ wantedA ops o e = some false
  how : (wantedA ops o e = some false ∧ e.get d = some (.tup [])) ∨
    (wantedA ops o e = some true ∧ ∃ v, qop T o.op e h = some v ∧ e.get d = some v) ∨
    (wantedA ops o e = some true ∧ ∃ s x v, sl = some s ∧ aop T o.op e s = some (x, v) ∧ e.get d = some v ∧ ρ s = none ∧ h.get s = some x ∧ s < h.next)
theorem Pend.step {ls ls' : List (Nat × Nat)} {e e2 : AEnv} {h h2 : Hp} {ρ ρ2 : Rho} {p : Nat} {sl : Option Nat} {o : Oper} {d : Nat} (hp : Pend T ops ls e h ρ p sl o d) (hls : ∀ y ∈ ls, y ∈ ls') (he : ∀ t, (looksA ops o t = true ∨ t = d) → e2.get t = e.get t)
    (hh : ∀ s, (p, s) ∈ ls → h2.get s = h.get s) (hg : ∀ s, s < h.next → ρ s = none → sl = some s → ρ2 s = none ∧ h2.get s = h.get s) (hn : h.next ≤ h2.next) : Pend T ops ls' e2 h2 ρ2 p sl o d := by
  have hw : wantedA ops o e2 = wantedA ops o e := wantedA_congr fun t ht => he t (.inl ht)
  have ha := agree_of (ops := ops) (o := o) (e := e2) (e2 := e) fun t ht => he t (.inl ht)
  refine ⟨hp.q, fun s hs => ?_, ?_⟩
  · rw [qlock_congr ha] at hs
    rw [hw]
    exact (hp.lk s hs).imp (hls _) id
  · rw [hw, he d (.inr rfl)]
    rcases hp.how with h1 | ⟨h1, v, h2', h3⟩ | ⟨h1, s, x, v, h2', h3, h4, h5, h6, h7⟩
    · exact .inl h1
    · refine .inr (.inl ⟨h1, v, ?_, h3⟩)
      rw [qop_congr ha, qop_heap (h := h)]
      · exact h2'
      · intro s hs
        rcases hp.lk s hs with h5 | h5
        · exact hh s h5
        · rw [h1] at h5; cases h5
    · obtain ⟨g1, g2⟩ := hg s h7 h5 h2'
      exact .inr (.inr ⟨h1, s, x, v, h2', by rw [aop_congr ha]; exact h3, h4, g1, by rw [g2]; exact h6, Nat.lt_of_lt_of_le h7 hn⟩)
theorem quick_cases {o : Op} {e : AEnv} {h : Hp} {K : AV → Hp → Bool} (hk : quickKind o = true) (hq : opF T ih o e h K = true) : (∃ v, qop T o e h = some v ∧ K v h = true) ∨ (qop T o e h = none ∧ ∃ x v, aop T o e h.next = some (x, v) ∧ K v (h.add x) = true) := by
  unfold opF at hq
  split at hq
  · rename_i v hv; exact .inl ⟨v, hv, hq⟩
  · rename_i hn
    split at hq
    · rename_i x v hx; exact .inr ⟨hn, x, v, hx, hq⟩
    · exfalso
      cases o with
      | call c =>
        obtain ⟨cl, args, ats⟩ := c
        cases cl with
        | builtin b => cases b <;> simp [quickKind] at hk <;> simp [wop] at hq
        | _ => simp [quickKind] at hk
      | _ => first | (simp [quickKind] at hk; done) | (simp [wop] at hq; done)
theorem count_set {l : List Bool} {i : Nat} (h : l[i]? = some false) : (l.set i true).count false + 1 = l.count false := by
  induction l generalizing i with
  | nil => simp at h
  | cons a l ih =>
    cases i with
    | zero => simp at h; subst h; simp
    | succ i =>
      simp only [List.getElem?_cons_succ] at h
      have := ih h
      simp only [List.set_cons_succ, List.count_cons]
      omega
theorem locksFor_base (i : Nat) : ∀ (ls : List (Nat × Nat)) (base : List Nat) (s : Nat), s ∈ base → s ∈ locksFor ops i ls base
  | [], _, _, h => h
  | (p, x) :: ls, base, s, h => by
    unfold locksFor
    cases depA ops ops.length i p with
    | true => exact locksFor_base i ls base s h
    | false => exact List.mem_cons_of_mem _ (locksFor_base i ls base s h)
theorem locksFor_mem (i : Nat) : ∀ (ls : List (Nat × Nat)) (base : List Nat) (p s : Nat), (p, s) ∈ ls → depA ops ops.length i p = false → s ∈ locksFor ops i ls base
  | [], _, _, _, h, _ => by cases h
  | (q, x) :: ls, base, p, s, h, hd => by
    unfold locksFor
    rcases List.mem_cons.1 h with h | h
    · cases h
      rw [hd]; exact List.mem_cons_self
    · cases depA ops ops.length i q with
      | true => exact locksFor_mem i ls base p s h hd
      | false => exact List.mem_cons_of_mem _ (locksFor_mem i ls base p s h hd)
end sem
end Go.Proofs.YtjpkccofeafkbaaGreat.Pvx
