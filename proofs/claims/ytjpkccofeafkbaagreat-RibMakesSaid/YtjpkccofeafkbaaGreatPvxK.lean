/- Operations that make or write: what the machine does is what the model does. Over any program. -/
import Derived.Test.YtjpkccofeafkbaaGreatPvxQ5
namespace Go.Proofs.YtjpkccofeafkbaaGreat.Pvx
open Go.RowKit
set_option linter.unusedVariables false
set_option linter.unusedSimpArgs false

/-! ### Memory -/
def Hp.put' (h : Hp) (s : Nat) (o : AObj) : Hp := ⟨h.next, h.objs.set (s + 1) s o, h.locks⟩
theorem Hp.get_add (h : Hp) (o : AObj) (s : Nat) : (h.add o).get s = if s = h.next then some o else h.get s := PT.set_get _ _ _ _ _ (Nat.lt_succ_self _)
theorem Hp.get_put (h : Hp) (k : Nat) (o : AObj) (s : Nat) : (h.put' k o).get s = if s = k then some o else h.get s := PT.set_get _ _ _ _ _ (Nat.lt_succ_self _)
theorem put_true {h : Hp} {s : Nat} {o : AObj} {K : Hp → Bool} (hp : h.put s o K = true) : Hp.memN h.locks s = false ∧ K (h.put' s o) = true := by
  unfold Hp.put at hp
  cases hm : Hp.memN h.locks s with
  | true => rw [hm] at hp; cases hp
  | false => rw [hm] at hp; exact ⟨rfl, hp⟩
/-- From one state of the memory to a later one. -/
structure Keep (ρ : Rho) (h : Hp) (ρ' : Rho) (h' : Hp) : Prop where
  le : RLe ρ ρ'
  next : h.next ≤ h'.next
  locks : h'.locks = h.locks
  same : ∀ s, s < h.next → (ρ s = none ∨ Hp.memN h.locks s = true) → h'.get s = h.get s
  ghost : ∀ s, s < h.next → ρ s = none → ρ' s = none
theorem Keep.refl (ρ : Rho) (h : Hp) : Keep ρ h ρ h := ⟨RLe.refl _, Nat.le_refl _, rfl, fun _ _ _ => rfl, fun _ _ h => h⟩
theorem Keep.trans {a b c : Rho} {h i j : Hp} (k : Keep a h b i) (l : Keep b i c j) : Keep a h c j :=
  ⟨k.le.trans l.le, Nat.le_trans k.next l.next, l.locks.trans k.locks, fun s hs hh => (l.same s (Nat.lt_of_lt_of_le hs k.next) (hh.imp (k.ghost s hs) (fun h => by rw [k.locks]; exact h))).trans (k.same s hs hh), fun s hs hh => l.ghost s (Nat.lt_of_lt_of_le hs k.next) (k.ghost s hs hh)⟩
section mem
variable {w0 : World} {ρ : Rho} {h : Hp} {w : World}
def radd (ρ : Rho) (s : Nat) (x : Nat × Nat) : Rho := fun k => if k = s then some x else ρ k
theorem radd_le {s : Nat} {x : Nat × Nat} (hs : ρ s = none) : RLe ρ (radd ρ s x) := fun k y hk => by
  unfold radd; split
  · subst_vars; rw [hs] at hk; cases hk
  · exact hk
theorem HR.fresh (H : HR w0 ρ h w) : ρ h.next = none := by
  cases hr : ρ h.next with
  | none => rfl
  | some x => exact absurd (H.dom _ _ hr).1 (Nat.lt_irrefl _)
/-- A new block, in a slot that is set already and has no block yet. -/
theorem HR.fill (H : HR w0 ρ h w) {s : Nat} {r : Obj} {N : Nat} {o : AObj} (hs : ρ s = none) (hlt : s < h.next) (hg : h.get s = some o) (hO : OR (PAll w0) (radd ρ s (w.heap.size, N)) (w.heap.size, N) (some r) o) : HR w0 (radd ρ s (w.heap.size, N)) h (w.alloc r) := by
  have hle := radd_le (x := (w.heap.size, N)) hs
  refine ⟨H.os, H.tape, H.output, by have := H.size; simp; omega, fun k hk => ?_, fun k x hk => ?_, H.live, fun k k' x x' o1 o2 hk hk' h1 h2 d1 d2 hx => ?_, fun k x o' hk hg' => ?_⟩
  · rw [← H.frame k hk]; exact Below.heap_alloc _ _ _ (Nat.lt_of_lt_of_le hk H.size)
  · unfold radd at hk
    split at hk
    · subst_vars; cases hk; exact ⟨hlt, H.size, by simp⟩
    · obtain ⟨a1, a2, a3⟩ := H.dom k x hk
      exact ⟨a1, a2, by simp; omega⟩
  · unfold radd at hk hk'
    split at hk <;> split at hk'
    · subst_vars; rfl
    · cases hk
      have := (H.dom k' x' hk').2.2
      simp only at hx; omega
    · cases hk'
      have := (H.dom k x hk).2.2
      simp only at hx; omega
    · exact H.inj k k' x x' o1 o2 hk hk' h1 h2 d1 d2 hx
  · unfold radd at hk
    split at hk
    · subst_vars
      cases hk
      rw [hg] at hg'; cases hg'
      rw [World.alloc_heap_new]
      exact hO
    · have := H.obj k x o' hk hg'
      have hlt := (H.dom k x hk).2.2
      rw [Below.heap_alloc _ _ _ hlt]
      exact this.mono hle
/-- A slot that has no block yet. -/
theorem HR.ghost (H : HR w0 ρ h w) (o : AObj) : HR w0 ρ (h.add o) w := by
  have hf := H.fresh
  refine ⟨H.os, H.tape, H.output, H.size, H.frame, fun k x hk => ?_, fun k o' hk => ?_, fun k k' x x' o1 o2 hk hk' h1 h2 => ?_, fun k x o' hk hg => ?_⟩
  · obtain ⟨a1, a2⟩ := H.dom k x hk
    exact ⟨Nat.lt_succ_of_lt a1, a2⟩
  · rw [Hp.get_add] at hk
    split at hk
    · subst_vars; exact Nat.lt_succ_self _
    · exact Nat.lt_succ_of_lt (H.live k o' hk)
  · have n1 : k ≠ h.next := fun e => by subst e; rw [hf] at hk; cases hk
    have n2 : k' ≠ h.next := fun e => by subst e; rw [hf] at hk'; cases hk'
    rw [Hp.get_add, if_neg n1] at h1
    rw [Hp.get_add, if_neg n2] at h2
    exact H.inj k k' x x' o1 o2 hk hk' h1 h2
  · have n1 : k ≠ h.next := fun e => by subst e; rw [hf] at hk; cases hk
    rw [Hp.get_add, if_neg n1] at hg
    exact H.obj k x o' hk hg
theorem Keep.ghost_add (H : HR w0 ρ h w) (o : AObj) : Keep ρ h ρ (h.add o) :=
  ⟨RLe.refl _, Nat.le_succ _, rfl, fun s hs _ => by rw [Hp.get_add, if_neg (Nat.ne_of_lt hs)], fun _ _ h => h⟩
theorem HR.add (H : HR w0 ρ h w) {r : Obj} {N : Nat} {o : AObj} (hO : OR (PAll w0) (radd ρ h.next (w.heap.size, N)) (w.heap.size, N) (some r) o) :
    HR w0 (radd ρ h.next (w.heap.size, N)) (h.add o) (w.alloc r) ∧ Keep ρ h (radd ρ h.next (w.heap.size, N)) (h.add o) := by
  refine ⟨(H.ghost o).fill H.fresh (Nat.lt_succ_self _) (by rw [Hp.get_add, if_pos rfl]) hO, radd_le H.fresh, Nat.le_succ _, rfl, fun s hs _ => by rw [Hp.get_add, if_neg (Nat.ne_of_lt hs)], fun s hs hn => ?_⟩
  unfold radd; rw [if_neg (Nat.ne_of_lt hs)]; exact hn
/-- A slot is written. -/
theorem HR.put (H : HR w0 ρ h w) {s : Nat} {x : Nat × Nat} {o0 o : AObj} {r : Obj} (hs : ρ s = some x) (hg : h.get s = some o0) (hd : isDead o0 = false) (hO : OR (PAll w0) ρ x (some r) o) (hl : Hp.memN h.locks s = false) :
    HR w0 ρ (h.put' s o) (w.putObj x.1 r) ∧ Keep ρ h ρ (h.put' s o) := by
  obtain ⟨a1, a2, a3⟩ := H.dom s x hs
  refine ⟨⟨H.os, H.tape, H.output, by rw [World.putObj_size]; exact H.size, fun k hk => ?_, fun k y hk => ?_, fun k o' hk => ?_, fun k k' y y' o1 o2 hk hk' h1 h2 d1 d2 hy => ?_, fun k y o' hk hgk => ?_⟩, RLe.refl _, Nat.le_refl _, rfl, fun k hk hh => ?_, fun _ _ hh => hh⟩
  · rw [World.putObj_heap_other (by omega)]; exact H.frame k hk
  · rw [World.putObj_size]; exact H.dom k y hk
  · rw [Hp.get_put] at hk
    split at hk
    · subst_vars; exact a1
    · exact H.live k o' hk
  · have g : ∀ {j : Nat} {oj : AObj}, (h.put' s o).get j = some oj → isDead oj = false → ∃ oj', h.get j = some oj' ∧ isDead oj' = false := by
      intro j oj hj hdj
      rw [Hp.get_put] at hj
      split at hj
      · subst_vars; exact ⟨o0, hg, hd⟩
      · exact ⟨oj, hj, hdj⟩
    obtain ⟨p1, q1, q2⟩ := g h1 d1
    obtain ⟨p2, q3, q4⟩ := g h2 d2
    exact H.inj k k' y y' p1 p2 hk hk' q1 q3 q2 q4 hy
  · rw [Hp.get_put] at hgk
    split at hgk
    · subst_vars
      rw [hs] at hk; cases hk; cases hgk
      rw [World.putObj_heap_same a3]; exact hO
    · rename_i hne
      cases hdk : isDead o' with
      | true => cases o' <;> first | (cases hdk; done) | trivial
      | false =>
        have hne' : y.1 ≠ x.1 := fun e => hne (H.inj k s y x o' o0 hk hs hgk hg hdk hd e)
        rw [World.putObj_heap_other hne']
        exact H.obj k y o' hk hgk
  · rw [Hp.get_put]
    split
    · subst_vars
      rcases hh with hh | hh
      · rw [hs] at hh; cases hh
      · rw [hl] at hh; cases hh
    · rfl
/-- A slot that nobody asks any more. -/
theorem HR.kill (H : HR w0 ρ h w) {s : Nat} {x : Nat × Nat} (hs : ρ s = some x) (hl : Hp.memN h.locks s = false) : HR w0 ρ (h.put' s .dead) w ∧ Keep ρ h ρ (h.put' s .dead) := by
  obtain ⟨a1, a2, a3⟩ := H.dom s x hs
  refine ⟨⟨H.os, H.tape, H.output, H.size, H.frame, H.dom, fun k o' hk => ?_, fun k k' y y' o1 o2 hk hk' h1 h2 d1 d2 hy => ?_, fun k y o' hk hgk => ?_⟩, RLe.refl _, Nat.le_refl _, rfl, fun k hk hh => ?_, fun _ _ hh => hh⟩
  · rw [Hp.get_put] at hk
    split at hk
    · subst_vars; exact a1
    · exact H.live k o' hk
  · rw [Hp.get_put] at h1 h2
    split at h1
    · cases h1; cases d1
    · split at h2
      · cases h2; cases d2
      · exact H.inj k k' y y' o1 o2 hk hk' h1 h2 d1 d2 hy
  · rw [Hp.get_put] at hgk
    split at hgk
    · cases hgk; trivial
    · exact H.obj k y o' hk hgk
  · rw [Hp.get_put]
    split
    · subst_vars
      rcases hh with hh | hh
      · rw [hs] at hh; cases hh
      · rw [hl] at hh; cases hh
    · rfl
/-- What was in one slot is in a new one, grown. -/
theorem HR.move (H : HR w0 ρ h w) {s : Nat} {x : Nat × Nat} {o0 o : AObj} {r : Obj} (hs : ρ s = some x) (hg : h.get s = some o0) (hd : isDead o0 = false) (hO : OR (PAll w0) (radd ρ h.next x) x (some r) o) (hl : Hp.memN h.locks s = false) :
    HR w0 (radd ρ h.next x) ((h.put' s .dead).add o) (w.putObj x.1 r) ∧ Keep ρ h (radd ρ h.next x) ((h.put' s .dead).add o) := by
  obtain ⟨a1, a2, a3⟩ := H.dom s x hs
  have hf := H.fresh
  have gets : ∀ k, ((h.put' s .dead).add o).get k = if k = h.next then some o else if k = s then some .dead else h.get k := fun k => by
    rw [Hp.get_add, Hp.get_put]; rfl
  have hsn : s ≠ h.next := Nat.ne_of_lt a1
  refine ⟨⟨H.os, H.tape, H.output, by rw [World.putObj_size]; exact H.size, fun k hk => ?_, fun k y hk => ?_, fun k o' hk => ?_, fun k k' y y' o1 o2 hk hk' h1 h2 d1 d2 hy => ?_, fun k y o' hk hgk => ?_⟩, radd_le hf, Nat.le_succ _, rfl, fun k hk hh => ?_, fun k hk hh => ?_⟩
  · rw [World.putObj_heap_other (by omega)]; exact H.frame k hk
  · rw [World.putObj_size]
    unfold radd at hk
    split at hk
    · subst_vars; cases hk; exact ⟨Nat.lt_succ_self _, a2, a3⟩
    · obtain ⟨b1, b2, b3⟩ := H.dom k y hk
      exact ⟨Nat.lt_succ_of_lt b1, b2, b3⟩
  · rw [gets] at hk
    split at hk
    · subst_vars; exact Nat.lt_succ_self _
    · split at hk
      · subst_vars; exact Nat.lt_succ_of_lt a1
      · exact Nat.lt_succ_of_lt (H.live k o' hk)
  · rw [gets] at h1 h2
    unfold radd at hk hk'
    by_cases e1 : k = h.next <;> by_cases e2 : k' = h.next
    · rw [e1, e2]
    · rw [if_pos e1] at hk; cases hk
      rw [if_neg e2] at hk' h2
      split at h2
      · cases h2; cases d2
      · rename_i hne
        exact absurd (H.inj k' s y' x o2 o0 hk' hs h2 hg d2 hd hy.symm) hne
    · rw [if_pos e2] at hk'; cases hk'
      rw [if_neg e1] at hk h1
      split at h1
      · cases h1; cases d1
      · rename_i hne
        exact absurd (H.inj k s y x o1 o0 hk hs h1 hg d1 hd hy) hne
    · rw [if_neg e1] at hk h1
      rw [if_neg e2] at hk' h2
      split at h1
      · cases h1; cases d1
      · split at h2
        · cases h2; cases d2
        · exact H.inj k k' y y' o1 o2 hk hk' h1 h2 d1 d2 hy
  · rw [gets] at hgk
    unfold radd at hk
    by_cases e1 : k = h.next
    · rw [if_pos e1] at hk hgk
      cases hk; cases hgk
      rw [World.putObj_heap_same a3]; exact hO
    · rw [if_neg e1] at hk hgk
      split at hgk
      · cases hgk; trivial
      · rename_i hne
        cases hdk : isDead o' with
        | true => cases o' <;> first | (cases hdk; done) | trivial
        | false =>
          have hne' : y.1 ≠ x.1 := fun e => hne (H.inj k s y x o' o0 hk hs hgk hg hdk hd e)
          rw [World.putObj_heap_other hne']
          exact (H.obj k y o' hk hgk).mono (radd_le hf)
  · rw [gets, if_neg (Nat.ne_of_lt hk)]
    split
    · subst_vars
      rcases hh with hh | hh
      · rw [hs] at hh; cases hh
      · rw [hl] at hh; cases hh
    · rfl
  · unfold radd; rw [if_neg (Nat.ne_of_lt hk)]; exact hh
end mem
/-- A state that is told of: its value, its world. -/
def Good (w0 : World) (ρ : Rho) (h : Hp) (K : AV → Hp → Bool) (v : Value) (w' : World) : Prop := ∃ ρ' a h', Keep ρ h ρ' h' ∧ VR (PAll w0) a ρ' v ∧ HR w0 ρ' h' w' ∧ K a h' = true
end Go.Proofs.YtjpkccofeafkbaaGreat.Pvx
