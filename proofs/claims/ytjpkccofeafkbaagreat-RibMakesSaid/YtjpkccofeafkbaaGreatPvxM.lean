/- Memory: pieces of a heap, known to the object; what a call may turn; how data stand in cells. Over any program. -/
import Derived.Test.YtjpkccofeafkbaaGreatPvxB
import Derived.RangeFuncRecord
set_option linter.unusedSimpArgs false
namespace Go.Proofs.YtjpkccofeafkbaaGreat.Pvx
open Go.RowKit
set_option linter.unusedVariables false

abbrev PHeap := Nat → Option Obj
def PLe (σ τ : PHeap) : Prop := ∀ b o, σ b = some o → τ b = some o
def POn (σ : PHeap) (w : World) : Prop := ∀ b o, σ b = some o → w.heap[b]? = some o
def single (b : Nat) (o : Obj) : PHeap := fun k => if k = b then some o else none
def pnone : PHeap := fun _ => none
def por (σ τ : PHeap) : PHeap := fun b => (σ b).or (τ b)
def PDis (σ τ : PHeap) : Prop := ∀ b, σ b = none ∨ τ b = none
def PAll (w : World) : PHeap := fun b => w.heap[b]?

theorem PLe.refl (σ : PHeap) : PLe σ σ := fun _ _ h => h
theorem PLe.trans {a b c : PHeap} (h : PLe a b) (k : PLe b c) : PLe a c := fun _ _ x => k _ _ (h _ _ x)
theorem PLe.on {σ τ : PHeap} {w : World} (h : PLe σ τ) (k : POn τ w) : POn σ w := fun _ _ x => k _ _ (h _ _ x)
theorem POn.all {σ : PHeap} {w : World} (h : POn σ w) : PLe σ (PAll w) := h
theorem PAll.on (w : World) : POn (PAll w) w := fun _ _ h => h
theorem pnone_le (σ : PHeap) : PLe pnone σ := fun _ _ h => by cases h
theorem pnone_on (w : World) : POn pnone w := fun _ _ h => by cases h
theorem le_por_left (σ τ : PHeap) : PLe σ (por σ τ) := fun b o h => by simp [por, h]
theorem le_por_right {σ τ : PHeap} (h : PDis σ τ) : PLe τ (por σ τ) := fun b o ht => by
  rcases h b with h | h
  · simp [por, h, ht]
  · rw [h] at ht; cases ht
theorem por_le {σ τ ρ : PHeap} (h : PLe σ ρ) (k : PLe τ ρ) : PLe (por σ τ) ρ := fun b o x => by
  cases hs : σ b with
  | none => simp only [por, hs, Option.none_or] at x; exact k _ _ x
  | some y => simp only [por, hs, Option.some_or, Option.some.injEq] at x; subst x; exact h _ _ hs
theorem por_on {σ τ : PHeap} {w : World} (h : POn σ w) (k : POn τ w) : POn (por σ τ) w := fun b o x => por_le h.all k.all b o x
theorem single_same (b : Nat) (o : Obj) : single b o b = some o := by simp [single]
theorem single_some {b k : Nat} {o o' : Obj} (h : single b o k = some o') : k = b ∧ o' = o := by
  unfold single at h; split at h
  · exact ⟨by assumption, by cases h; rfl⟩
  · cases h
theorem single_on {b : Nat} {o : Obj} {w : World} (h : w.heap[b]? = some o) : POn (single b o) w := fun k o' hk => by
  obtain ⟨rfl, rfl⟩ := single_some hk; exact h
theorem PDis.symm {σ τ : PHeap} (h : PDis σ τ) : PDis τ σ := fun b => (h b).symm
theorem POn.lt {σ : PHeap} {w : World} (h : POn σ w) {b : Nat} {o : Obj} (hb : σ b = some o) : b < w.heap.size := (Array.getElem?_eq_some_iff.1 (h b o hb)).1
theorem POn.below {σ : PHeap} {w w' : World} (h : POn σ w) (k : Below w.heap.size w w') : POn σ w' := fun b o hb => (k.block b (h.lt hb)).trans (h b o hb)

/-- Where a call began: the world, what is read alone, what it may turn. -/
structure Ent where
  w : World
  σ : PHeap
  F : Nat → Prop
/-- How it stands within a call: σ is read alone; each of rs is the call's own; all else that was there is as it was. -/
structure Inv (E : Ent) (σ : PHeap) (rs : List PHeap) (w : World) : Prop where
  os : w.os = E.w.os
  tape : w.tape = E.w.tape
  output : w.output = E.w.output
  size : E.w.heap.size ≤ w.heap.size
  frame : ∀ k, k < E.w.heap.size → ¬ E.F k → w.heap[k]? = E.w.heap[k]?
  up : PLe E.σ σ
  org : ∀ b o, σ b = some o → E.σ b ≠ none ∨ E.F b ∨ E.w.heap.size ≤ b
  ro : POn σ w
  rw : ∀ h ∈ rs, POn h w
  mine : ∀ h ∈ rs, ∀ b o, h b = some o → E.F b ∨ E.w.heap.size ≤ b
  dis : rs.Pairwise PDis
  disσ : ∀ h ∈ rs, PDis σ h

section inv
variable {E : Ent} {σ : PHeap} {rs rs' : List PHeap} {w w' : World}
theorem Inv.start {σ : PHeap} (w : World) (h : POn σ w) : Inv ⟨w, σ, fun _ => False⟩ σ [] w :=
  ⟨rfl, rfl, rfl, Nat.le_refl _, fun _ _ _ => rfl, PLe.refl _, fun b o h => .inl (by simp [h]), h, by simp, by simp, .nil, by simp⟩
/-- What lies in some pieces. -/
def foot (rs : List PHeap) (b : Nat) : Prop := ∃ h ∈ rs, ∃ o, h b = some o
/-- A call is handed some of the pieces. -/
theorem Inv.enter (ρs : List PHeap) (H : Inv E σ (ρs ++ rs) w) : Inv ⟨w, σ, foot ρs⟩ σ ρs w :=
  ⟨rfl, rfl, rfl, Nat.le_refl _, fun _ _ _ => rfl, PLe.refl _, fun b o h => .inl (by simp [h]), H.ro, fun h hh => H.rw h (by simp [hh]),
    fun h hh b o hb => .inl ⟨h, hh, o, hb⟩, (List.pairwise_append.1 H.dis).1, fun h hh => H.disσ h (by simp [hh])⟩
/-- .. and hands back what it has made of them. -/
theorem Inv.leave {ρs ρs' : List PHeap} {σ' : PHeap} (H : Inv E σ (ρs ++ rs) w) (K : Inv ⟨w, σ, foot ρs⟩ σ' ρs' w') : Inv E σ' (ρs' ++ rs) w' := by
  have kept : ∀ h ∈ rs, ∀ b o, h b = some o → ¬ foot ρs b ∧ b < w.heap.size ∧ σ b = none := fun h hh b o hb => by
    refine ⟨fun ⟨g, hg, o', ho'⟩ => ?_, (H.rw h (by simp [hh])).lt hb, ?_⟩
    · rcases (List.pairwise_append.1 H.dis).2.2 g hg h hh b with h1 | h1
      · rw [h1] at ho'; cases ho'
      · rw [h1] at hb; cases hb
    · rcases H.disσ h (by simp [hh]) b with h1 | h1
      · exact h1
      · rw [h1] at hb; cases hb
  refine ⟨K.os.trans H.os, K.tape.trans H.tape, K.output.trans H.output, Nat.le_trans H.size K.size, fun k hk hF => ?_, H.up.trans K.up, fun b o hb => ?_, K.ro, ?_, ?_, ?_, ?_⟩
  · refine (K.frame k (Nat.lt_of_lt_of_le hk H.size) fun ⟨g, hg, o, ho⟩ => ?_).trans (H.frame k hk hF)
    rcases H.mine g (by simp [hg]) k o ho with h1 | h1
    · exact hF h1
    · omega
  · rcases K.org b o hb with h1 | ⟨g, hg, o', ho'⟩ | h1
    · cases hs : σ b with
      | none => exact absurd hs h1
      | some x => exact H.org b x hs
    · exact .inr (H.mine g (by simp [hg]) b o' ho')
    · exact .inr (.inr (Nat.le_trans H.size h1))
  · intro h hh
    rcases List.mem_append.1 hh with hh | hh
    · exact K.rw h hh
    · intro b o hb
      obtain ⟨h1, h2, _⟩ := kept h hh b o hb
      exact (K.frame b h2 h1).trans (H.rw h (by simp [hh]) b o hb)
  · intro h hh b o hb
    rcases List.mem_append.1 hh with hh | hh
    · rcases K.mine h hh b o hb with ⟨g, hg, o', ho'⟩ | h1
      · exact H.mine g (by simp [hg]) b o' ho'
      · exact .inr (Nat.le_trans H.size h1)
    · exact H.mine h (by simp [hh]) b o hb
  · refine List.pairwise_append.2 ⟨K.dis, (List.pairwise_append.1 H.dis).2.1, fun g hg h hh b => ?_⟩
    cases hb : h b with
    | none => exact .inr rfl
    | some o =>
      obtain ⟨h1, h2, _⟩ := kept h hh b o hb
      cases hgb : g b with
      | none => exact .inl rfl
      | some o' =>
        rcases K.mine g hg b o' hgb with h3 | h3
        · exact absurd h3 h1
        · simp only at h3; omega
  · intro h hh
    rcases List.mem_append.1 hh with hh | hh
    · exact K.disσ h hh
    · intro b
      cases hb : h b with
      | none => exact .inr rfl
      | some o =>
        obtain ⟨h1, h2, h3⟩ := kept h hh b o hb
        cases hs : σ' b with
        | none => exact .inl rfl
        | some o' =>
          rcases K.org b o' hs with h4 | h4 | h4
          · exact absurd h3 h4
          · exact absurd h4 h1
          · simp only at h4; omega
theorem Inv.drew (H : Inv E σ rs w) : Inv E σ rs w.drew := ⟨H.os, H.tape, H.output, H.size, H.frame, H.up, H.org, H.ro, H.rw, H.mine, H.dis, H.disσ⟩
theorem Inv.perm (H : Inv E σ rs w) (h : rs.Perm rs') : Inv E σ rs' w :=
  ⟨H.os, H.tape, H.output, H.size, H.frame, H.up, H.org, H.ro, fun x hx => H.rw x (h.mem_iff.2 hx), fun x hx => H.mine x (h.mem_iff.2 hx), H.dis.perm h (fun hd => hd.symm), fun x hx => H.disσ x (h.mem_iff.2 hx)⟩
theorem Inv.sub (H : Inv E σ rs w) (h : rs'.Sublist rs) : Inv E σ rs' w :=
  ⟨H.os, H.tape, H.output, H.size, H.frame, H.up, H.org, H.ro, fun x hx => H.rw x (h.subset hx), fun x hx => H.mine x (h.subset hx), H.dis.sublist h, fun x hx => H.disσ x (h.subset hx)⟩
theorem Inv.below (H : Inv E σ rs w) (h : Below w.heap.size w w') : Inv E σ rs w' :=
  ⟨h.os.trans H.os, h.tape.trans H.tape, h.output.trans H.output, Nat.le_trans H.size h.size, fun k hk hF => (h.block k (Nat.lt_of_lt_of_le hk H.size)).trans (H.frame k hk hF), H.up, H.org, H.ro.below h,
    fun x hx => (H.rw x hx).below h, H.mine, H.dis, H.disσ⟩
/-- A new block. -/
theorem Inv.alloc (H : Inv E σ rs w) (o : Obj) : Inv E σ (single w.heap.size o :: rs) (w.alloc o) := by
  have hb : Below w.heap.size w (w.alloc o) := ⟨rfl, rfl, rfl, by simp, fun k hk => Below.heap_alloc _ _ _ hk⟩
  have K := H.below hb
  have new : ∀ {τ : PHeap}, POn τ w → PDis τ (single w.heap.size o) := fun {τ} ht b => by
    cases hx : τ b with
    | none => exact .inl rfl
    | some x =>
      have := ht.lt hx
      refine .inr ?_
      unfold single; rw [if_neg (by omega)]
  refine ⟨K.os, K.tape, K.output, K.size, K.frame, K.up, K.org, K.ro, ?_, ?_, ?_, ?_⟩
  · intro h hh
    rcases List.mem_cons.1 hh with rfl | hh
    · exact single_on (World.alloc_heap_new w o)
    · exact K.rw h hh
  · intro h hh b x hx
    rcases List.mem_cons.1 hh with rfl | hh
    · obtain ⟨rfl, -⟩ := single_some hx; exact .inr H.size
    · exact K.mine h hh b x hx
  · exact List.pairwise_cons.2 ⟨fun h hh => (new (H.rw h hh)).symm, H.dis⟩
  · intro h hh
    rcases List.mem_cons.1 hh with rfl | hh
    · exact new H.ro
    · exact H.disσ h hh
/-- One of the own blocks is written. -/
theorem Inv.put {b : Nat} {o : Obj} (o' : Obj) (H : Inv E σ (single b o :: rs) w) : Inv E σ (single b o' :: rs) (w.putObj b o') := by
  have hlt : b < w.heap.size := (H.rw _ (by simp)).lt (single_same b o)
  have far : ∀ {τ : PHeap}, PDis τ (single b o) → POn τ w → POn τ (w.putObj b o') := fun {τ} hd ht k x hx => by
    have hne : k ≠ b := fun e => by
      subst e
      rcases hd k with h1 | h1
      · rw [h1] at hx; cases hx
      · rw [single_same] at h1; cases h1
    rw [World.putObj_heap_other hne]; exact ht k x hx
  have dis' : ∀ {τ : PHeap}, PDis τ (single b o) → PDis τ (single b o') := fun {τ} hd k => by
    rcases hd k with h1 | h1
    · exact .inl h1
    · refine .inr ?_
      unfold single at *
      split
      · rename_i hk; rw [if_pos hk] at h1; cases h1
      · rfl
  have hp := List.pairwise_cons.1 H.dis
  refine ⟨H.os, H.tape, H.output, by rw [World.putObj_size]; exact H.size, fun k hk hF => ?_, H.up, H.org, far (H.disσ _ (by simp)) H.ro, ?_, ?_, ?_, ?_⟩
  · have hne : k ≠ b := fun e => by
      subst e
      rcases H.mine _ (by simp) k o (single_same k o) with h1 | h1
      · exact hF h1
      · omega
    rw [World.putObj_heap_other hne]; exact H.frame k hk hF
  · intro h hh
    rcases List.mem_cons.1 hh with rfl | hh
    · exact single_on (World.putObj_heap_same hlt)
    · exact far (hp.1 h hh).symm (H.rw h (by simp [hh]))
  · intro h hh k x hx
    rcases List.mem_cons.1 hh with rfl | hh
    · obtain ⟨rfl, -⟩ := single_some hx; exact H.mine _ (by simp) k o (single_same k o)
    · exact H.mine h (by simp [hh]) k x hx
  · exact List.pairwise_cons.2 ⟨fun h hh => (dis' (hp.1 h hh).symm).symm, hp.2⟩
  · intro h hh
    rcases List.mem_cons.1 hh with rfl | hh
    · exact dis' (H.disσ _ (by simp))
    · exact H.disσ h (by simp [hh])
/-- What was the call's own is read alone from now on. -/
theorem Inv.freeze {φ : PHeap} (H : Inv E σ (φ :: rs) w) : Inv E (por σ φ) rs w := by
  have hp := List.pairwise_cons.1 H.dis
  refine ⟨H.os, H.tape, H.output, H.size, H.frame, H.up.trans (le_por_left _ _), fun b o hb => ?_, por_on H.ro (H.rw _ (by simp)), fun h hh => H.rw h (by simp [hh]), fun h hh => H.mine h (by simp [hh]), hp.2, fun h hh b => ?_⟩
  · cases hs : σ b with
    | some x => exact H.org b x hs
    | none =>
      simp only [por, hs, Option.none_or] at hb
      exact .inr (H.mine φ (by simp) b o hb)
  · rcases H.disσ h (by simp [hh]) b with h1 | h1
    · rcases hp.1 h hh b with h2 | h2
      · exact .inl (by simp [por, h1, h2])
      · exact .inr h2
    · exact .inr h1
theorem Inv.freeze_right {φ : PHeap} (H : Inv E σ (φ :: rs) w) : PLe φ (por σ φ) := le_por_right (H.disσ φ (by simp))
/-- All that was there is as it was, if nothing of it was the call's to turn. -/
theorem Inv.toBelow {w0 : World} {σ0 : PHeap} (H : Inv ⟨w0, σ0, fun _ => False⟩ σ rs w) : Below w0.heap.size w0 w := ⟨H.os, H.tape, H.output, H.size, fun k hk => H.frame k hk (fun h => h)⟩
theorem foot_nil (b : Nat) : foot [] b ↔ False := by simp [foot]
end inv

/-! ### Cells -/
/-- From address a on there lie these values. -/
def RowAt (σ : PHeap) (a : Addr) (cs : List Value) : Prop := a.spot = none ∧ ∃ c t fr, σ a.block = some (.cells c t fr) ∧ (c.toList.drop a.off).take cs.length = cs
theorem RowAt.mono {σ τ : PHeap} {a : Addr} {cs : List Value} (h : RowAt σ a cs) (k : PLe σ τ) : RowAt τ a cs := let ⟨h0, c, t, fr, h1, h2⟩ := h; ⟨h0, c, t, fr, k _ _ h1, h2⟩
theorem RowAt.cell {σ : PHeap} {w : World} {a : Addr} {cs : List Value} (h : RowAt σ a cs) (k : POn σ w) (j : Nat) (v : Value) (hj : cs[j]? = some v) : w.cell? ⟨a.block, a.off + j, none⟩ = some v := by
  obtain ⟨h0, c, t, fr, h1, h2⟩ := h
  simp only [World.cell?, k _ _ h1, Option.isSome_none, Bool.false_eq_true, if_false]
  have hlt : j < cs.length := (List.getElem?_eq_some_iff.1 hj).1
  rw [← h2, List.getElem?_take, if_pos hlt, List.getElem?_drop] at hj
  simpa using hj
theorem addr_add (a : Addr) (h : a.spot = none) (n : Nat) : a.add n = ⟨a.block, a.off + n, none⟩ := by
  unfold Addr.add; split
  · subst_vars; cases a; simp_all
  · simp
theorem RowAt.part {σ : PHeap} {a : Addr} {cs : List Value} (h : RowAt σ a cs) (f k : Nat) (hk : f + k ≤ cs.length) : RowAt σ (a.add f) ((cs.drop f).take k) := by
  obtain ⟨h0, c, t, fr, h1, h2⟩ := h
  rw [addr_add a h0]
  refine ⟨rfl, c, t, fr, h1, ?_⟩
  have hl : ((cs.drop f).take k).length = k := by simp; omega
  rw [hl]
  have h3 : cs.drop f = (c.toList.drop (a.off + f)).take (cs.length - f) := by
    conv => lhs; rw [← h2]
    rw [List.drop_take, List.drop_drop]
  rw [h3, List.take_take]
  congr 1
  omega
end Go.Proofs.YtjpkccofeafkbaaGreat.Pvx
