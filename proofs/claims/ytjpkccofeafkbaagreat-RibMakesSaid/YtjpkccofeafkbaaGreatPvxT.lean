/- Steps that make or write; calls; what a function hands back; loops and joins. Over any program. -/
import Derived.Test.YtjpkccofeafkbaaGreatPvxS
set_option linter.unusedSimpArgs false
namespace Go.Proofs.YtjpkccofeafkbaaGreat.Pvx
open Go.RowKit
set_option linter.unusedVariables false

/-! ### Pieces by their place -/
theorem perm_idx {α : Type} : ∀ (l : List α) (i : Nat) (x : α), l[i]? = some x → l.Perm (x :: l.eraseIdx i)
  | [], i, x, h => by simp at h
  | a :: l, 0, x, h => by simp at h; subst h; simp
  | a :: l, i + 1, x, h => by
    simp only [List.getElem?_cons_succ] at h
    simp only [List.eraseIdx_cons_succ]
    exact ((perm_idx l i x h).cons a).trans (.swap _ _ _)
theorem perm_set {α : Type} : ∀ (l : List α) (i : Nat) (x y : α), l[i]? = some x → (y :: l.eraseIdx i).Perm (l.set i y)
  | [], i, x, y, h => by simp at h
  | a :: l, 0, x, y, h => by simp
  | a :: l, i + 1, x, y, h => by
    simp only [List.getElem?_cons_succ] at h
    simp only [List.eraseIdx_cons_succ, List.set_cons_succ]
    exact (List.Perm.swap _ _ _).trans ((perm_set l i x y h).cons a)
def keep {α : Type} (l : List α) : List Nat → List α
  | [] => []
  | i :: is => match l[i]? with
    | some x => x :: keep l is
    | none => keep l is
theorem keep_sub {α : Type} : ∀ (l : List α) (is : List Nat) (b : Nat), (∀ i ∈ is, b ≤ i) → is.Pairwise (· < ·) → (keep l is).Sublist (l.drop b)
  | l, [], b, _, _ => List.nil_sublist _
  | l, i :: is, b, hb, hp => by
    have hp' := List.pairwise_cons.1 hp
    have ih := keep_sub l is (i + 1) (fun j hj => hp'.1 j hj) hp'.2
    unfold keep
    cases hx : l[i]? with
    | none =>
      simp only
      refine ih.trans ?_
      exact (List.drop_sublist_drop_left l (by have := hb i (by simp); omega))
    | some x =>
      simp only
      have : l.drop i = x :: l.drop (i + 1) := by
        obtain ⟨hlt, he⟩ := List.getElem?_eq_some_iff.1 hx
        rw [List.drop_eq_getElem_cons hlt, he]
      refine ((ih.cons_cons x).trans ?_)
      rw [← this]
      exact (List.drop_sublist_drop_left l (hb i (by simp)))
section inv
variable {E : Ent} {σ : PHeap} {rs : List PHeap} {w : World}
theorem Inv.at_ (H : Inv E σ rs w) (i : Nat) {h : PHeap} (hi : rs[i]? = some h) : POn h w := H.rw h (List.mem_of_getElem? hi)
theorem Inv.atσ (H : Inv E σ rs w) (i : Nat) {h : PHeap} (hi : rs[i]? = some h) : PDis σ h := H.disσ h (List.mem_of_getElem? hi)
theorem Inv.keep (H : Inv E σ rs w) (is : List Nat) (h : is.Pairwise (· < ·) := by decide) : Inv E σ (keep rs is) w := H.sub (by simpa using keep_sub rs is 0 (by simp) h)
theorem Inv.putAt {b : Nat} {o : Obj} (o' : Obj) (H : Inv E σ rs w) (i : Nat) (hi : rs[i]? = some (single b o)) : Inv E σ (rs.set i (single b o')) (w.putObj b o') :=
  ((H.perm (perm_idx rs i _ hi)).put o').perm (perm_set rs i _ _ hi)
theorem Inv.freezeAt {φ : PHeap} (H : Inv E σ rs w) (i : Nat) (hi : rs[i]? = some φ) : Inv E (por σ φ) (rs.eraseIdx i) w := (H.perm (perm_idx rs i _ hi)).freeze
theorem Inv.addNone (H : Inv E σ rs w) : Inv E σ (pnone :: rs) w :=
  ⟨H.os, H.tape, H.output, H.size, H.frame, H.up, H.org, H.ro, fun h hh => by rcases List.mem_cons.1 hh with rfl | hh; exact pnone_on w; exact H.rw h hh,
    fun h hh b o hb => by rcases List.mem_cons.1 hh with rfl | hh; cases hb; exact H.mine h hh b o hb, List.pairwise_cons.2 ⟨fun _ _ _ => .inl rfl, H.dis⟩, fun h hh => by rcases List.mem_cons.1 hh with rfl | hh; exact fun _ => .inr rfl; exact H.disσ h hh⟩
/-- Less may be told of what is read alone. -/
theorem Inv.down {τ : PHeap} (H : Inv E σ rs w) (h1 : PLe E.σ τ) (h2 : PLe τ σ) : Inv E τ rs w :=
  ⟨H.os, H.tape, H.output, H.size, H.frame, h1, fun b o hb => H.org b o (h2 _ _ hb), h2.on H.ro, H.rw, H.mine, H.dis, fun h hh b => by
    rcases H.disσ h hh b with h3 | h3
    · cases hb : τ b with
      | none => exact .inl rfl
      | some o => rw [h2 _ _ hb] at h3; cases h3
    · exact .inr h3⟩
end inv

/-! ### Steps that make or write -/
section steps
variable {P : Program} {ops rest : List Oper} {e : Env} {w : World} {K : Env → World → Prop} {d : Nat} {ty : TypeId} {pos : String} {af : Array Edge} {gd : Option (Nat × Bool)} {E : Ent} {σ : PHeap} {rs : List PHeap}
theorem s_alloc {t : TypeId} {agg : Bool} {z : List Value} {by_ : Nat} (hw : Region.wanted ⟨some d, .alloc t, ty, pos, af, gd⟩ (yieldedE ops e) = true) (H : Inv E σ rs w) (ht : TI P t agg z by_)
    (h : ∀ b w', Inv E σ (single b (.cells z.toArray t) :: rs) w' → seqE P ops rest (upd e d (.pointer (some ⟨b, 0, none⟩))) w' K) : seqE P ops (⟨some d, .alloc t, ty, pos, af, gd⟩ :: rest) e w K := by
  refine s_v hw _ _ ?_ (h _ _ (H.alloc _))
  simp [execOp, Instr.alloc, ht.zero, newVar, newRow, cells_valOf ht.one ht.cells]
theorem s_box {t : TypeId} {x : Operand} {v : Value} (hw : Region.wanted ⟨some d, .box t x, ty, pos, af, gd⟩ (yieldedE ops e) = true) (cs : List Value) (H : Inv E σ rs w) (hx : evalE e x = v) (hc : v.cells = cs.toArray)
    (h : ∀ b w', Inv E σ (single b (.cells cs.toArray t) :: rs) w' → seqE P ops rest (upd e d (.pointer (some ⟨b, 0, none⟩))) w' K) : seqE P ops (⟨some d, .box t x, ty, pos, af, gd⟩ :: rest) e w K := by
  refine s_v hw _ _ ?_ (h _ _ (H.alloc _))
  simp [execOp, Instr.box, newVar, newRow, hx, hc]
theorem s_makeMap {t : TypeId} (hw : Region.wanted ⟨some d, .makeMap t none, ty, pos, af, gd⟩ (yieldedE ops e) = true) (H : Inv E σ rs w)
    (h : ∀ b w', Inv E σ (single b (.map #[] 0) :: rs) w' → seqE P ops rest (upd e d (.map (some b))) w' K) : seqE P ops (⟨some d, .makeMap t none, ty, pos, af, gd⟩ :: rest) e w K := by
  refine s_v hw _ _ ?_ (h _ _ (H.alloc _))
  simp [execOp, Instr.makeMap]
/-- A store into a variable of the call's own. -/
theorem s_store {t : TypeId} {agg : Bool} {z : List Value} {by_ b f i : Nat} {bt : TypeId} {x y : Operand} {v : Value} {cs : List Value} (hw : Region.wanted ⟨none, .store t x y, ty, pos, af, gd⟩ (yieldedE ops e) = true) (cs' : List Value) (H : Inv E σ rs w) (ht : TI P t agg z by_) (hx : evalE e x = .pointer (some ⟨b, f, none⟩)) (hy : evalE e y = v)
    (hi : rs[i]? = some (single b (.cells cs.toArray bt))) (hv : v.cells.size = z.length) (h1 : ∀ u ∈ v.cells.toList, u.oneCell' = true) (hl : Nat.ble (f + z.length) cs.length = true)
    (hc : cs.take f ++ v.cells.toList ++ cs.drop (f + z.length) = cs')
    (h : ∀ w', Inv E σ (rs.set i (single b (.cells cs'.toArray bt))) w' → seqE P ops rest e w' K) : seqE P ops (⟨none, .store t x y, ty, pos, af, gd⟩ :: rest) e w K := by
  refine s_s hw _ ?_ (h _ (H.putAt _ i hi))
  have hb := (H.at_ i hi) b _ (single_same _ _)
  simp [execOp, Instr.storeAt, Instr.sureAddr, hx, hy, run_storeVar ht hb hv h1 (by simpa using Nat.le_of_ble_eq_true hl), ← hc]
/-- One piece has become another one. -/
theorem Inv.replace {hp hp' : PHeap} {w' : World} (H : Inv E σ rs w) (i : Nat) (hi : rs[i]? = some hp) (ho : w'.os = w.os) (ht : w'.tape = w.tape) (hu : w'.output = w.output) (hs : w.heap.size ≤ w'.heap.size)
    (hk : ∀ k, k < w.heap.size → hp k = none → w'.heap[k]? = w.heap[k]?) (hon : POn hp' w') (hm : ∀ b o, hp' b = some o → hp b ≠ none ∨ w.heap.size ≤ b) : Inv E σ (rs.set i hp') w' := by
  have H' := H.perm (perm_idx rs i _ hi)
  have K := H'.enter [hp]
  have hdis : PDis σ hp := H.atσ i hi
  have h0 : ∀ b, σ b ≠ none → hp b = none := fun b hb => (hdis b).resolve_left hb
  have K' : Inv ⟨w, σ, foot [hp]⟩ σ [hp'] w' := by
    refine ⟨ho, ht, hu, hs, fun k hk' hF => hk k hk' ?_, PLe.refl _, fun b o hb => .inl (by simp [hb]), fun b o hb => ?_, ?_, ?_, List.pairwise_singleton _ _, ?_⟩
    · cases hx : hp k with
      | none => rfl
      | some x => exact absurd ⟨hp, by simp, x, hx⟩ hF
    · exact (hk b (H.ro.lt hb) (h0 b (by simp [hb]))).trans (H.ro b o hb)
    · intro h hh; simp only [List.mem_singleton] at hh; subst hh; exact hon
    · intro h hh b o hb
      simp only [List.mem_singleton] at hh; subst hh
      rcases hm b o hb with h1 | h1
      · cases hx : hp b with
        | none => exact absurd hx h1
        | some x => exact .inl ⟨hp, by simp, x, hx⟩
      · exact .inr h1
    · intro h hh b
      simp only [List.mem_singleton] at hh; subst hh
      cases hx : h b with
      | none => exact .inr rfl
      | some o =>
        refine .inl ?_
        rcases hm b o hx with h1 | h1
        · exact (hdis b).resolve_right h1
        · cases hy : σ b with
          | none => rfl
          | some o' => have := H.ro.lt hy; omega
  exact (H'.leave (ρs := [hp]) K').perm (perm_set rs i _ _ hi)
end steps
end Go.Proofs.YtjpkccofeafkbaaGreat.Pvx
