/- How the machine's values and memory stand to the model's. Over any program. -/
import Derived.Test.YtjpkccofeafkbaaGreatPvxV
import Derived.Test.YtjpkccofeafkbaaGreatPvxJ
set_option linter.unusedSimpArgs false
namespace Go.Proofs.YtjpkccofeafkbaaGreat.Pvx
open Go.RowKit
set_option linter.unusedVariables false

/-! ### Values -/
/-- A slot's block, and how many cells it has. -/
abbrev Rho := Nat → Option (Nat × Nat)
def RLe (ρ ρ' : Rho) : Prop := ∀ s x, ρ s = some x → ρ' s = some x
def rnone : Rho := fun _ => none
theorem RLe.refl (ρ : Rho) : RLe ρ ρ := fun _ _ h => h
theorem RLe.trans {a b c : Rho} (h : RLe a b) (k : RLe b c) : RLe a c := fun _ _ x => k _ _ (h _ _ x)
def CapR (cap : Cp) (c off N : Nat) : Prop := match cap with
  | .is k => c = k
  | .un sz => off + c * sz = N ∧ 0 < sz
mutual
def VR (σ : PHeap) : AV → Rho → Value → Prop
  | .bool b, _, v => v = .bool b
  | .int k n, _, v => v = .int k n
  | .str s, _, v => v = .string ⟨s.toArray⟩
  | .nptr, _, v => v = .pointer none
  | .ptr s off, ρ, v => ∃ x, ρ s = some x ∧ v = .pointer (some ⟨x.1, off, none⟩)
  | .rop cs, _, v => ∃ a vs, v = .pointer (some a) ∧ RowAt σ a vs ∧ VRs σ cs rnone vs ∧ ∀ u ∈ vs, u.oneCell' = true
  | .nsl, _, v => v = .slice none 0 0
  | .osl s off len cap, ρ, v => ∃ x c, ρ s = some x ∧ v = .slice (some ⟨x.1, off, none⟩) len c ∧ len ≤ c ∧ c ≤ maxLen ∧ CapR cap c off x.2
  | .rsl nn xs cap, _, v => ∃ a c vss sz, v = .slice a xs.length c ∧ xs.length ≤ c ∧ c ≤ maxLen ∧ (∀ k, cap = some k → c = k) ∧ (nn = true → a ≠ none) ∧ (a = none → c = 0) ∧ VRss σ xs rnone vss ∧ (∀ vs ∈ vss, vs.length = sz ∧ ∀ u ∈ vs, u.oneCell' = true) ∧
      (xs = [] ∨ ∃ p, a = some p ∧ RowAt σ p vss.flatten)
  | .nmap, _, v => v = .map none
  | .map s, ρ, v => ∃ x, ρ s = some x ∧ v = .map (some x.1)
  | .nfn, _, v => v = .nilFunc
  | .fn f cap, ρ, v => ∃ vs, v = .func (.func f) #[] vs.toArray ∧ VRs σ cap ρ vs
  | .yield s, ρ, v => ∃ x, ρ s = some x ∧ v = .func (.yield x.1) #[] #[]
  | .niface, _, v => v = .nilIface
  | .iface t a, ρ, v => ∃ u, v = .iface t u ∧ VR σ a ρ u
  | .agg cs, ρ, v => ∃ vs, v = .agg vs.toArray ∧ VRs σ cs ρ vs ∧ ∀ u ∈ vs, u.oneCell' = true
  | .tup cs, ρ, v => ∃ vs, v = .tuple vs.toArray ∧ VRs σ cs ρ vs
def VRs (σ : PHeap) : List AV → Rho → List Value → Prop
  | [], _, vs => vs = []
  | a :: l, ρ, vs => ∃ v ws, vs = v :: ws ∧ VR σ a ρ v ∧ VRs σ l ρ ws
def VRss (σ : PHeap) : List (List AV) → Rho → List (List Value) → Prop
  | [], _, vss => vss = []
  | a :: l, ρ, vss => ∃ v ws, vss = v :: ws ∧ VRs σ a ρ v ∧ VRss σ l ρ ws
end
section vr
variable {σ : PHeap} {ρ ρ' : Rho}
mutual
theorem VR.mono (h : RLe ρ ρ') : ∀ {a : AV} {v : Value}, VR σ a ρ v → VR σ a ρ' v
  | .bool _, _, k | .int _ _, _, k | .str _, _, k | .nptr, _, k | .nsl, _, k | .nmap, _, k | .nfn, _, k | .niface, _, k | .rop _, _, k | .rsl _ _ _, _, k => by simpa only [VR] using k
  | .ptr s off, _, k => by simp only [VR] at k ⊢; obtain ⟨x, h1, h2⟩ := k; exact ⟨x, h _ _ h1, h2⟩
  | .osl s off len cap, _, k => by simp only [VR] at k ⊢; obtain ⟨x, c, h1, h2⟩ := k; exact ⟨x, c, h _ _ h1, h2⟩
  | .map s, _, k => by simp only [VR] at k ⊢; obtain ⟨x, h1, h2⟩ := k; exact ⟨x, h _ _ h1, h2⟩
  | .yield s, _, k => by simp only [VR] at k ⊢; obtain ⟨x, h1, h2⟩ := k; exact ⟨x, h _ _ h1, h2⟩
  | .fn f cap, _, k => by simp only [VR] at k ⊢; obtain ⟨vs, h1, h2⟩ := k; exact ⟨vs, h1, VRs.mono h h2⟩
  | .iface t a, _, k => by simp only [VR] at k ⊢; obtain ⟨u, h1, h2⟩ := k; exact ⟨u, h1, VR.mono h h2⟩
  | .agg cs, _, k => by simp only [VR] at k ⊢; obtain ⟨vs, h1, h2, h3⟩ := k; exact ⟨vs, h1, VRs.mono h h2, h3⟩
  | .tup cs, _, k => by simp only [VR] at k ⊢; obtain ⟨vs, h1, h2⟩ := k; exact ⟨vs, h1, VRs.mono h h2⟩
theorem VRs.mono (h : RLe ρ ρ') : ∀ {a : List AV} {v : List Value}, VRs σ a ρ v → VRs σ a ρ' v
  | [], _, k => by simpa only [VRs] using k
  | a :: l, _, k => by simp only [VRs] at k ⊢; obtain ⟨v, ws, h1, h2, h3⟩ := k; exact ⟨v, ws, h1, VR.mono h h2, VRs.mono h h3⟩
end
theorem VRs.length : ∀ {a : List AV} {v : List Value}, VRs σ a ρ v → v.length = a.length
  | [], _, k => by simp only [VRs] at k; simp [k]
  | a :: l, _, k => by simp only [VRs] at k; obtain ⟨v, ws, rfl, h2, h3⟩ := k; simp [VRs.length h3]
theorem VRs.nil : VRs σ [] ρ [] := by simp [VRs]
theorem VRs.cons {a : AV} {l : List AV} {v : Value} {vs : List Value} (h : VR σ a ρ v) (k : VRs σ l ρ vs) : VRs σ (a :: l) ρ (v :: vs) := by simp only [VRs]; exact ⟨v, vs, rfl, h, k⟩
theorem VRs.append : ∀ {a b : List AV} {v w : List Value}, VRs σ a ρ v → VRs σ b ρ w → VRs σ (a ++ b) ρ (v ++ w)
  | [], _, _, _, h, k => by simp only [VRs] at h; subst h; exact k
  | a :: l, _, _, _, h, k => by simp only [VRs] at h; obtain ⟨v, ws, rfl, h2, h3⟩ := h; exact VRs.cons h2 (VRs.append h3 k)
theorem VRs.take : ∀ {a : List AV} {v : List Value} (n : Nat), VRs σ a ρ v → VRs σ (a.take n) ρ (v.take n)
  | _, _, 0, h => by simp [VRs]
  | [], _, n + 1, h => by simp only [VRs] at h; subst h; simp [VRs]
  | a :: l, _, n + 1, h => by simp only [VRs] at h; obtain ⟨v, ws, rfl, h2, h3⟩ := h; exact VRs.cons h2 (VRs.take n h3)
theorem VRs.drop : ∀ {a : List AV} {v : List Value} (n : Nat), VRs σ a ρ v → VRs σ (a.drop n) ρ (v.drop n)
  | _, _, 0, h => h
  | [], _, n + 1, h => by simp only [VRs] at h; subst h; simp [VRs]
  | a :: l, _, n + 1, h => by simp only [VRs] at h; obtain ⟨v, ws, rfl, h2, h3⟩ := h; exact VRs.drop n h3
theorem VRs.get : ∀ {a : List AV} {v : List Value} {i : Nat} {x : AV}, VRs σ a ρ v → a[i]? = some x → ∃ u, v[i]? = some u ∧ VR σ x ρ u
  | [], _, i, x, h, hi => by simp at hi
  | a :: l, _, 0, x, h, hi => by simp only [VRs] at h; obtain ⟨v, ws, rfl, h2, h3⟩ := h; simp at hi; subst hi; exact ⟨v, rfl, h2⟩
  | a :: l, _, i + 1, x, h, hi => by simp only [VRs] at h; obtain ⟨v, ws, rfl, h2, h3⟩ := h; simp only [List.getElem?_cons_succ] at hi ⊢; exact VRs.get h3 hi
theorem VRss.get : ∀ {a : List (List AV)} {v : List (List Value)} {i : Nat} {x : List AV}, VRss σ a ρ v → a[i]? = some x → ∃ u, v[i]? = some u ∧ VRs σ x ρ u
  | [], _, i, x, h, hi => by simp at hi
  | a :: l, _, 0, x, h, hi => by simp only [VRss] at h; obtain ⟨v, ws, rfl, h2, h3⟩ := h; simp at hi; subst hi; exact ⟨v, rfl, h2⟩
  | a :: l, _, i + 1, x, h, hi => by simp only [VRss] at h; obtain ⟨v, ws, rfl, h2, h3⟩ := h; simp only [List.getElem?_cons_succ] at hi ⊢; exact VRss.get h3 hi
theorem VRss.length : ∀ {a : List (List AV)} {v : List (List Value)}, VRss σ a ρ v → v.length = a.length
  | [], _, k => by simp only [VRss] at k; simp [k]
  | a :: l, _, k => by simp only [VRss] at k; obtain ⟨v, ws, rfl, h2, h3⟩ := k; simp [VRss.length h3]
theorem VRss.take : ∀ {a : List (List AV)} {v : List (List Value)} (n : Nat), VRss σ a ρ v → VRss σ (a.take n) ρ (v.take n)
  | _, _, 0, h => by simp [VRss]
  | [], _, n + 1, h => by simp only [VRss] at h; subst h; simp [VRss]
  | a :: l, _, n + 1, h => by simp only [VRss] at h; obtain ⟨v, ws, rfl, h2, h3⟩ := h; simp only [List.take_succ_cons, VRss]; exact ⟨v, _, rfl, h2, VRss.take n h3⟩
theorem VRss.drop : ∀ {a : List (List AV)} {v : List (List Value)} (n : Nat), VRss σ a ρ v → VRss σ (a.drop n) ρ (v.drop n)
  | _, _, 0, h => h
  | [], _, n + 1, h => by simp only [VRss] at h; subst h; simp [VRss]
  | a :: l, _, n + 1, h => by simp only [VRss] at h; obtain ⟨v, ws, rfl, h2, h3⟩ := h; exact VRss.drop n h3
theorem VRss.flatten : ∀ {a : List (List AV)} {v : List (List Value)}, VRss σ a ρ v → VRs σ a.flatten ρ v.flatten
  | [], _, h => by simp only [VRss] at h; subst h; simp [VRs]
  | a :: l, _, h => by simp only [VRss] at h; obtain ⟨v, ws, rfl, h2, h3⟩ := h; simpa using VRs.append h2 (VRss.flatten h3)
theorem VRs.rep {z : List AV} {zs : List Value} (h : VRs σ z ρ zs) : ∀ n, VRs σ (repA z n) ρ (List.replicate n zs).flatten
  | 0 => by simp [repA, VRs]
  | n + 1 => by simpa [repA, List.replicate_succ] using VRs.append h (VRs.rep h n)
def isCell : AV → Bool
  | .agg _ => false
  | .tup _ => false
  | _ => true
theorem VR.one {a : AV} {v : Value} (h : VR σ a ρ v) (hc : isCell a = true) : v.oneCell' = true := by
  cases a <;> simp only [VR] at h <;> first
    | (subst h; rfl)
    | (obtain ⟨x, h1, rfl⟩ := h; rfl)
    | (obtain ⟨x, y, h1, rfl, h2⟩ := h; rfl)
    | (obtain ⟨x, h1, h2⟩ := h; subst h1; rfl)
    | (obtain ⟨x, y, z, u, h1, h2⟩ := h; subst h1; rfl)
    | (obtain ⟨x, y, h1, h2⟩ := h; subst h1; rfl)
    | (simp [isCell] at hc)
/-- A value's cells. -/
theorem VR.cells {a : AV} {v : Value} (h : VR σ a ρ v) {n : Nat} (hn : (cellsOf a).length = n) (hp : 0 < n) : VRs σ (cellsOf a) ρ v.cells.toList ∧ (∀ u ∈ v.cells.toList, u.oneCell' = true) ∧ v.cells.size = n := by
  cases hc : isCell a with
  | true =>
    have h1 := h.one hc
    have h2 : cellsOf a = [a] := by cases a <;> first | rfl | cases hc
    rw [h2] at hn ⊢
    rw [cells_one h1]
    exact ⟨VRs.cons h VRs.nil, by simpa using h1, by simpa using hn⟩
  | false =>
    cases a <;> first | (cases hc; done) | skip
    · simp only [VR] at h
      obtain ⟨vs, rfl, h2, h3⟩ := h
      have := h2.length
      simp only [cellsOf] at hn ⊢
      refine ⟨by simpa [Value.cells] using h2, by simpa [Value.cells] using h3, ?_⟩
      simp [Value.cells, this, hn]
    · simp [cellsOf] at hn; omega
theorem VR.ofCells {agg : Bool} {cs : List AV} {a : AV} {vs : List Value} (h : valA agg cs = some a) (hv : VRs σ cs ρ vs) (h1 : ∀ u ∈ vs, u.oneCell' = true) : VR σ a ρ (valOf agg vs) := by
  cases agg with
  | true => simp only [valA, Option.some.injEq] at h; subst h; simp only [VR, valOf]; exact ⟨vs, rfl, hv, h1⟩
  | false =>
    match cs, h with
    | [c], h =>
      simp only [valA, Option.some.injEq] at h; subst h
      simp only [VRs] at hv
      obtain ⟨v, ws, rfl, h2, rfl⟩ := hv
      simpa [valOf] using h2
end vr

/-! ### Temporaries -/
def EnvR (σ : PHeap) (ρ : Rho) (e : AEnv) (e' : Env) : Prop := ∀ t a, e.get t = some a → VR σ a ρ (e' t)
theorem EnvR.mono {σ : PHeap} {ρ ρ' : Rho} {e : AEnv} {e' : Env} (h : EnvR σ ρ e e') (k : RLe ρ ρ') : EnvR σ ρ' e e' := fun t a ht => (h t a ht).mono k
section pt
variable {α : Type}
theorem PT.get_nil (k : Nat) : (PT.nil : PT α).get k = none := rfl
theorem PT.get_set : ∀ (f : Nat) (t : PT α) (k : Nat) (x : α) (j : Nat) (y : α), (PT.set f t k x).get j = some y → (j = k ∧ y = x) ∨ (j ≠ k ∧ t.get j = some y)
  | 0, t, k, x, j, y, h => by simp [PT.set, PT.get] at h
  | f + 1, t, k, x, j, y, h => by
    have key : ∀ {a b : Nat}, a ≠ 0 → b ≠ 0 → (a - 1) % 2 = (b - 1) % 2 → (a - 1) / 2 = (b - 1) / 2 → a = b := by intro a b; omega
    have kb : ∀ n : Nat, (Nat.beq n 0 = true ↔ n = 0) := fun n => ⟨Nat.eq_of_beq_eq_true, fun h => by subst h; rfl⟩
    have kf : ∀ n : Nat, (Nat.beq n 0 = false ↔ n ≠ 0) := fun n => by rw [← Bool.not_eq_true, kb]
    have go : ∀ (v : Option α) (l r : PT α), (bif Nat.beq k 0 then PT.node (some x) l r else bif Nat.beq ((k - 1) % 2) 0 then PT.node v (PT.set f l ((k - 1) / 2) x) r else PT.node v l (PT.set f r ((k - 1) / 2) x)).get j = some y →
        (j = k ∧ y = x) ∨ (j ≠ k ∧ (PT.node v l r).get j = some y) := by
      intro v l r h
      cases hk : Nat.beq k 0 with
      | true =>
        have hk0 := (kb k).1 hk
        simp only [hk, cond_true, PT.get] at h
        cases hj : Nat.beq j 0 with
        | true =>
          simp only [hj, cond_true, Option.some.injEq] at h
          exact .inl ⟨by rw [(kb j).1 hj, hk0], h.symm⟩
        | false =>
          simp only [hj, cond_false] at h
          exact .inr ⟨by rw [hk0]; exact (kf j).1 hj, by simpa only [PT.get, hj, cond_false] using h⟩
      | false =>
        have hk0 := (kf k).1 hk
        simp only [hk, cond_false] at h
        cases hm : Nat.beq ((k - 1) % 2) 0 with
        | true =>
          simp only [hm, cond_true, PT.get] at h
          cases hj : Nat.beq j 0 with
          | true => simp only [hj, cond_true] at h; exact .inr ⟨fun e => hk0 (e ▸ (kb j).1 hj), by simpa only [PT.get, hj, cond_true] using h⟩
          | false =>
            have hj0 := (kf j).1 hj
            simp only [hj, cond_false] at h
            cases hmj : Nat.beq ((j - 1) % 2) 0 with
            | true =>
              simp only [hmj, cond_true] at h
              rcases PT.get_set f l _ x _ y h with ⟨h1, h2⟩ | ⟨h1, h2⟩
              · exact .inl ⟨key hj0 hk0 (((kb _).1 hmj).trans ((kb _).1 hm).symm) h1, h2⟩
              · exact .inr ⟨fun e => h1 (by rw [e]), by simpa only [PT.get, hj, cond_false, hmj, cond_true] using h2⟩
            | false =>
              simp only [hmj, cond_false] at h
              exact .inr ⟨fun e => (kf _).1 hmj (by rw [e]; exact (kb _).1 hm), by simpa only [PT.get, hj, cond_false, hmj] using h⟩
        | false =>
          simp only [hm, cond_false, PT.get] at h
          cases hj : Nat.beq j 0 with
          | true => simp only [hj, cond_true] at h; exact .inr ⟨fun e => hk0 (e ▸ (kb j).1 hj), by simpa only [PT.get, hj, cond_true] using h⟩
          | false =>
            have hj0 := (kf j).1 hj
            simp only [hj, cond_false] at h
            cases hmj : Nat.beq ((j - 1) % 2) 0 with
            | true =>
              simp only [hmj, cond_true] at h
              exact .inr ⟨fun e => (kf _).1 hm (by rw [← e]; exact (kb _).1 hmj), by simpa only [PT.get, hj, cond_false, hmj, cond_true] using h⟩
            | false =>
              simp only [hmj, cond_false] at h
              rcases PT.get_set f r _ x _ y h with ⟨h1, h2⟩ | ⟨h1, h2⟩
              · refine .inl ⟨key hj0 hk0 ?_ h1, h2⟩
                have := (kf _).1 hmj; have := (kf _).1 hm; omega
              · exact .inr ⟨fun e => h1 (by rw [e]), by simpa only [PT.get, hj, cond_false, hmj] using h2⟩
    cases t with
    | node v l r => exact go v l r (by simpa only [PT.set] using h)
    | nil =>
      have h' : (bif Nat.beq k 0 then PT.node (some x) PT.nil PT.nil else bif Nat.beq ((k - 1) % 2) 0 then PT.node none (PT.set f PT.nil ((k - 1) / 2) x) PT.nil else PT.node none PT.nil (PT.set f PT.nil ((k - 1) / 2) x)).get j = some y := by simpa only [PT.set] using h
      rcases go none .nil .nil h' with h1 | ⟨h1, h2⟩
      · exact .inl h1
      · simp only [PT.get] at h2
        cases hj : Nat.beq j 0 <;> cases hm : Nat.beq ((j - 1) % 2) 0 <;> simp [hj, hm] at h2
theorem PT.set_get : ∀ (f : Nat) (t : PT α) (k : Nat) (x : α) (j : Nat), k < f → (PT.set f t k x).get j = if j = k then some x else t.get j
  | 0, t, k, x, j, h => by omega
  | f + 1, t, k, x, j, h => by
    have go : ∀ (v : Option α) (l r : PT α), (bif Nat.beq k 0 then PT.node (some x) l r else bif Nat.beq ((k - 1) % 2) 0 then PT.node v (PT.set f l ((k - 1) / 2) x) r else PT.node v l (PT.set f r ((k - 1) / 2) x)).get j =
        if j = k then some x else (PT.node v l r).get j := by
      intro v l r
      have kb : ∀ n : Nat, Nat.beq n 0 = decide (n = 0) := fun n => by cases n <;> rfl
      simp only [kb]
      by_cases hk : k = 0
      · subst hk
        by_cases hj : j = 0
        · subst hj; simp [PT.get]
        · simp [PT.get, kb, hj]
      · simp only [hk, decide_false, cond_false]
        by_cases hm : (k - 1) % 2 = 0
        · simp only [hm, decide_true, cond_true]
          by_cases hj : j = 0
          · subst hj; simp [PT.get, Ne.symm hk]
          · simp only [PT.get, kb, hj, decide_false, cond_false]
            by_cases hmj : (j - 1) % 2 = 0
            · simp only [hmj, decide_true, cond_true]
              rw [PT.set_get f l _ x _ (by omega)]
              by_cases hjk : j = k
              · subst hjk; simp
              · rw [if_neg hjk, if_neg (by omega)]
            · simp only [hmj, decide_false, cond_false]
              rw [if_neg (fun hh => hmj (by rw [hh]; exact hm))]
        · simp only [hm, decide_false, cond_false]
          by_cases hj : j = 0
          · subst hj; simp [PT.get, Ne.symm hk]
          · simp only [PT.get, kb, hj, decide_false, cond_false]
            by_cases hmj : (j - 1) % 2 = 0
            · simp only [hmj, decide_true, cond_true]
              rw [if_neg (fun hh => hm (by rw [← hh]; exact hmj))]
            · simp only [hmj, decide_false, cond_false]
              rw [PT.set_get f r _ x _ (by omega)]
              by_cases hjk : j = k
              · subst hjk; simp
              · rw [if_neg hjk, if_neg (by omega)]
    cases t with
    | node v l r => exact go v l r
    | nil =>
      have h1 : (PT.set (f + 1) PT.nil k x).get j = (bif Nat.beq k 0 then PT.node (some x) PT.nil PT.nil else bif Nat.beq ((k - 1) % 2) 0 then PT.node none (PT.set f PT.nil ((k - 1) / 2) x) PT.nil else PT.node none PT.nil (PT.set f PT.nil ((k - 1) / 2) x)).get j := rfl
      have h2 : ∀ j, (PT.node (none : Option α) PT.nil PT.nil).get j = none := fun j => by
        simp only [PT.get]
        cases Nat.beq j 0 <;> cases Nat.beq ((j - 1) % 2) 0 <;> rfl
      rw [h1]
      by_cases hk : k = 0
      · subst hk
        have := go none .nil .nil
        simp only [show Nat.beq 0 0 = true from rfl, cond_true] at this ⊢
        rw [this, h2]; rfl
      · have := go none .nil .nil
        have hb : Nat.beq k 0 = false := by cases k with | zero => exact absurd rfl hk | succ k => rfl
        simp only [hb, cond_false] at this ⊢
        rw [this, h2]; rfl
end pt
theorem EnvR.set {σ : PHeap} {ρ : Rho} {e : AEnv} {e' : Env} {d : Nat} {a : AV} {v : Value} (h : EnvR σ ρ e e') (k : VR σ a ρ v) : EnvR σ ρ (e.set (d + 1) d a) (upd e' d v) := fun t b ht => by
  rcases PT.get_set _ _ _ _ _ _ ht with ⟨rfl, rfl⟩ | ⟨h1, h2⟩
  · rw [upd_same]; exact k
  · rw [upd_ne _ _ h1]; exact h t b h2
theorem EnvR.setO {σ : PHeap} {ρ : Rho} {e : AEnv} {e' : Env} {d : Option Nat} {a : AV} {v : Value} (h : EnvR σ ρ e e') (k : VR σ a ρ v) : EnvR σ ρ (setO e d a) (updO e' d v) := by
  cases d with
  | none => exact h
  | some d => exact h.set k

/-! ### Code that names temporaries below n alone -/
def codeOK (n : Nat) : Code → Bool
  | .region _ ops _ => okOps n ops.toList
  | .seq a b => codeOK n a && codeOK n b
  | .cond c a b => okOperand n c && codeOK n a && codeOK n b
  | .block _ c => codeOK n c
  | .loop c => codeOK n c
  | .scope c => codeOK n c
  | .rangeFunc g _ a b => okOperand n g && codeOK n a && codeOK n b
  | _ => true

/-! ### Memory -/
def ERs (σ : PHeap) (ρ : Rho) : List AEnt → List MapEntry → Prop
  | [], es => es = []
  | x :: l, es => ∃ y ys, es = y :: ys ∧ VR σ x.key ρ y.key ∧ VR σ x.val ρ y.val ∧ y.born = x.born ∧ ERs σ ρ l ys
theorem ERs.mono {σ : PHeap} {ρ ρ' : Rho} (k : RLe ρ ρ') : ∀ {l : List AEnt} {es : List MapEntry}, ERs σ ρ l es → ERs σ ρ' l es
  | [], _, h => h
  | _ :: _, _, ⟨y, ys, h1, h2, h3, h4, h5⟩ => ⟨y, ys, h1, h2.mono k, h3.mono k, h4, ERs.mono k h5⟩
def pendOK : Option Code → Prop
  | none => True
  | some .ret => True
  | some (.exit _) => True
  | _ => False
/-- What a slot holds, in its block. -/
def OR (σ : PHeap) (ρ : Rho) (x : Nat × Nat) (r : Option Obj) : AObj → Prop
  | .row cs t => ∃ vs junk, r = some (.cells (vs ++ junk).toArray t (0, 0)) ∧ VRs σ cs ρ vs ∧ (∀ v ∈ vs, v.oneCell' = true) ∧ (vs ++ junk).length = x.2
  | .map es c => ∃ es', r = some (.map es'.toArray c) ∧ ERs σ ρ es es'
  | .iter m since seen stepped => ∃ m', r = some (.mapIter m' since seen.toArray stepped) ∧ (match m with | none => m' = none | some s => ∃ y, ρ s = some y ∧ m' = some y.1)
  | .loop st pend _ _ e ps ca cb d => ∃ fn n ey y, r = some (.loop (lrec st pend fn n ey ps ca cb y.1)) ∧ EnvR σ ρ e ey ∧ ρ d = some y ∧ codeOK n ca = true ∧ codeOK n cb = true ∧ pendOK pend
  | .defd => r = some (.deferred (some []))
  | .dead => True
theorem OR.mono {σ : PHeap} {ρ ρ' : Rho} {x : Nat × Nat} {r : Option Obj} (k : RLe ρ ρ') : ∀ {o : AObj}, OR σ ρ x r o → OR σ ρ' x r o
  | .row _ _, ⟨vs, junk, h1, h2, h3⟩ => ⟨vs, junk, h1, h2.mono k, h3⟩
  | .map _ _, ⟨es, h1, h2⟩ => ⟨es, h1, h2.mono k⟩
  | .iter none _ _ _, h => h
  | .iter (some s) _ _ _, ⟨m', h1, y, h2, h3⟩ => ⟨m', h1, y, k _ _ h2, h3⟩
  | .loop _ _ _ _ _ _ _ _ _, ⟨fn, n, ey, y, h1, h2, h3, h4⟩ => ⟨fn, n, ey, y, h1, h2.mono k, k _ _ h3, h4⟩
  | .defd, h => h
  | .dead, _ => trivial
def isDead : AObj → Bool
  | .dead => true
  | _ => false
/-- The machine's memory and the world: w0 is the world in which all began. -/
structure HR (w0 : World) (ρ : Rho) (h : Hp) (w : World) : Prop where
  os : w.os = w0.os
  tape : w.tape = w0.tape
  output : w.output = w0.output
  size : w0.heap.size ≤ w.heap.size
  frame : ∀ k, k < w0.heap.size → w.heap[k]? = w0.heap[k]?
  dom : ∀ s x, ρ s = some x → s < h.next ∧ w0.heap.size ≤ x.1 ∧ x.1 < w.heap.size
  live : ∀ s o, h.get s = some o → s < h.next
  inj : ∀ s s' x x' o o', ρ s = some x → ρ s' = some x' → h.get s = some o → h.get s' = some o' → isDead o = false → isDead o' = false → x.1 = x'.1 → s = s'
  obj : ∀ s x o, ρ s = some x → h.get s = some o → OR (PAll w0) ρ x (w.heap[x.1]?) o
theorem HR.on {w0 : World} {ρ : Rho} {h : Hp} {w : World} (H : HR w0 ρ h w) : POn (PAll w0) w := fun b o hb => by
  have hlt : b < w0.heap.size := (Array.getElem?_eq_some_iff.1 hb).1
  rw [H.frame b hlt]; exact hb
theorem h0_get (s : Nat) : h0.get s = none := rfl
theorem HR.start (w : World) : HR w rnone h0 w where
  os := rfl
  tape := rfl
  output := rfl
  size := Nat.le_refl _
  frame := fun _ _ => rfl
  dom := fun s x h => by simp [rnone] at h
  live := fun s o h => by simp [h0_get] at h
  inj := fun s s' x x' o o' h => by simp [rnone] at h
  obj := fun s x o h => by simp [rnone] at h
theorem HR.drew {w0 : World} {ρ : Rho} {h : Hp} {w : World} (H : HR w0 ρ h w) : HR w0 ρ h w.drew := ⟨H.os, H.tape, H.output, H.size, H.frame, H.dom, H.live, H.inj, H.obj⟩
theorem HR.relock {w0 : World} {ρ : Rho} {h : Hp} {w : World} (H : HR w0 ρ h w) (l : List Nat) : HR w0 ρ (h.relock l) w := ⟨H.os, H.tape, H.output, H.size, H.frame, H.dom, H.live, H.inj, H.obj⟩
theorem HR.keep {w0 : World} {ρ : Rho} {h : Hp} {w w' : World} (H : HR w0 ρ h w) (B : Below w.heap.size w w') : HR w0 ρ h w' where
  os := B.os.trans H.os
  tape := B.tape.trans H.tape
  output := B.output.trans H.output
  size := Nat.le_trans H.size B.size
  frame := fun k hk => (B.block k (Nat.lt_of_lt_of_le hk H.size)).trans (H.frame k hk)
  dom := fun s x hx => ⟨(H.dom s x hx).1, (H.dom s x hx).2.1, Nat.lt_of_lt_of_le (H.dom s x hx).2.2 B.size⟩
  live := H.live
  inj := H.inj
  obj := fun s x o hx ho => by rw [B.block x.1 (H.dom s x hx).2.2]; exact H.obj s x o hx ho
theorem HR.below {w0 : World} {ρ : Rho} {h : Hp} {w : World} (H : HR w0 ρ h w) : Below w0.heap.size w0 w := ⟨H.os, H.tape, H.output, H.size, H.frame⟩
end Go.Proofs.YtjpkccofeafkbaaGreat.Pvx
