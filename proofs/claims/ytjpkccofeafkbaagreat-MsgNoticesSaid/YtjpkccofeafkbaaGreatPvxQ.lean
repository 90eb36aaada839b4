/- Operations that leave the memory l1 it is: what the machine tells of them is so. Over any program. -/
import Derived.Test.YtjpkccofeafkbaaGreatPvxX
import Derived.Test.YtjpkccofeafkbaaGreatPvxN
import Derived.Laws.BytesString
set_option linter.unusedSimpArgs false
namespace Go.Proofs.YtjpkccofeafkbaaGreat.Pvx
open Go.RowKit
set_option linter.unusedVariables false
section ops
variable {P : Program} {T : Tab} {w0 : World} {ρ : Rho} {e : AEnv} {e' : Env} {h : Hp} {w : World}

theorem kEq_eq {k k' : IntKind} (h : kEq k k' = true) : k = k' := by cases k <;> cases k' <;> first | rfl | cases h
theorem bytesEq_eq : ∀ (a b : List UInt8), bytesEq a b = (a == b)
  | [], [] => rfl
  | [], _ :: _ => rfl
  | _ :: _, [] => rfl
  | a :: x, b :: y => by
    simp only [bytesEq, bytesEq_eq x y, List.cons_beq_cons]
    congr 1
    rw [Bool.eq_iff_iff, beq_iff_eq]
    exact ⟨fun h => UInt8.toNat_inj.1 (Nat.eq_of_beq_eq_true h), fun h => by subst h; exact Nat.beq_refl _⟩
theorem bEq_eq (a b : Bool) : bEq a b = (a == b) := by cases a <;> cases b <;> rfl
theorem intEq_eq (a b : Int) : intEq a b = (a == b) := rfl

/-! ### Alike -/
/-- What == tells, at a type. -/
def EqV (P : Program) (t : TypeId) (x y : Value) (r : Bool) : Prop := ∀ w, (Op.equal t x y).run P w = .ok r w
theorem EqV.of {t : TypeId} {x y : Value} {r : Bool} (h : ∀ d, EqT P (d + 1) t x y r) : EqV P t x y r := fun w => h 9999 w
theorem cellEq_scalar {σ : PHeap} {a b : AV} {x y : Value} {r : Bool} {t : TypeId} (h : cellEq a b = some r) (hx : VR σ a ρ x) (hy : VR σ b ρ y) (hb : ∀ c, a = .bool c → P.underlying t = some .bool) (hi : ∀ k n, a = .int k n → ∃ k, P.underlying t = some (.int k)) (hst : ∀ s, a ≠ .str s) (d : Nat) : EqT P (d + 1) t x y r := by
  unfold cellEq at h
  split at h
  · rename_i k n k' n'
    cases hkk : kEq k k' with
    | false => rw [hkk] at h; cases h
    | true =>
      rw [hkk] at h; cases h
      cases kEq_eq hkk
      simp only [VR] at hx hy; subst hx hy
      obtain ⟨k2, hu⟩ := hi _ _ rfl
      exact EqT.int hu rfl
  · cases h
    simp only [VR] at hx hy; subst hx hy
    exact EqT.bool (hb _ rfl) (bEq_eq _ _).symm
  · exact absurd rfl (hst _)
  · cases h
theorem fields_sound {σ : PHeap} (d : Nat) (xs ys : Array Value) (t : TypeId) : ∀ (ks : List Bool) (l1 l2 : List AV) (vs us : List Value) (fs : List Field) (j : Nat) (r : Bool), fitCells ks l1 = true → cellsEq l1 l2 = some r → VRs σ l1 ρ vs → VRs σ l2 ρ us → ks.length = fs.length → xs.toList.drop j = vs → ys.toList.drop j = us →
    (∀ (i : Nat) (fld : Field) (k : Bool), fs[i]? = some fld → ks[i]? = some k → fld.name ≠ "_" ∧ fld.offset = j + i ∧ scalar P fld.type k) → (∀ (i : Nat) (fld : Field), fs[i]? = some fld → ∀ w, (isAgg fld.type).run P w = .ok false w) → ∀ w, (Op.eqFields (d + 1) xs ys fs).run P w = .ok r w
  | [], l1, l2, vs, us, fs, j, r, hf, he, hv, hu, hl, _, _, _, _, w => by
    have : fs = [] := List.eq_nil_of_length_eq_zero (by simpa using hl.symm)
    subst this
    cases l1 with
    | cons a l => simp [fitCells] at hf
    | nil =>
      cases l2 with
      | cons b l => simp [cellsEq] at he
      | nil => simp only [cellsEq, Option.some.injEq] at he; subst he; simp [Op.eqFields]
  | k :: ks, l1, l2, vs, us, fs, j, r, hf, he, hv, hu, hl, hx, hy, hfl, hag, w => by
    cases fs with
    | nil => simp at hl
    | cons f fs =>
      obtain ⟨hn, ho, hs⟩ := hfl 0 f k rfl rfl
      cases l1 with
      | nil => cases k <;> simp [fitCells] at hf
      | cons a l1 =>
        cases l2 with
        | nil => simp [cellsEq] at he
        | cons b l2 =>
          simp only [VRs] at hv hu
          obtain ⟨v, vs', rfl, hva, hvs⟩ := hv
          obtain ⟨u, us', rfl, hub, hus⟩ := hu
          unfold cellsEq at he
          cases h1 : cellEq a b with
          | none => simp [h1] at he
          | some r1 =>
            cases h2 : cellsEq l1 l2 with
            | none => simp [h1, h2] at he
            | some r2 =>
              simp only [h1, h2, Option.some.injEq] at he
              subst he
              have hf' : fitCells ks l1 = true ∧ ((∀ c, a = .bool c → k = true) ∧ (∀ q n, a = .int q n → k = false) ∧ (∀ s, a ≠ .str s)) := by
                cases k <;> cases a <;> simp [fitCells] at hf ⊢ <;> exact hf
              have hE : EqT P (d + 1) f.type v u r1 := cellEq_scalar h1 hva hub (fun c hc => by have := hf'.2.1 c hc; subst this; exact hs) (fun q n hc => by have := hf'.2.2.1 q n hc; subst this; exact hs) hf'.2.2.2 d
              have part1 : ∀ (zs : Array Value) (z : Value) (l : List Value), zs.toList.drop j = z :: l → (part f.type zs f.offset).run P w = .ok z w := by
                intro zs z l hz
                have hzj : zs[f.offset]? = some z := by
                  have h3 : (zs.toList.drop j)[0]? = some z := by rw [hz]; rfl
                  rw [List.getElem?_drop] at h3
                  rw [ho]; simpa using h3
                unfold part
                rw [Sem.run_bind, hag 0 f rfl]
                simp [hzj]
              unfold Op.eqFields
              rw [if_pos hn, Sem.run_bind, part1 xs v vs' hx, Result.andThen_ok, Sem.run_bind, part1 ys u us' hy, Result.andThen_ok, Sem.run_bind, hE w, Result.andThen_ok]
              cases r1 with
              | false => simp
              | true =>
                have h5 : ∀ (zs : Array Value) (z : Value) (l : List Value), zs.toList.drop j = z :: l → zs.toList.drop (j + 1) = l := by
                  intro zs z l hz
                  have : zs.toList.drop (j + 1) = (zs.toList.drop j).drop 1 := by rw [List.drop_drop]
                  rw [this, hz]; rfl
                simpa using fields_sound d xs ys t ks l1 l2 vs' us' fs (j + 1) r2 hf'.1 h2 hvs hus (by simpa using hl) (h5 xs v vs' hx) (h5 ys u us' hy) (fun i fld q hi hk => by
                  obtain ⟨g1, g2, g3⟩ := hfl (i + 1) fld q (by simpa using hi) (by simpa using hk)
                  exact ⟨g1, by omega, g3⟩) (fun i fld hi => hag (i + 1) fld (by simpa using hi)) w
theorem isAgg_scalar {t : TypeId} {k : Bool} (h : scalar P t k) (w : World) : (isAgg t).run P w = .ok false w := by
  cases k with
  | true => have h : P.underlying t = some .bool := h; simp [isAgg, run_underlying h]
  | false => obtain ⟨q, h⟩ := h; simp [isAgg, run_underlying h]
theorem agg_sound {σ : PHeap} {t : TypeId} {fs : List (Nat × Nat)} {ft : List Nat} {k : Bool} {ks : List Bool} {fields : Array Field} {l1 l2 : List AV} {x y : Value} {r : Bool} (hS : StructOK P t fs ft (k :: ks) fields) (hf : fitCells (k :: ks) l1 = true) (he : cellsEq l1 l2 = some r) (hx : VR σ (.agg l1) ρ x) (hy : VR σ (.agg l2) ρ y) : EqV P t x y r := by
  obtain ⟨g1, g2, g3, g4⟩ := hS.flat (by simp)
  simp only [VR] at hx hy
  obtain ⟨vs, rfl, hv, _⟩ := hx
  obtain ⟨us, rfl, hu, _⟩ := hy
  intro w
  have hfo : P.fieldsOf t = fields := by simp [Program.fieldsOf, hS.under]
  show (Op.equalIn (9998 + 1 + 1) t _ _).run P w = _
  rw [run_equalIn_struct w (9998 + 1) t _ _ (by rw [hfo]; exact hS.under) g2, hfo]
  refine fields_sound 9998 _ _ t (k :: ks) l1 l2 vs us fields.toList 0 r hf he hv hu (by simpa using g3) (by simp) (by simp) (fun i fld q hi hk => ?_) (fun i fld hi w => ?_) w
  · obtain ⟨h1, h2, h3⟩ := g4 i fld q (by simpa using hi) hk
    exact ⟨h1, by omega, h3⟩
  · have hlt : i < fields.size := by
      have := (List.getElem?_eq_some_iff.1 hi).1
      simpa using this
    have : ∃ q, (k :: ks)[i]? = some q := ⟨_, List.getElem?_eq_getElem (by rw [g3]; exact hlt)⟩
    obtain ⟨q, hq⟩ := this
    exact isAgg_scalar (g4 i fld q (by simpa using hi) hq).2.2 w
set_option maxHeartbeats 4000000 in
/-- Two values that are no numbers and no texts. -/
theorem eqA_sound {σ : PHeap} {t : TypeId} {sh : Sh} {a b : AV} {x y : Value} {r : Bool} (hs : ShOK P t sh) (hf : shFits sh a = true) (he : eqA a b = some r) (hx : VR σ a ρ x) (hy : VR σ b ρ y) : EqV P t x y r := by
  cases a <;> cases sh <;> first | (simp [shFits] at hf; done) | skip
  · -- bool
    cases b <;> simp only [eqA, cellEq] at he <;> first | (cases he; done) | skip
    cases he
    simp only [VR] at hx hy; subst hx hy
    exact EqV.of fun d => EqT.bool hs (bEq_eq _ _).symm
  all_goals
    cases b <;> simp only [eqA, cellEq] at he <;> first | (cases he; done) | skip
  all_goals first
    | ( -- pointers
       have hs : ∃ e, P.underlying t = some (.pointer e) := hs
       obtain ⟨el, hu⟩ := hs
       cases he
       simp only [VR] at hx hy
       first
         | (subst hx hy; exact EqV.of fun d w => by simp [Op.equalIn, run_underlying hu])
         | (obtain ⟨q, hq, rfl⟩ := hx; subst hy; exact EqV.of fun d w => by simp [Op.equalIn, run_underlying hu])
         | (obtain ⟨q, hq, rfl⟩ := hy; subst hx; exact EqV.of fun d w => by simp [Op.equalIn, run_underlying hu])
         | (obtain ⟨q, q2, rfl, _⟩ := hx; subst hy; exact EqV.of fun d w => by simp [Op.equalIn, run_underlying hu])
         | (obtain ⟨q, q2, rfl, _⟩ := hy; subst hx; exact EqV.of fun d w => by simp [Op.equalIn, run_underlying hu]))
    | ( -- maps
       have hu : P.underlying t = some (.map _ _) := hs
       cases he
       simp only [VR] at hx hy
       first
         | (subst hx hy; exact EqV.of fun d w => by simp [Op.equalIn, run_underlying hu])
         | (obtain ⟨q, hq, rfl⟩ := hx; subst hy; exact EqV.of fun d w => by simp [Op.equalIn, run_underlying hu])
         | (obtain ⟨q, hq, rfl⟩ := hy; subst hx; exact EqV.of fun d w => by simp [Op.equalIn, run_underlying hu]))
    | ( -- functions
       have hs : ∃ a b c, P.underlying t = some (.func a b c) := hs
       obtain ⟨f1, f2, f3, hu⟩ := hs
       cases he
       simp only [VR] at hx hy
       first
         | (subst hx hy; exact EqV.of fun d w => by simp [Op.equalIn, run_underlying hu])
         | (obtain ⟨q, rfl, hq⟩ := hx; subst hy; exact EqV.of fun d w => by simp [Op.equalIn, run_underlying hu])
         | (obtain ⟨q, rfl, hq⟩ := hy; subst hx; exact EqV.of fun d w => by simp [Op.equalIn, run_underlying hu])
         | (obtain ⟨q, hq, rfl⟩ := hx; subst hy; exact EqV.of fun d w => by simp [Op.equalIn, run_underlying hu])
         | (obtain ⟨q, hq, rfl⟩ := hy; subst hx; exact EqV.of fun d w => by simp [Op.equalIn, run_underlying hu]))
    | ( -- structs
       rename_i f1 f2 kl _
       obtain ⟨fields, hS⟩ := hs
       cases kl with
       | nil => simp [shFits] at hf
       | cons k ks => exact agg_sound hS hf he hx hy)
    | skip
  all_goals have hu : P.underlying t = some (.slice _) := hs
  · cases he; simp only [VR] at hx hy; subst hx hy
    exact EqV.of fun d w => by simp [Op.equalIn, run_underlying hu]
  · cases he; simp only [VR] at hx hy; subst hx
    obtain ⟨q, c, hq, rfl, _⟩ := hy
    exact EqV.of fun d w => by simp [Op.equalIn, run_underlying hu]
  · -- nsl, rsl
    rename_i nn xs cap
    simp only [VR] at hx hy; subst hx
    obtain ⟨a, c, vss, sz, rfl, h1, h2, h3, h4, h5, h6, h7, h8⟩ := hy
    have hne : a ≠ none ∧ r = false := by
      cases nn with
      | true => simp only [eqA] at he; cases he; exact ⟨h4 rfl, rfl⟩
      | false =>
        cases xs with
        | nil => simp [eqA, cellEq] at he
        | cons x l =>
          simp only [eqA] at he; cases he
          refine ⟨?_, rfl⟩
          rcases h8 with h8 | ⟨p, h8, _⟩
          · cases h8
          · simp [h8]
    obtain ⟨hne, rfl⟩ := hne
    cases a with
    | none => exact absurd rfl hne
    | some p => exact EqV.of fun d w => by simp [Op.equalIn, run_underlying hu]
  · cases he; simp only [VR] at hx hy; subst hy
    obtain ⟨q, c, hq, rfl, _⟩ := hx
    exact EqV.of fun d w => by simp [Op.equalIn, run_underlying hu]
  · rename_i nn xs cap _
    simp only [VR] at hx hy; subst hy
    obtain ⟨a, c, vss, sz, rfl, h1, h2, h3, h4, h5, h6, h7, h8⟩ := hx
    have hne : a ≠ none ∧ r = false := by
      cases nn with
      | true => simp only [eqA] at he; cases he; exact ⟨h4 rfl, rfl⟩
      | false =>
        cases xs with
        | nil => simp [eqA, cellEq] at he
        | cons x l =>
          simp only [eqA] at he; cases he
          refine ⟨?_, rfl⟩
          rcases h8 with h8 | ⟨p, h8, _⟩
          · cases h8
          · simp [h8]
    obtain ⟨hne, rfl⟩ := hne
    cases a with
    | none => exact absurd rfl hne
    | some p => exact EqV.of fun d w => by simp [Op.equalIn, run_underlying hu]
end ops
end Go.Proofs.YtjpkccofeafkbaaGreat.Pvx
