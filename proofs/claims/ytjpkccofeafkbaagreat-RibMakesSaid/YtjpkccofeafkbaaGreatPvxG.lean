/- What the printed texts lean on: joins, places, guarded pieces, numbers, literal rows. Over any program. -/
import Derived.Test.YtjpkccofeafkbaaGreatPvxR
import Derived.ScopeJumps
set_option linter.unusedSimpArgs false
namespace Go.Proofs.YtjpkccofeafkbaaGreat.Pvx
open Go.RowKit
set_option linter.unusedVariables false

/-! ### Code -/
section code
variable {P : Program} {ro : Option Nat} {n : Nat} {Q : Exit → Env → List Nat → World → Prop} {e : Env} {m : List Nat} {w : World}
theorem c_midQ {x : Code} (M : Env → Env → List Nat → World → Prop) (h1 : CE P ro n x (andThen (M e) Q) e m w) (h2 : ∀ e' m' w', M e e' m' w' → Q .normal e' m' w') : CE P ro n x Q e m w :=
  CE.mono h1 fun x e m w h => by cases x <;> first | exact h2 _ _ _ h | exact h
theorem c_label {l : Nat} (h : Q .normal e m w) : CE P ro n (.label l) Q e m w := wpIn_label ⟨e, m, rfl, h⟩
theorem c_cond_t {c : Operand} {x y : Code} (hc : evalE e c = .bool true) (ho : okOperand n c = true) (h : CE P ro n x Q e m w) : CE P ro n (.cond c x y) Q e m w := c_cond hc ho (fun _ => h) (fun h => by cases h)
theorem c_cond_f {c : Operand} {x y : Code} (hc : evalE e c = .bool false) (ho : okOperand n c = true) (h : CE P ro n y Q e m w) : CE P ro n (.cond c x y) Q e m w := c_cond hc ho (fun h => by cases h) (fun _ => h)
/-- At most so many rounds of a loop, one behind the other. -/
def roundsE (P : Program) (ro : Option Nat) (n : Nat) (c : Code) (Q : Exit → Env → List Nat → World → Prop) : Nat → Env → List Nat → World → Prop
  | 0 => fun _ _ _ => False
  | k + 1 => CE P ro n c (andThen (roundsE P ro n c Q k) Q)
theorem c_rounds {c : Code} (k : Nat) (h : roundsE P ro n c Q k e m w) : CE P ro n (.loop c) Q e m w := by
  refine c_loop (fun k e m w => roundsE P ro n c Q k e m w) k h fun k e m w h => ?_
  cases k with
  | zero => exact h.elim
  | succ k => exact CE.mono h fun x e m w h => by cases x <;> first | exact ⟨k, Nat.lt_succ_self k, h⟩ | exact h
theorem c_round {c : Code} {k : Nat} (h : CE P ro n c (andThen (roundsE P ro n c Q k) Q) e m w) : roundsE P ro n c Q (k + 1) e m w := h
end code
section scope
variable {F : Fence} {n : Nat} {P : Program} {Q : Exit → Act → World → Prop} {a : Act} {w : World}
theorem stepR_scope {b : Frame} {a : Act} {k : List Item} {cs : List Frame} {w : World} {c : Code} : step P (lone (b.atR a (.code (.scope c) :: k)) cs w) = .next (lone (b.atR a (.code c :: .inScope c :: k)) cs w) :=
  step_lone_go (by simp [stepG, stepG.exec, Frame.atR])
theorem stepR_inScope {b : Frame} {a : Act} {k : List Item} {cs : List Frame} {w : World} {c : Code} : step P (lone (b.atR a (.inScope c :: k)) cs w) = .next (lone (b.atR a k) cs w) :=
  step_lone_go (by simp [stepG, stepG.exec, Frame.atR])
theorem wpIn_scope {c : Code} (h : c.wpIn F n P (Exit.noGoto Q) a w) : (Code.scope c).wpIn F n P Q a w := by
  intro b k cs hro hb hr
  have h0 : (lone (b.atR a (.code (.scope c) :: k)) cs w).fenced P F := fenced_calm hb hr rfl
  obtain ⟨e, a₁, w₁, hq, harr⟩ := h b (.inScope c :: k) cs hro hb hr
  cases e with
  | normal => exact ⟨.normal, a₁, w₁, hq, .head h0 stepR_scope (StepsIn.trans harr (.one (fenced_calm hb hr rfl) stepR_inScope))⟩
  | exit id' =>
    have hx : exitTo id' (.inScope c :: k) = exitTo id' k := by simp [exitTo]
    exact ⟨.exit id', a₁, w₁, hq, fun k' hk => .head h0 stepR_scope (harr.1 k' (by rw [hx]; exact hk)),
      fun hr' hk => let ⟨k₁, h1, h2⟩ := harr.2 hr' (by rw [hx]; exact hk); ⟨k₁, h1, .head h0 stepR_scope h2⟩⟩
  | goto l => exact hq.elim
  | ret => exact ⟨_, a₁, w₁, hq, .of_steps (.one h0 stepR_scope) harr⟩
  | panic ch => exact ⟨_, a₁, w₁, hq, .of_steps (.one h0 stepR_scope) harr⟩
  | outgrown => exact ⟨_, a₁, w₁, hq, .of_steps (.one h0 stepR_scope) harr⟩
end scope
def noGo (Q : Exit → Env → List Nat → World → Prop) : Exit → Env → List Nat → World → Prop
  | .goto _ => fun _ _ _ => False
  | x => Q x
theorem c_scope {P : Program} {ro : Option Nat} {n : Nat} {Q : Exit → Env → List Nat → World → Prop} {e : Env} {m : List Nat} {w : World} {c : Code} (h : CE P ro n c (noGo Q) e m w) : CE P ro n (.scope c) Q e m w := by
  refine wpIn_scope (wpIn_mono h fun x a w ⟨e, m, ha, hQ⟩ => ?_)
  subst ha
  cases x <;> first | exact ⟨e, m, rfl, hQ⟩ | exact hQ.elim

/-! ### Regions -/
section seq
variable {P : Program} {ops : List Oper} {e : Env} {w : World} {K : Env → World → Prop}
theorem at_seq {i : Nat} {o : Oper} (hi : ops[i]? = some o) (h : seqE P ops [o] e w K) : opAt P ops i e w K := by
  unfold opAt; rw [hi]; rw [seqE_cons] at h; exact opE_mono h fun _ _ h => h.h
/-- What stands behind some operations is proved once. -/
theorem s_midQ (n : Nat) (M : Env → Env → List Nat → World → Prop) {l : List Oper} (h1 : seqE P ops (l.take n) e w (fun e' w' => M e e' [] w')) (h2 : ∀ e' w', M e e' [] w' → seqE P ops (l.drop n) e' w' K) : seqE P ops l e w K :=
  s_split n l (seqE_mono h2 _ _ _ h1)
/-- Some operations under a guard that has not come out as wanted. -/
theorem s_skip {l : List Oper} (n g : Nat) (want b : Bool) (D : List Nat) {tg : Nat} (hg : (ops[g]?).bind (·.dst) = some tg) (htg : hasN D tg = false) (he : e tg = .bool b) (hs : skipOK ops g want D (l.take n) [] = true) (hb : b ≠ want)
    (h : ∀ j, seqE P ops (l.drop n) (Pvx.ov D j e) w K) : seqE P ops l e w K := by
  refine s_split n l ?_
  refine skip_all (D := D) hg htg hb (l.take n) [] e w _ hs he (fun d hd => by simp [hasN] at hd) fun e' ha => ?_
  rw [ha.eq]; exact h e'
theorem ne_t {b : Bool} (h : b = false) : b ≠ true := by subst h; decide
theorem ne_f {b : Bool} (h : b = true) : b ≠ false := by subst h; decide
theorem wgn_t {o : Oper} {g tg : Nat} {b : Bool} (hg : (ops[g]?).bind (·.dst) = some tg) (he : e tg = .bool b) (hb : b = false) (ho : o.guard = some (g, true) := by rfl) : Region.wanted o (yieldedE ops e) = false := wgn hg he (ne_t hb) ho
theorem wgn_f {o : Oper} {g tg : Nat} {b : Bool} (hg : (ops[g]?).bind (·.dst) = some tg) (he : e tg = .bool b) (hb : b = true) (ho : o.guard = some (g, false) := by rfl) : Region.wanted o (yieldedE ops e) = false := wgn hg he (ne_f hb) ho
theorem r_pick_t {c x y : Operand} {b : Bool} {v : Value} {ty : TypeId} (hc : evalE e c = .bool b) (hb : b = true) (hv : evalE e x = v) : Ran P (.pick c x y) ty e w v := r_pick hc (by rw [hb]; exact hv)
theorem r_pick_f {c x y : Operand} {b : Bool} {v : Value} {ty : TypeId} (hc : evalE e c = .bool b) (hb : b = false) (hv : evalE e y = v) : Ran P (.pick c x y) ty e w v := r_pick hc (by rw [hb]; exact hv)
theorem unit_and {e : Env} {b r : Bool} {t : Nat} {y : Operand} (h : b = true → e t = .bool r) (hy : evalE e y = .bool false := by rfl) : (if b then evalE e (.tmp t) else evalE e y) = .bool (b && r) := by
  cases b
  · simpa using hy
  · simpa [evalE] using h rfl
theorem unit_or {e : Env} {b r : Bool} {t : Nat} {y : Operand} (h : b = false → e t = .bool r) (hy : evalE e y = .bool true := by rfl) : (if b then evalE e y else evalE e (.tmp t)) = .bool (b || r) := by
  cases b
  · simpa [evalE] using h rfl
  · simpa using hy
end seq

theorem all_nil {p : Nat → Prop} : ∀ i ∈ ([] : List Nat), p i := by simp
theorem all_cons {p : Nat → Prop} {a : Nat} {l : List Nat} (h : p a) (t : ∀ i ∈ l, p i) : ∀ i ∈ a :: l, p i := by
  intro i hi; rcases List.mem_cons.1 hi with rfl | hi
  · exact h
  · exact t i hi
/-! ### Pieces in another order, some of them -/
def pickL {α : Type} : List α → List Nat → List α
  | _, [] => []
  | l, i :: is => match l[i]? with
    | some x => x :: pickL (l.eraseIdx i) is
    | none => []
theorem pickL_perm {α : Type} : ∀ (is : List Nat) (l : List α), ∃ r, l.Perm (pickL l is ++ r)
  | [], l => ⟨l, .refl _⟩
  | i :: is, l => by
    unfold pickL
    cases hx : l[i]? with
    | none => exact ⟨l, .refl _⟩
    | some x =>
      obtain ⟨r, hr⟩ := pickL_perm is (l.eraseIdx i)
      exact ⟨r, (perm_idx l i x hx).trans (hr.cons x)⟩
theorem Inv.pick {E : Ent} {σ : PHeap} {rs : List PHeap} {w : World} (H : Inv E σ rs w) (is : List Nat) : Inv E σ (pickL rs is) w := by
  obtain ⟨r, hr⟩ := pickL_perm is rs
  exact (H.perm hr).sub (List.sublist_append_left _ _)
theorem freeze_at {E : Ent} {σ : PHeap} {rs : List PHeap} {w : World} {φ : PHeap} (H : Inv E σ rs w) (i : Nat) (hi : rs[i]? = some φ) : ∃ σ', PLe σ σ' ∧ PLe φ σ' ∧ Inv E σ' (rs.eraseIdx i) w :=
  ⟨por σ φ, le_por_left _ _, le_por_right (H.atσ i hi), H.freezeAt i hi⟩

/-! ### Places -/
theorem box_row {b : Nat} {cs : List Value} {t : TypeId} (f n : Nat) {ds : List Value} (h : (cs.drop f).take n = ds) (hl : ds.length = n := by rfl) : RowAt (single b (.cells cs.toArray t)) ⟨b, f, none⟩ ds :=
  ⟨rfl, _, _, _, single_same _ _, by simpa [hl] using h⟩
def addAll (a : Addr) : List Nat → Addr
  | [] => a
  | o :: os => addAll (a.add o) os
def dropAll (cs : List Value) : List Nat → List Value
  | [] => cs
  | o :: os => dropAll (cs.drop o) os
theorem rowAt_addAll {σ : PHeap} : ∀ (os : List Nat) (a : Addr) (cs : List Value), RowAt σ a cs → os.foldl (· + ·) 0 ≤ cs.length → RowAt σ (addAll a os) (dropAll cs os)
  | [], a, cs, h, _ => h
  | o :: os, a, cs, h, hl => by
    have hsum : ∀ (os : List Nat) (k : Nat), os.foldl (· + ·) k = k + os.foldl (· + ·) 0 := by
      intro os
      induction os with
      | nil => intro k; rfl
      | cons x xs ih => intro k; simp only [List.foldl_cons]; rw [ih (k + x), ih (0 + x)]; omega
    simp only [List.foldl_cons] at hl
    rw [hsum] at hl
    have hp := h.part o (cs.length - o) (by omega)
    have : (cs.drop o).take (cs.length - o) = cs.drop o := by rw [List.take_of_length_le (by simp)]
    rw [this] at hp
    exact rowAt_addAll os _ _ hp (by simp; omega)
theorem e_row {σ : PHeap} {a a' : Addr} {cs ds : List Value} (h : RowAt σ a cs) (os : List Nat) (n : Nat) (ha : addAll a os = a') (hd : (dropAll cs os).take n = ds) (hl : Nat.ble (os.foldl (· + ·) 0 + n) cs.length = true := by rfl) (hn : Nat.ble n (dropAll cs os).length = true := by rfl) : RowAt σ a' ds := by
  have h1 := rowAt_addAll os a cs h (by have := Nat.le_of_ble_eq_true hl; omega)
  have h2 := h1.part 0 n (by have := Nat.le_of_ble_eq_true hn; omega)
  subst ha hd
  have h0 : (addAll a os).add 0 = addAll a os := by
    rw [addr_add _ h1.1]; have := h1.1; cases hx : addAll a os; simp_all
  rw [h0] at h2
  simpa using h2
theorem ones0 : ∀ u ∈ ([] : List Value), u.oneCell' = true := by simp
theorem ones_cons {v : Value} {l : List Value} (h : v.oneCell' = true) (k : ∀ u ∈ l, u.oneCell' = true) : ∀ u ∈ (v :: l), u.oneCell' = true := by
  intro u hu; rcases List.mem_cons.1 hu with rfl | hu
  · exact h
  · exact k u hu
theorem ones1 {v : Value} (h : v.oneCell' = true) : ∀ u ∈ v.cells.toList, u.oneCell' = true := by
  rw [cells_one h]; simpa using h
/-- Where a struct's fields stand. -/
def BI (P : Program) (t : TypeId) (ps : List (Nat × Nat)) : Prop := ∃ fs, P.underlying t = some (.struct fs) ∧ ∀ w, (fs.mapM fun f => do pure (f.offset, ← sizeOf f.type) : Sem (Array (Nat × Nat))).run P w = .ok ps.toArray w
theorem mapM_places {P : Program} {w : World} : ∀ (fs : List Field) (ps : List (Nat × Nat)), All2 (fun (f : Field) (p : Nat × Nat) => f.offset = p.1 ∧ ∀ w, (sizeOf f.type).run P w = .ok p.2 w) fs ps →
    (fs.mapM fun f => do pure (f.offset, ← sizeOf f.type) : Sem (List (Nat × Nat))).run P w = .ok ps w
  | _, _, .nil => by simp
  | _, _, .cons ⟨h1, h2⟩ t => by
    rw [List.mapM_cons, Sem.run_bind, Sem.run_bind, h2 w]
    simp only [Result.andThen_ok, Sem.run_pure, Sem.run_bind, mapM_places _ _ t, h1]
theorem BI.of {P : Program} {t : TypeId} {fs : Array Field} {ps : List (Nat × Nat)} (hu : P.underlying t = some (.struct fs)) (h : All2 (fun (f : Field) (p : Nat × Nat) => f.offset = p.1 ∧ ∀ w, (sizeOf f.type).run P w = .ok p.2 w) fs.toList ps) : BI P t ps := by
  refine ⟨fs, hu, fun w => ?_⟩
  rw [Array.mapM_eq_mapM_toList, Sem.run_map, mapM_places _ _ h]
  rfl
theorem r_build {P : Program} {e : Env} {w : World} {ty t : TypeId} {ps : List (Nat × Nat)} {z : List Value} {by_ : Nat} {parts : Array (Nat × Operand)} {cs : List Value} (hb : BI P t ps) (ht : TI P t true z by_) (vs : List (Nat × Value)) (ha : parts.toList.map (fun (i, x) => (i, evalE e x)) = vs)
    (hf : fillL (fun i => ps[i]?) z vs = some cs) : Ran P (.build t parts) ty e w (.agg cs.toArray) := fun _ _ _ _ => by
  obtain ⟨fs, hu, hm⟩ := hb
  have h1 : (parts.map fun x => (x.1, evalE e x.2)) = vs.toArray := by subst ha; apply Array.ext'; simp
  have hf := fill_L hf
  have hp : (fun (i : Nat) => ps.toArray[i]?) = fun (i : Nat) => ps[i]? := by funext i; simp
  have hm := hm w
  simp only [execOp, Instr.build, h1, Sem.run_bind, ht.zero, Result.andThen_ok, Sem.run_pure, cells_valOf ht.one ht.cells, run_underlying hu, hm, hp, hf]

/-! ### Numbers -/
theorem lt_of {x y : Nat} (h : decide (x < y) = true) : x < y := by simpa using h
theorem lt_of_ge {x y : Nat} (h : decide (x ≥ y) = false) : x < y := by simpa using h
theorem nat_succ {x y : Nat} (h : x < y) (hy : y ≤ 9223372036854775807) : IntKind.i64.wrap ((x : Int) + 1) = ((x + 1 : Nat) : Int) := by
  rw [i64w (by omega) (by omega)]; omega
theorem nat_add {x y : Nat} (h : decide (x + y ≤ 9223372036854775807) = true) : IntKind.i64.wrap ((x : Int) + (y : Int)) = ((x + y : Nat) : Int) := by
  have := of_decide_eq_true h
  rw [i64w (by omega) (by omega)]; omega
theorem nat_mul {x y : Nat} (h : decide (x * y ≤ 9223372036854775807) = true) : IntKind.i64.wrap ((x : Int) * (y : Int)) = ((x * y : Nat) : Int) := by
  have := of_decide_eq_true h
  have h0 : ((x : Int) * (y : Int)) = ((x * y : Nat) : Int) := by simp
  rw [h0, i64w (by omega) (by omega)]
theorem chk_eq {x z : Int} (h : chk x = some z) : IntKind.i64.wrap x = z := by obtain ⟨rfl, h⟩ := chk_some h; exact h
theorem app_le {n m N : Nat} (by_ : Nat) (h : decide (n + m ≤ N) = true) (hN : N * by_ ≤ 140737488355328 := by decide) : (n + m) * by_ ≤ 140737488355328 := Nat.le_trans (Nat.mul_le_mul_right _ (of_decide_eq_true h)) hN
end Go.Proofs.YtjpkccofeafkbaaGreat.Pvx
