/- Operations that write: maps gone over, deleted from; rows copied, cleared. Over any program. -/
import Derived.Test.YtjpkccofeafkbaaGreatPvxK3
namespace Go.Proofs.YtjpkccofeafkbaaGreat.Pvx
open Go.RowKit
set_option linter.unusedVariables false
set_option linter.unusedSimpArgs false
section ops
variable {P : Program} {T : Tab} {w0 : World} {ρ : Rho} {e : AEnv} {e' : Env} {h : Hp} {w : World} {K : AV → Hp → Bool}
theorem w_delete (TO : TabOK P T) (He : EnvR (PAll w0) ρ e e') (H : HR w0 ρ h w) {args : Array Operand} {ats : Array TypeId} (hq : wop T (.call { callee := .builtin .delete, args := args, argTypes := ats }) e h K = true) : WS P w0 ρ h K e' w (.call { callee := .builtin .delete, args := args, argTypes := ats }) := by
  simp only [wop] at hq
  split at hq
  · rename_i t ts s k ht hv
    obtain ⟨x, y, rfl, Hx, Hk⟩ := two_args He hv
    have := arr_of ht
    subst this
    split at hq
    · rename_i es c hg
      cases hb : mapKeyFits T t k with
      | false => rw [hb] at hq; cases hq
      | true =>
        rw [hb] at hq
        obtain ⟨kt, et, hu, hkf⟩ := mapKey TO hb
        have hck := fun b => run_checkKey_fits (P := P) TO hkf Hk b w
        simp only [VR] at Hx
        obtain ⟨q, hq1, hxv⟩ := Hx
        obtain ⟨es', hbk, hE⟩ := H.obj _ _ _ hq1 hg
        simp only [cond_true] at hq
        split at hq
        · rename_i i av hf
          obtain ⟨hl, hK⟩ := put_true hq
          obtain ⟨r', hrun, hF⟩ := find_sound (P := P) TO hkf Hk hE hf
          obtain ⟨v', x', rfl, h1, h2, h3, h4⟩ := hF
          obtain ⟨hHR, hKp⟩ := H.put (o := .map (es.eraseIdx i) c) hq1 hg rfl (r := .map (es'.eraseIdx i).toArray c) ⟨_, rfl, ERs.erase i hE⟩ hl
          refine ws_v (v := .tuple #[]) (fun d ty pos af g => ?_) ⟨ρ, .tup [], _, hKp, undef_VR, hHR, hK⟩
          have hlt : i < es'.length := by rw [hE.length]; exact (List.getElem?_eq_some_iff.1 h2).1
          simp [execOp, resolve, invoke, builtin, Builtin.delete_, hxv, run_underlying hu, getObj, setObj, Sem.run, hbk, hck, hrun, World.putObj, Array.eraseIdxIfInBounds, hlt]
        · rename_i hf
          obtain ⟨r', hrun, hF⟩ := find_sound (P := P) TO hkf Hk hE hf
          have : r' = none := hF
          subst this
          have hbw : w.heap.setIfInBounds q.1 (.map es'.toArray c) = w.heap := by
            apply Array.ext
            · simp
            · intro j h1 h2
              obtain ⟨hlt, he⟩ := Array.getElem?_eq_some_iff.1 hbk
              rw [Array.getElem_setIfInBounds h2]
              split
              · subst_vars; exact he.symm
              · rfl
          refine ws_v (v := .tuple #[]) (w' := w) (fun d ty pos af g => ?_) ⟨ρ, .tup [], _, Keep.refl _ _, undef_VR, H, hq⟩
          simp [execOp, resolve, invoke, builtin, Builtin.delete_, hxv, run_underlying hu, getObj, setObj, Sem.run, hbk, hck, hrun, hbw]
        · cases hq
    · cases hq
  · cases hq
theorem tyMap (TO : TabOK P T) {t : TypeId} {kt et : Nat} {i : TyI} (hi : T.ty t = some i) (hsh : i.sh = .map kt et) : P.underlying t = some (.map kt et) := by
  have := (TO.ty _ _ hi).sh; rw [hsh] at this; exact this
theorem w_range (TO : TabOK P T) (He : EnvR (PAll w0) ρ e e') (H : HR w0 ρ h w) {t : TypeId} {x : Operand} (hq : wop T (.range t x) e h K = true) : WS P w0 ρ h K e' w (.range t x) := by
  simp only [wop] at hq
  split at hq
  · rename_i i hi
    split at hq
    · rename_i kt et hsh
      have hu := tyMap TO hi hsh
      split at hq
      · rename_i hx
        have Hx := ev1_sound He hx
        simp only [VR] at Hx
        obtain ⟨hHR, hKp⟩ := H.add (N := 0) (r := .mapIter none 0 #[] 0) (o := .iter none 0 [] 0) ⟨none, rfl, rfl⟩
        refine ws_v (fun d ty pos af g => ?_) ⟨_, .ptr h.next 0, _, hKp, by simp only [VR]; exact ⟨_, if_pos rfl, rfl⟩, hHR, hq⟩
        simp [execOp, Instr.range, Hx, run_underlying hu]
      · rename_i s hx
        have Hx := ev1_sound He hx
        simp only [VR] at Hx
        obtain ⟨q, hq1, hxv⟩ := Hx
        split at hq
        · rename_i es c hg
          obtain ⟨es', hbk, hE⟩ := H.obj _ _ _ hq1 hg
          have hf := H.fresh
          have hne : s ≠ h.next := fun e => by subst e; rw [hf] at hq1; cases hq1
          obtain ⟨hHR, hKp⟩ := H.add (N := 0) (r := .mapIter (some q.1) c #[] c) (o := .iter (some s) c [] c) ⟨some q.1, rfl, q, by simp [radd, hne, hq1], rfl⟩
          refine ws_v (fun d ty pos af g => ?_) ⟨_, .ptr h.next 0, _, hKp, by simp only [VR]; exact ⟨_, if_pos rfl, rfl⟩, hHR, hq⟩
          simp [execOp, Instr.range, hxv, run_underlying hu, getObj, Sem.run, hbk]
        · cases hq
      · cases hq
    · cases hq
  · cases hq
theorem memN_contains (l : List Nat) (n : Nat) : Hp.memN l n = l.toArray.contains n := by
  induction l with
  | nil => simp [Hp.memN]
  | cons x l ih =>
    simp only [Hp.memN, ih]
    simp only [List.contains_toArray, List.contains_cons]
    congr 1
    rw [Bool.eq_iff_iff, beq_iff_eq]
    exact ⟨fun h => (Nat.eq_of_beq_eq_true h).symm, fun h => by subst h; exact Nat.beq_refl _⟩
theorem ERs.filter {σ : PHeap} {p : AEnt → Bool} {q : MapEntry → Bool} : ∀ {l : List AEnt} {es : List MapEntry}, ERs σ ρ l es → (∀ x y, y.born = x.born → q y = p x) → ERs σ ρ (l.filter p) (es.filter q)
  | [], _, h, _ => by have : _ = [] := h; subst this; rfl
  | x :: l, _, ⟨y, ys, h1, h2, h3, h4, h5⟩, hp => by
    subst h1
    simp only [List.filter_cons, hp x y h4]
    split
    · exact ⟨y, _, rfl, h2, h3, h4, ERs.filter h5 hp⟩
    · exact ERs.filter h5 hp
theorem ERs.mem {σ : PHeap} : ∀ {l : List AEnt} {es : List MapEntry} {y : MapEntry}, ERs σ ρ l es → y ∈ es → ∃ x ∈ l, VR σ x.key ρ y.key ∧ VR σ x.val ρ y.val ∧ y.born = x.born
  | [], _, y, h, hy => by have : _ = [] := h; subst this; cases hy
  | x :: l, _, y, ⟨z, zs, h1, h2, h3, h4, h5⟩, hy => by
    subst h1
    rcases List.mem_cons.1 hy with rfl | hy
    · exact ⟨x, by simp, h2, h3, h4⟩
    · obtain ⟨x', hx', g⟩ := ERs.mem h5 hy
      exact ⟨x', by simp [hx'], g⟩
theorem run_mapNext (n : Nat) (hn : 0 < n) (w : World) : ∃ j w', j < n ∧ (choose (.mapNext n)).run P w = .ok j w' ∧ (w' = w ∨ w' = w.drew) := by
  unfold choose
  by_cases h1 : n ≤ 1
  · exact ⟨0, w, hn, by simp [Sem.run, Question.forced, h1], .inl rfl⟩
  · refine ⟨w.tape w.drawn (.mapNext n) % n, w.drew, Nat.mod_lt _ hn, ?_, .inr rfl⟩
    simp [Sem.run, Question.forced, h1, Question.cut]
theorem isNil_R {σ : PHeap} {l : List AEnt} {es : List MapEntry} (h : ERs σ ρ l es) : es.toArray.isEmpty = isNil l := by
  have := h.length
  cases l <;> cases es <;> simp_all [isNil]
theorem all_R {σ : PHeap} {p : AEnt → Bool} {q : MapEntry → Bool} (hp : ∀ x y, y.born = x.born → q y = p x) : ∀ {l : List AEnt} {es : List MapEntry}, ERs σ ρ l es → es.all q = l.all p
  | [], _, h => by have : _ = [] := h; subst this; rfl
  | x :: l, _, ⟨y, ys, h1, h2, h3, h4, h5⟩ => by subst h1; simp only [List.all_cons, hp x y h4, all_R hp h5]
theorem isNil_arr {α : Type} (l : List α) : l.toArray.isEmpty = isNil l := by cases l <;> simp [isNil]
theorem isNil_filter {σ : PHeap} {l : List AEnt} {es : List MapEntry} (h : ERs σ ρ l es) : isNil es = isNil l := by rw [← isNil_arr, isNil_R h]
theorem HR.drewIf (H : HR w0 ρ h w) {w' : World} (hw : w' = w ∨ w' = w.drew) : HR w0 ρ h w' ∧ w'.heap = w.heap := by
  rcases hw with rfl | rfl
  · exact ⟨H, rfl⟩
  · exact ⟨H.drew, rfl⟩
theorem w_next (He : EnvR (PAll w0) ρ e e') (H : HR w0 ρ h w) {x : Operand} (hq : wop T (.next x false) e h K = true) : WS P w0 ρ h K e' w (.next x false) := by
  simp only [wop] at hq
  split at hq
  · rename_i r hx
    have Hx := ev1_sound He hx
    simp only [VR] at Hx
    obtain ⟨z, hz1, hxv⟩ := Hx
    split at hq
    · rename_i since seen stepped hg
      obtain ⟨m', hbk, hm'⟩ := H.obj _ _ _ hz1 hg
      have hm' : m' = none := hm'
      subst hm'
      refine ws_v (v := .tuple #[.bool false]) (w' := w) (fun d ty pos af g => ?_) ⟨ρ, .tup [.bool false], _, Keep.refl _ _, by simp only [VR]; exact ⟨_, rfl, VRs.cons bool_VR VRs.nil⟩, H, hq⟩
      simp [execOp, Instr.next, hxv, getObj, Sem.run, hbk]
    · rename_i m since seen last hg
      obtain ⟨m', hbk, y, hy, hm'⟩ := H.obj _ _ _ hz1 hg
      subst hm'
      split at hq
      · rename_i es clock hgm
        obtain ⟨es', hbm, hE⟩ := H.obj _ _ _ hy hgm
        cases hst : stale seen es last with
        | true => rw [hst] at hq; cases hq
        | false =>
          rw [hst] at hq
          simp only [cond_false, Bool.and_eq_true, List.all_eq_true] at hq
          obtain ⟨hq1, hq2⟩ := hq
          have hstale : (!seen.toArray.isEmpty && !es'.toArray.isEmpty && es'.toArray.all fun y => decide (y.born ≥ last)) = false := by
            rw [← hst]
            unfold stale
            rw [isNil_arr, isNil_R hE]
            congr 1
            rw [← all_R (p := fun x => Nat.ble last x.born) (q := fun y => decide (y.born ≥ last)) (fun x y hb => by rw [hb]; rw [Bool.eq_iff_iff]; simp) hE]
            simp
          have hleft : ERs (PAll w0) ρ (leftOf seen es) (es'.filter fun e => !seen.toArray.contains e.born) := hE.filter fun x y hb => by rw [hb, memN_contains]
          have hold : ERs (PAll w0) ρ (oldOf since (leftOf seen es)) ((es'.filter fun e => !seen.toArray.contains e.born).filter fun e => decide (e.born < since)) := hleft.filter fun x y hb => by
            rw [hb, Bool.eq_iff_iff]; simp
          generalize hL : (es'.filter fun e => !seen.toArray.contains e.born) = L at hleft hold
          generalize hC : ((if (L.filter fun e => decide (e.born < since)).isEmpty then [none] else []) ++ ((L.filter fun e => decide (e.born < since)) ++ (L.filter fun e => decide (e.born ≥ since))).map some : List (Option MapEntry)) = C
          have hCpos : 0 < C.length := by
            rw [← hC]
            cases hoi : (L.filter fun e => decide (e.born < since)) with
            | nil => simp
            | cons a l => simp
          obtain ⟨j, w1, hj, hrun, hw1⟩ := run_mapNext (P := P) C.length hCpos w
          obtain ⟨H1, hheap⟩ := H.drewIf hw1
          have hcand : ∃ c, C[j]? = some c := ⟨_, List.getElem?_eq_getElem hj⟩
          obtain ⟨c, hc⟩ := hcand
          have hmem : c ∈ C := List.mem_of_getElem? hc
          have hcand2 : ((if (L.filter fun e => decide (e.born < since)).toArray.isEmpty then #[none] else #[]) ++ ((L.filter fun e => decide (e.born < since)).toArray ++ (L.filter fun e => decide (e.born ≥ since)).toArray).map some : Array (Option MapEntry)) = C.toArray := by
            rw [← hC]
            cases (L.filter fun e => decide (e.born < since)) <;> simp
          have hLA : (es'.toArray.filter fun e => !seen.toArray.contains e.born) = L.toArray := by rw [← hL]; simp
          have hcA : C.toArray[j]? = some c := by simpa using hc
          have hst2 : ¬ ((!seen.toArray.isEmpty && !es'.toArray.isEmpty && es'.toArray.all fun y => decide (y.born ≥ last)) = true) := by rw [hstale]; simp
          have hg1 : ∀ w, w.heap[z.1]? = some (.mapIter (some y.1) since seen.toArray last) → (getObj z.1).run P w = .ok (.mapIter (some y.1) since seen.toArray last) w := by
            intro w hw; simp [getObj, Sem.run, hw]
          have hg2 : ∀ w, w.heap[y.1]? = some (.map es'.toArray clock) → (getObj y.1).run P w = .ok (.map es'.toArray clock) w := by
            intro w hw; simp [getObj, Sem.run, hw]
          have hexec : ∀ (d : Option Tmp) (ty : TypeId) (pos : String) (af : Array Edge) (g : Option (Nat × Bool)), (execOp (evalE e') ⟨d, .next x false, ty, pos, af, g⟩).run P w = ((match c with
              | some e => (do setObj z.1 (.mapIter (some y.1) since (seen.toArray.push e.born) clock); pure (.tuple #[.bool true, e.key, e.val]) : Sem Value)
              | none => pure (.tuple #[.bool false])).run P w1).andThen fun v w => .ok (.value v) w := by
            intro d ty pos af g
            simp only [execOp, Instr.next, hxv, Sem.run_bind, hg1 w hbk, Result.andThen_ok, hg2 w hbm]
            rw [if_neg hst2]
            have hrun' : (choose (.mapNext C.toArray.size)).run P w = .ok j w1 := by simpa using hrun
            rw [hLA]
            simp only [List.filter_toArray, hcand2, Sem.run_bind, hrun', Result.andThen_ok, hcA]
            cases c <;> rfl
          cases c with
          | none =>
            have hnil : isNil (oldOf since (leftOf seen es)) = true := by
              rw [← isNil_filter hold]
              cases ho : (L.filter fun e => decide (e.born < since)) with
              | nil => rfl
              | cons a l =>
                rw [← hC, ho] at hmem
                simp at hmem
            rw [hnil] at hq1
            refine ws_v (v := .tuple #[.bool false]) (w' := w1) (fun d ty pos af g => ?_) ⟨ρ, .tup [.bool false], _, Keep.refl _ _, by simp only [VR]; exact ⟨_, rfl, VRs.cons bool_VR VRs.nil⟩, H1, hq1⟩
            rw [hexec]; simp
          | some en =>
            have hin : en ∈ L := by
              rw [← hC] at hmem
              simp only [List.mem_append, List.mem_map, Option.some.injEq, exists_eq_right] at hmem
              rcases hmem with hmem | hmem | hmem
              · split at hmem <;> simp at hmem
              · exact (List.mem_filter.1 hmem).1
              · exact (List.mem_filter.1 hmem).1
            obtain ⟨xx, hxin, g1, g2, g3⟩ := hleft.mem hin
            obtain ⟨hl, hK⟩ := put_true (hq2 xx hxin)
            obtain ⟨hHR, hKp⟩ := H1.put (o := .iter (some m) since (seen ++ [xx.born]) clock) hz1 hg rfl (r := .mapIter (some y.1) since (seen.toArray.push en.born) clock) ⟨some y.1, by rw [g3]; simp, y, hy, rfl⟩ hl
            refine ws_v (v := .tuple #[.bool true, en.key, en.val]) (fun d ty pos af g => ?_) ⟨ρ, .tup [.bool true, xx.key, xx.val], _, hKp, by simp only [VR]; exact ⟨[_, _, _], rfl, VRs.cons bool_VR (VRs.cons g1 (VRs.cons g2 VRs.nil))⟩, hHR, hK⟩
            rw [hexec]
            have hb1 : w1.heap[z.1]? = some (.mapIter (some y.1) since seen.toArray last) := by rw [hheap]; exact hbk
            simp [setObj, Sem.run, hb1, World.putObj]
      · cases hq
    · cases hq
  · cases hq
theorem find_R {σ : PHeap} {st : Nat} : ∀ {l : List AEnt} {es : List MapEntry} {x : AEnt}, ERs σ ρ l es → l.find? (fun x => Nat.beq x.born st) = some x → ∃ y, es.find? (fun y => y.born == st) = some y ∧ VR σ x.key ρ y.key ∧ VR σ x.val ρ y.val
  | [], _, x, h, hf => by simp at hf
  | z :: l, _, x, ⟨y, ys, h1, h2, h3, h4, h5⟩, hf => by
    subst h1
    rw [List.find?_cons] at hf ⊢
    cases hb : Nat.beq z.born st with
    | true =>
      rw [hb] at hf; cases hf
      have := Nat.eq_of_beq_eq_true hb
      have h6 : (y.born == st) = true := by rw [h4, this]; simp
      rw [h6]
      exact ⟨y, rfl, h2, h3⟩
    | false =>
      rw [hb] at hf
      have h6 : (y.born == st) = false := by
        rw [h4]
        cases hh : (z.born == st) with
        | false => rfl
        | true => rw [beq_iff_eq] at hh; rw [hh, Nat.beq_refl] at hb; cases hb
      rw [h6]
      exact find_R h5 hf
theorem w_entry (He : EnvR (PAll w0) ρ e e') (H : HR w0 ρ h w) {x : Operand} (hq : wop T (.entry x) e h K = true) : WS P w0 ρ h K e' w (.entry x) := by
  simp only [wop] at hq
  split at hq
  · rename_i r hx
    have Hx := ev1_sound He hx
    simp only [VR] at Hx
    obtain ⟨z, hz1, hxv⟩ := Hx
    split at hq
    · rename_i m since seen stepped hg
      obtain ⟨m', hbk, y, hy, hm'⟩ := H.obj _ _ _ hz1 hg
      subst hm'
      split at hq
      · rename_i st hst
        split at hq
        · rename_i es clock hgm
          obtain ⟨es', hbm, hE⟩ := H.obj _ _ _ hy hgm
          cases hb : Nat.beq clock stepped with
          | false => rw [hb] at hq; cases hq
          | true =>
            rw [hb] at hq
            have := Nat.eq_of_beq_eq_true hb
            subst this
            simp only [cond_true] at hq
            split at hq
            · rename_i xx hf
              obtain ⟨yy, g1, g2, g3⟩ := find_R hE hf
              refine ws_v (v := .tuple #[yy.key, yy.val]) (w' := w) (fun d ty pos af g => ?_) ⟨ρ, .tup [xx.key, xx.val], _, Keep.refl _ _, by simp only [VR]; exact ⟨[_, _], rfl, VRs.cons g2 (VRs.cons g3 VRs.nil)⟩, H, hq⟩
              have hback : seen.toArray.back? = some st := by simpa using hst
              simp [execOp, Instr.entry, hxv, getObj, Sem.run, hbk, hbm, hst, g1]
            · cases hq
        · cases hq
      · cases hq
    · cases hq
  · cases hq
end ops
end Go.Proofs.YtjpkccofeafkbaaGreat.Pvx
