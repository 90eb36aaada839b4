/- Maps: keys and entries; all operations that leave the memory as it is. Over any program. -/
import Derived.Test.YtjpkccofeafkbaaGreatPvxQ4
namespace Go.Proofs.YtjpkccofeafkbaaGreat.Pvx
open Go.RowKit
set_option linter.unusedVariables false
set_option linter.unusedSimpArgs false
section ops
variable {P : Program} {T : Tab} {w0 : World} {ρ : Rho} {e : AEnv} {e' : Env} {h : Hp} {w : World} {a : AV}
theorem keyFits_cases (TO : TabOK P T) {kt : TypeId} {k : AV} (hk : keyFits T kt k = true) : (∃ ik n, k = .int ik n ∧ P.underlying kt = some (.int ik)) ∨ ∃ cs fs ft b ks fields, k = .agg cs ∧ StructOK P kt fs ft (b :: ks) fields ∧ fitCells (b :: ks) cs = true := by
  unfold keyFits at hk
  split at hk
  · rename_i i hi
    have ok := (TO.ty _ _ hi).sh
    split at hk
    · rename_i k' ik n hsh
      rw [hsh] at ok
      cases kEq_eq hk
      exact .inl ⟨_, _, rfl, ok⟩
    · rename_i fs ft b ks cs hsh
      rw [hsh] at ok
      obtain ⟨fields, hS⟩ := ok
      exact .inr ⟨_, _, _, _, _, _, rfl, hS, hk⟩
    · cases hk
  · cases hk
theorem forIn_unit {α : Type} {w : World} {body : α → PUnit → Sem (ForInStep PUnit)} : ∀ (l : List α), (∀ x ∈ l, ∀ u, (body x u).run P w = .ok (.yield PUnit.unit) w) → (forIn l PUnit.unit body : Sem PUnit).run P w = .ok PUnit.unit w
  | [], _ => by simp
  | x :: l, h => by
    simp only [List.forIn_cons, Sem.run_bind, h x (by simp), Result.andThen_ok]
    exact forIn_unit l fun y hy => h y (by simp [hy])
theorem run_checkKey_agg {kt : TypeId} {fs : List (Nat × Nat)} {ft : List Nat} {k : Bool} {ks : List Bool} {fields : Array Field} (hS : StructOK P kt fs ft (k :: ks) fields) {vs : List Value} (hl : vs.length = (k :: ks).length) (b : Bool) (w : World) : (Instr.checkKey b 10000 kt (.agg vs.toArray)).run P w = .ok () w := by
  obtain ⟨g1, g2, g3, g4⟩ := hS.flat (by simp)
  have key : ∀ n, (Instr.checkKey b (n + 2) kt (.agg vs.toArray)).run P w = .ok () w := fun n => by
    unfold Instr.checkKey
    simp only [Sem.run_bind, run_underlying hS.under, Result.andThen_ok]
    rw [← Array.forIn_toList, forIn_unit (P := P) (w := w) fields.toList ?_]
    · rfl
    · intro f hf u
      obtain ⟨i, hi, hfi⟩ := List.getElem_of_mem hf
      have hi' : i < fields.size := by simpa using hi
      have hfi' : fields[i]? = some f := by rw [Array.getElem?_eq_getElem hi']; congr 1
      have hq : ∃ q, (k :: ks)[i]? = some q := ⟨_, List.getElem?_eq_getElem (by rw [g3]; exact hi')⟩
      obtain ⟨q, hq⟩ := hq
      obtain ⟨h1, h2, h3⟩ := g4 i f q hfi' hq
      have hp : ∃ u, (part f.type vs.toArray f.offset).run P w = .ok u w := by
        unfold part
        rw [Sem.run_bind, isAgg_scalar h3]
        have hlt : f.offset < vs.length := by rw [h2, hl, g3]; exact hi'
        simp [hlt]
      obtain ⟨u, hp⟩ := hp
      have hck : (Instr.checkKey b (n + 1) f.type u).run P w = .ok () w := by
        unfold Instr.checkKey
        cases q with
        | true =>
          have h3 : P.underlying f.type = some .bool := h3
          simp [run_underlying h3]
        | false =>
          obtain ⟨ik, h3⟩ := h3
          simp [run_underlying h3]
      simp [h1, hp, hck]
  exact key 9998
theorem run_checkKey_fits (TO : TabOK P T) {kt : TypeId} {k : AV} {kv : Value} (hk : keyFits T kt k = true) (Hk : VR (PAll w0) k ρ kv) (b : Bool) (w : World) : (Instr.checkKey b 10000 kt kv).run P w = .ok () w := by
  rcases keyFits_cases TO hk with ⟨ik, n, rfl, hu⟩ | ⟨cs, fs, ft, k0, ks, fields, rfl, hS, hf⟩
  · have := VR_int Hk; subst this
    exact run_checkKey hu b n
  · simp only [VR] at Hk
    obtain ⟨vs, rfl, hv, _⟩ := Hk
    refine run_checkKey_agg hS ?_ b w
    rw [hv.length]
    have : ∀ (ks : List Bool) (cs : List AV), fitCells ks cs = true → cs.length = ks.length := by
      intro ks
      induction ks with
      | nil => intro cs h; cases cs with | nil => rfl | cons c l => simp [fitCells] at h
      | cons k ks ih =>
        intro cs h
        cases cs with
        | nil => cases k <;> simp [fitCells] at h
        | cons c l => cases k <;> cases c <;> simp [fitCells] at h <;> simp [ih l h]
    exact this _ _ hf
/-- What finding a key tells. -/
def FindR (w0 : World) (ρ : Rho) (k : AV) (l : List AEnt) : Option (Nat × AV) → Option (Nat × Value) → Prop
  | none, r' => r' = none
  | some (i, a), r' => ∃ v x, r' = some (i, v) ∧ VR (PAll w0) a ρ v ∧ l[i]? = some x ∧ x.val = a ∧ keyEq k x.key = some true
theorem findAsking_sound {kt : TypeId} {k : AV} {kv : Value} (heq : ∀ (b : AV) (y : Value) (r : Bool), keyEq k b = some r → VR (PAll w0) b ρ y → EqV P kt kv y r) : ∀ (l : List AEnt) (es : List MapEntry) (i : Nat) (r : Option (Nat × AV)) (l0 : List AEnt), ERs (PAll w0) ρ l es → findA k l i = some r → l0.drop i = l →
    ∃ r', (∀ w, (Instr.findAsking kt kv es i).run P w = .ok r' w) ∧ FindR w0 ρ k l0 r r'
  | [], es, i, r, l0, hE, hf, hl => by
    have : es = [] := hE
    subst this
    simp only [findA, Option.some.injEq] at hf; subst hf
    exact ⟨none, fun w => by simp [Instr.findAsking], rfl⟩
  | x :: l, es, i, r, l0, hE, hf, hl => by
    obtain ⟨y, ys, rfl, h1, h2, h3, h4⟩ := hE
    have hx : l0[i]? = some x := by
      have : (l0.drop i)[0]? = some x := by rw [hl]; rfl
      rw [List.getElem?_drop] at this; simpa using this
    unfold findA at hf
    split at hf
    · rename_i hk
      cases hf
      exact ⟨some (i, y.val), fun w => by simp [Instr.findAsking, heq _ _ _ hk h1 w], y.val, x, rfl, h2, hx, rfl, hk⟩
    · rename_i hk
      obtain ⟨r', g1, g2⟩ := findAsking_sound heq l ys (i + 1) r l0 h4 hf (by
        have : l0.drop (i + 1) = (l0.drop i).drop 1 := by rw [List.drop_drop]
        rw [this, hl]; rfl)
      exact ⟨r', fun w => by simp [Instr.findAsking, heq _ _ _ hk h1 w, g1 w], g2⟩
    · cases hf
theorem findNow_sound {ik : IntKind} {n : Int} : ∀ (l : List AEnt) (es : List MapEntry) (i : Nat) (r : Option (Nat × AV)) (l0 : List AEnt), ERs (PAll w0) ρ l es → findA (.int ik n) l i = some r → l0.drop i = l →
    ∃ r', Instr.findNow (.int ik) (.int ik n) es i = some r' ∧ FindR w0 ρ (.int ik n) l0 r r'
  | [], es, i, r, l0, hE, hf, hl => by
    have : es = [] := hE
    subst this
    simp only [findA, Option.some.injEq] at hf; subst hf
    exact ⟨none, rfl, rfl⟩
  | x :: l, es, i, r, l0, hE, hf, hl => by
    obtain ⟨y, ys, rfl, h1, h2, h3, h4⟩ := hE
    have hx : l0[i]? = some x := by
      have : (l0.drop i)[0]? = some x := by rw [hl]; rfl
      rw [List.getElem?_drop] at this; simpa using this
    have hsame : ∀ r, keyEq (.int ik n) x.key = some r → Instr.sameNow (.int ik) (.int ik n) y.key = some r := by
      intro r hr
      cases hxk : x.key <;> rw [hxk] at hr h1 <;> simp [keyEq, cellEq] at hr
      rename_i k2 m
      have h1 := VR_int h1
      cases hkk : kEq ik k2 with
      | false => rw [hkk] at hr; simp at hr
      | true =>
        rw [hkk] at hr
        simp only [cond_true, Option.some.injEq] at hr
        cases kEq_eq hkk
        rw [h1]
        simp [Instr.sameNow, ← hr, intEq_eq]
    unfold findA at hf
    split at hf
    · rename_i hk
      cases hf
      exact ⟨some (i, y.val), by simp [Instr.findNow, hsame _ hk], y.val, x, rfl, h2, hx, rfl, hk⟩
    · rename_i hk
      obtain ⟨r', g1, g2⟩ := findNow_sound l ys (i + 1) r l0 h4 hf (by
        have : l0.drop (i + 1) = (l0.drop i).drop 1 := by rw [List.drop_drop]
        rw [this, hl]; rfl)
      exact ⟨r', by simp [Instr.findNow, hsame _ hk, g1], g2⟩
    · cases hf
theorem find_sound (TO : TabOK P T) {kt : TypeId} {k : AV} {kv : Value} (hk : keyFits T kt k = true) (Hk : VR (PAll w0) k ρ kv) {l : List AEnt} {es : List MapEntry} (hE : ERs (PAll w0) ρ l es) {r : Option (Nat × AV)} (hf : findA k l 0 = some r) :
    ∃ r', (∀ w, (Instr.findKey kt kv es).run P w = .ok r' w) ∧ FindR w0 ρ k l r r' := by
  rcases keyFits_cases TO hk with ⟨ik, n, rfl, hu⟩ | ⟨cs, fs, ft, k0, ks, fields, rfl, hS, hfit⟩
  · have := VR_int Hk; subst this
    obtain ⟨r', h1, h2⟩ := findNow_sound l es 0 r l hE hf rfl
    exact ⟨r', fun w => run_findKey hu h1, h2⟩
  · have heq : ∀ (b : AV) (y : Value) (r : Bool), keyEq (.agg cs) b = some r → VR (PAll w0) b ρ y → EqV P kt kv y r := by
      intro b y r hr hy
      cases b <;> simp [keyEq, cellEq] at hr
      exact agg_sound hS hfit hr Hk hy
    obtain ⟨r', h1, h2⟩ := findAsking_sound heq l es 0 r l hE hf rfl
    cases es with
    | nil =>
      refine ⟨r', fun w => ?_, h2⟩
      have := h1 w
      simp only [Instr.findKey, Sem.run_bind, run_underlying hS.under, Result.andThen_ok, Instr.findNow, Sem.run_pure]
      simpa [Instr.findAsking] using this
    | cons y ys =>
      refine ⟨r', fun w => ?_, h2⟩
      have hn : Instr.findNow (.struct fields) kv (y :: ys) 0 = none := by
        simp only [VR] at Hk
        obtain ⟨vs, rfl, _⟩ := Hk
        simp [Instr.findNow, Instr.sameNow]
      simp only [Instr.findKey, Sem.run_bind, run_underlying hS.under, Result.andThen_ok, hn]
      exact h1 w
theorem q_lookup (TO : TabOK P T) (He : EnvR (PAll w0) ρ e e') (H : HR w0 ρ h w) {t : TypeId} {x y : Operand} {ok : Bool} (hq : qop T (.lookup t x y ok) e h = some a) : QS P w0 ρ e' w (.lookup t x y ok) a := by
  simp only [qop] at hq
  split at hq
  · rename_i i hi
    have oki := (TO.ty _ _ hi).sh
    split at hq
    · rename_i kt et hsh
      rw [hsh] at oki
      have hu : P.underlying t = some (.map kt et) := oki
      split at hq
      · rename_i j hj
        obtain ⟨zs, hti, hz⟩ := (TO.ty _ _ hj).ti
        split at hq
        · rename_i k hy
          have Hk := ev1_sound He hy
          cases hkf : keyFits T kt k with
          | false => rw [hkf] at hq; cases hq
          | true =>
            rw [hkf] at hq
            simp only [cond_true] at hq
            have hck := fun b => run_checkKey_fits (P := P) TO hkf Hk b w
            have hzero : ∀ z, valA j.agg j.z = some z → VR (PAll w0) z ρ (valOf j.agg zs) := fun z hzv => VR.ofCells hzv (hz (PAll w0) ρ) hti.cells
            have fin : ∀ (q : Option (Nat × AV)) (r' : Option (Nat × Value)) (l : List AEnt), FindR w0 ρ k l q r' →
                lookRes j ok q = some a →
                (∀ (v : Value) (b : Bool), (match r' with | some (_, v) => (v, true) | none => (valOf j.agg zs, false)) = (v, b) → VR (PAll w0) a ρ (if ok then .tuple #[v, .bool b] else v)) := by
              intro q r' l hF hq v b hr
              cases q with
              | none =>
                have : r' = none := hF
                subst this
                simp only [Prod.mk.injEq] at hr
                obtain ⟨rfl, rfl⟩ := hr
                simp only [lookRes] at hq
                split at hq
                · rename_i z hzv
                  cases hq
                  have := hzero z hzv
                  cases ok with
                  | false => exact this
                  | true => simp only [VR, cond_true, if_true]; exact ⟨[_, _], rfl, VRs.cons this (VRs.cons bool_VR VRs.nil)⟩
                · cases hq
              | some p =>
                obtain ⟨i, a'⟩ := p
                obtain ⟨v', x, rfl, h1, _⟩ := hF
                simp only [Prod.mk.injEq] at hr
                obtain ⟨rfl, rfl⟩ := hr
                cases hq
                cases ok with
                | false => exact h1
                | true => simp only [VR, cond_true, if_true]; exact ⟨[_, _], rfl, VRs.cons h1 (VRs.cons bool_VR VRs.nil)⟩
            cases hx : ev1 e x with
            | none => simp [hx] at hq
            | some m =>
              have Hx := ev1_sound He hx
              rw [hx] at hq
              cases m <;> simp only [reduceCtorEq] at hq <;> first | (cases hq; done) | skip
              · -- nil map
                have hv : evalE e' x = .map none := by simpa only [VR] using Hx
                refine ⟨_, fun ty d pos af g => ?_, fin none none [] rfl hq (valOf j.agg zs) false rfl⟩
                have hfk : (Instr.findKey kt (evalE e' y) []).run P w = .ok none w := by
                  have := find_sound (P := P) TO hkf Hk (l := []) (es := []) (show ERs (PAll w0) ρ [] [] from rfl) (r := none) rfl
                  obtain ⟨r', h1, h2⟩ := this
                  have : r' = none := h2
                  subst this
                  exact h1 w
                simp [execOp, Instr.lookup, hv, run_underlying hu, hck, hfk, hti.zero]
              · rename_i s
                simp only [VR] at Hx
                obtain ⟨z, hz1, hv⟩ := Hx
                cases hg : h.get s with
                | none => simp [hg] at hq
                | some o =>
                  cases o <;> simp only [hg, reduceCtorEq] at hq <;> first | (cases hq; done) | skip
                  rename_i es c
                  obtain ⟨es', hb, hE⟩ := H.obj _ _ _ hz1 hg
                  cases hfa : findA k es 0 with
                  | none => simp [hfa] at hq
                  | some r =>
                    obtain ⟨r', hrun, hF⟩ := find_sound (P := P) TO hkf Hk hE hfa
                    rw [hfa] at hq
                    refine ⟨_, fun ty d pos af g => ?_, fin r r' es hF hq _ _ rfl⟩
                    cases r' with
                    | none => simp [execOp, Instr.lookup, hv, run_underlying hu, getObj, Sem.run, hb, hck, hrun, hti.zero]
                    | some p => simp [execOp, Instr.lookup, hv, run_underlying hu, getObj, Sem.run, hb, hck, hrun]
        · cases hq
      · cases hq
    · cases hq
  · cases hq
/-- All of them. -/
theorem qop_sound (TO : TabOK P T) (He : EnvR (PAll w0) ρ e e') (H : HR w0 ρ h w) {o : Op} (hq : qop T o e h = some a) : QS P w0 ρ e' w o a := by
  cases o with
  | move x => exact q_move He hq
  | assign x => exact q_assign He hq
  | pick c x y => exact q_pick He hq
  | build t ps => exact q_build TO He hq
  | load t x => exact q_load TO He H hq
  | nilCheck x => exact q_nilCheck He hq
  | binOp op xt x y yt => exact q_binOp TO He hq
  | unOp op t x =>
    cases op with
    | not => exact q_not He hq
    | neg => exact q_neg He hq
    | _ => simp [qop] at hq
  | convert s d x => exact q_convert TO He H hq
  | makeInterface t x => exact q_makeInterface TO He hq
  | typeAssert x xt t ok =>
    cases ok with
    | false => exact q_typeAssert TO He hq
    | true => simp [qop] at hq
  | makeFunc fn f c =>
    cases fn with
    | func f => exact q_makeFunc He hq
    | _ => simp [qop] at hq
  | slice t x l hh m => exact q_slice TO He hq
  | fieldAddr t x f => exact q_fieldAddr TO He hq
  | field t x f => exact q_field TO He hq
  | indexAddr t x i => exact q_indexAddr TO He hq
  | index t x i => exact q_index TO He hq
  | lookup t x i ok => exact q_lookup TO He H hq
  | extract x n => exact q_extract He hq
  | call c =>
    obtain ⟨cl, args, ats⟩ := c
    cases cl with
    | builtin b =>
      cases b with
      | len => exact q_len TO He H hq
      | cap => exact q_cap TO He hq
      | min => exact q_min He hq
      | max => exact q_max He hq
      | _ => simp [qop] at hq
    | _ => simp [qop] at hq
  | _ => simp [qop] at hq
end ops
end Go.Proofs.YtjpkccofeafkbaaGreat.Pvx
