/- Operations that write: stores, maps. Over any program. -/
import Derived.Test.YtjpkccofeafkbaaGreatPvxK2
namespace Go.Proofs.YtjpkccofeafkbaaGreat.Pvx
open Go.RowKit
set_option linter.unusedVariables false
set_option linter.unusedSimpArgs false
section ops
variable {P : Program} {T : Tab} {w0 : World} {ρ : Rho} {e : AEnv} {e' : Env} {h : Hp} {w : World} {K : AV → Hp → Bool}
/-- An operation comes to a state that is told of. -/
def WS (P : Program) (w0 : World) (ρ : Rho) (h : Hp) (K : AV → Hp → Bool) (e' : Env) (w : World) (o : Op) : Prop := ∀ d ty pos af g, stepE P ⟨d, o, ty, pos, af, g⟩ e' w (Good w0 ρ h K)
theorem ws_v {o : Op} {v : Value} {w' : World} (hr : ∀ d ty pos af g, (execOp (evalE e') ⟨d, o, ty, pos, af, g⟩).run P w = .ok (.value v) w') (hG : Good w0 ρ h K v w') : WS P w0 ρ h K e' w o := fun d ty pos af g => by
  unfold stepE; rw [hr]; exact hG
theorem ws_s {o : Op} {w' : World} (hr : ∀ d ty pos af g, (execOp (evalE e') ⟨d, o, ty, pos, af, g⟩).run P w = .ok .skip w') (hG : Good w0 ρ h K undef w') : WS P w0 ρ h K e' w o := fun d ty pos af g => by
  unfold stepE; rw [hr]; exact hG
theorem undef_VR {σ : PHeap} : VR σ (.tup []) ρ undef := by simp only [VR]; exact ⟨[], rfl, VRs.nil⟩
/-- A row, with some cells written over. -/
theorem row_over (H : HR w0 ρ h w) {s : Nat} {x : Nat × Nat} {cs nv : List AV} {t : TypeId} {off : Nat} {nvs : List Value} (hs : ρ s = some x) (hg : h.get s = some (.row cs t)) (hn : VRs (PAll w0) nv ρ nvs) (h1 : ∀ u ∈ nvs, u.oneCell' = true) (hle : off + nv.length ≤ cs.length) (hl : Hp.memN h.locks s = false) :
    ∃ c : Array Value, w.heap[x.1]? = some (.cells c t (0, 0)) ∧ off + nvs.length ≤ c.size ∧
      HR w0 ρ (h.put' s (.row (over cs off nv) t)) (w.putObj x.1 (.cells (c.toList.take off ++ nvs ++ c.toList.drop (off + nvs.length)).toArray t (0, 0))) ∧ Keep ρ h ρ (h.put' s (.row (over cs off nv) t)) := by
  obtain ⟨vs, junk, hb, hv, hone, hlen⟩ := H.row hs hg
  have hvl := hv.length
  have hnl := hn.length
  refine ⟨_, hb, by simp; omega, ?_⟩
  refine H.put hs hg rfl ⟨vs.take off ++ nvs ++ vs.drop (off + nvs.length), junk, ?_, over_R off hv hn, ones_over off hone h1, ?_⟩ hl
  · congr 2
    simp only [List.take_append_of_le_length (show off ≤ vs.length by omega), List.drop_append_of_le_length (show off + nvs.length ≤ vs.length by omega), List.append_assoc]
  · simp only [List.length_append, List.length_take, List.length_drop] at hlen ⊢
    omega
theorem w_store (TO : TabOK P T) (He : EnvR (PAll w0) ρ e e') (H : HR w0 ρ h w) {t : TypeId} {x y : Operand} (hq : wop T (.store t x y) e h K = true) : WS P w0 ρ h K e' w (.store t x y) := by
  simp only [wop] at hq
  split at hq
  · rename_i s off hx
    split at hq
    · rename_i v hy
      split at hq
      · rename_i i hi
        split at hq
        · rename_i cs u hg
          cases hb : (Nat.beq (cellsOf v).length i.z.length && Nat.ble (off + i.z.length) cs.length) with
          | false => rw [hb] at hq; cases hq
          | true =>
            rw [hb] at hq
            simp only [Bool.and_eq_true] at hb
            have b1 := Nat.eq_of_beq_eq_true hb.1
            have b2 := Nat.le_of_ble_eq_true hb.2
            obtain ⟨hl, hK⟩ := put_true hq
            have ok := TO.ty _ _ hi
            obtain ⟨zs, hti, hz⟩ := ok.ti
            have hzl := (hz (PAll w0) ρ).length
            have Hx := ev1_sound He hx
            simp only [VR] at Hx
            obtain ⟨z, hz1, hv⟩ := Hx
            obtain ⟨c1, c2, c3⟩ := (ev1_sound He hy).cells b1 ok.pos
            obtain ⟨c, hbk, hsz, hHR, hKp⟩ := row_over H hz1 hg c1 c2 (by rw [b1]; exact b2) hl
            have hlen : (evalE e' y).cells.toList.length = i.z.length := by simpa using c3
            refine ws_s (fun d ty pos af g => ?_) ⟨ρ, .tup [], _, hKp, undef_VR, hHR, hK⟩
            have hrun := run_storeVar hti hbk (v := evalE e' y) (f := off) (by rw [c3, hzl]) c2 (by rw [hzl]; omega)
            rw [hzl, ← hlen] at hrun
            simp [execOp, Instr.storeAt, Instr.sureAddr, hv, hrun]
        · cases hq
      · cases hq
    · cases hq
  · cases hq

/-! ### Keys -/
theorem cellEq_true {σ : PHeap} {a b : AV} {x y : Value} (hh : cellEq a b = some true) (hx : VR σ a ρ x) (hy : VR σ b ρ y) : x = y := by
  unfold cellEq at hh
  split at hh
  · rename_i k n k' n'
    cases hk : kEq k k' with
    | false => rw [hk] at hh; cases hh
    | true =>
      rw [hk] at hh
      cases kEq_eq hk
      have : n = n' := by simpa [intEq] using hh
      subst this
      rw [VR_int hx, VR_int hy]
  · rename_i b1 b2
    have : b1 = b2 := by cases b1 <;> cases b2 <;> simp [bEq] at hh <;> rfl
    subst this
    rw [VR_bool hx, VR_bool hy]
  · rename_i s1 s2
    have : s1 = s2 := by simp only [Option.some.injEq, bytesEq_eq] at hh; simpa using hh
    subst this
    rw [VR_str hx, VR_str hy]
  · cases hh
theorem cellsEq_true {σ : PHeap} : ∀ {a b : List AV} {x y : List Value}, cellsEq a b = some true → VRs σ a ρ x → VRs σ b ρ y → x = y
  | [], [], x, y, _, hx, hy => by simp only [VRs] at hx hy; rw [hx, hy]
  | [], _ :: _, _, _, hh, _, _ => by simp [cellsEq] at hh
  | _ :: _, [], _, _, hh, _, _ => by simp [cellsEq] at hh
  | a :: l, b :: m, x, y, hh, hx, hy => by
    simp only [VRs] at hx hy
    obtain ⟨u, us, rfl, h1, h2⟩ := hx
    obtain ⟨v, vs, rfl, h3, h4⟩ := hy
    unfold cellsEq at hh
    cases h5 : cellEq a b with
    | none => simp [h5] at hh
    | some r =>
      cases h6 : cellsEq l m with
      | none => simp [h5, h6] at hh
      | some q =>
        simp only [h5, h6, Option.some.injEq, Bool.and_eq_true] at hh
        obtain ⟨rfl, rfl⟩ := hh
        rw [cellEq_true h5 h1 h3, cellsEq_true h6 h2 h4]
theorem keyEq_true {σ : PHeap} {a b : AV} {x y : Value} (hh : keyEq a b = some true) (hx : VR σ a ρ x) (hy : VR σ b ρ y) : x = y := by
  unfold keyEq at hh
  split at hh
  · simp only [VR] at hx hy
    obtain ⟨vs, rfl, h1, _⟩ := hx
    obtain ⟨us, rfl, h2, _⟩ := hy
    rw [cellsEq_true hh h1 h2]
  · exact cellEq_true hh hx hy
theorem sameBits_refl (TO : TabOK P T) {kt : TypeId} {k : AV} {v : Value} (hk : keyFits T kt k = true) (Hk : VR (PAll w0) k ρ v) : Instr.sameBits 10000 v v = true := by
  rcases keyFits_cases TO hk with ⟨ik, n, rfl, _⟩ | ⟨cs, fs, ft, k0, ks, fields, rfl, _, hfit⟩
  · rw [VR_int Hk]; simp [Instr.sameBits]
  · simp only [VR] at Hk
    obtain ⟨vs, rfl, hv, _⟩ := Hk
    have key : ∀ (n : Nat) (ks : List Bool) (cs : List AV) (vs : List Value), fitCells ks cs = true → VRs (PAll w0) cs ρ vs → ((vs.zip vs).all fun (x, y) => Instr.sameBits n x y) = true := by
      intro n ks
      induction ks with
      | nil =>
        intro cs vs h1 h2
        cases cs with
        | nil => simp only [VRs] at h2; subst h2; rfl
        | cons c l => simp [fitCells] at h1
      | cons k ks ih =>
        intro cs vs h1 h2
        cases cs with
        | nil => cases k <;> simp [fitCells] at h1
        | cons c l =>
          simp only [VRs] at h2
          obtain ⟨u, us, rfl, h3, h4⟩ := h2
          cases k <;> cases c <;> simp [fitCells] at h1
          · rw [VR_int h3]
            simp only [List.zip_cons_cons, List.all_cons, ih l us h1 h4, Bool.and_true]
            cases n <;> simp [Instr.sameBits]
          · rw [VR_bool h3]
            simp only [List.zip_cons_cons, List.all_cons, ih l us h1 h4, Bool.and_true]
            cases n <;> simp [Instr.sameBits]
    have := key 9999 _ _ _ hfit hv
    show Instr.sameBits (9999 + 1) _ _ = true
    simp only [Instr.sameBits, this]
    simp
theorem ERs.append {σ : PHeap} : ∀ {l m : List AEnt} {es fs : List MapEntry}, ERs σ ρ l es → ERs σ ρ m fs → ERs σ ρ (l ++ m) (es ++ fs)
  | [], _, _, _, h, k => by have : _ = [] := h; subst this; exact k
  | _ :: _, _, _, _, ⟨y, ys, h1, h2, h3, h4, h5⟩, k => by subst h1; exact ⟨y, _, rfl, h2, h3, h4, ERs.append h5 k⟩
theorem ERs.modify {σ : PHeap} {f : AEnt → AEnt} {g : MapEntry → MapEntry} : ∀ {l : List AEnt} {es : List MapEntry} (i : Nat), ERs σ ρ l es → (∀ x y, l[i]? = some x → es[i]? = some y → VR σ (f x).key ρ (g y).key ∧ VR σ (f x).val ρ (g y).val ∧ (g y).born = (f x).born) → ERs σ ρ (l.modify i f) (es.modify i g)
  | [], _, i, h, _ => by have : _ = [] := h; subst this; simpa using h
  | x :: l, _, 0, ⟨y, ys, h1, h2, h3, h4, h5⟩, hf => by
    subst h1
    obtain ⟨a, b, c⟩ := hf x y rfl rfl
    exact ⟨g y, ys, rfl, a, b, c, h5⟩
  | x :: l, _, i + 1, ⟨y, ys, h1, h2, h3, h4, h5⟩, hf => by
    subst h1
    exact ⟨y, ys.modify i g, rfl, h2, h3, h4, ERs.modify i h5 fun x' y' hx hy => hf x' y' (by simpa using hx) (by simpa using hy)⟩
theorem ERs.erase {σ : PHeap} : ∀ {l : List AEnt} {es : List MapEntry} (i : Nat), ERs σ ρ l es → ERs σ ρ (l.eraseIdx i) (es.eraseIdx i)
  | [], _, i, h => by have : _ = [] := h; subst this; simpa using h
  | x :: l, _, 0, ⟨y, ys, h1, h2, h3, h4, h5⟩ => by subst h1; exact h5
  | x :: l, _, i + 1, ⟨y, ys, h1, h2, h3, h4, h5⟩ => by subst h1; exact ⟨y, _, rfl, h2, h3, h4, ERs.erase i h5⟩
theorem ERs.get {σ : PHeap} : ∀ {l : List AEnt} {es : List MapEntry} {i : Nat} {x : AEnt}, ERs σ ρ l es → l[i]? = some x → ∃ y, es[i]? = some y ∧ VR σ x.key ρ y.key ∧ VR σ x.val ρ y.val ∧ y.born = x.born
  | [], _, i, x, h, hi => by simp at hi
  | z :: l, _, 0, x, ⟨y, ys, h1, h2, h3, h4, h5⟩, hi => by subst h1; simp at hi; subst hi; exact ⟨y, rfl, h2, h3, h4⟩
  | z :: l, _, i + 1, x, ⟨y, ys, h1, h2, h3, h4, h5⟩, hi => by subst h1; simp only [List.getElem?_cons_succ] at hi ⊢; exact ERs.get h5 hi
theorem mapKey (TO : TabOK P T) {t : TypeId} {k : AV} (hb : mapKeyFits T t k = true) : ∃ kt et, P.underlying t = some (.map kt et) ∧ keyFits T kt k = true := by
  unfold mapKeyFits at hb
  split at hb
  · rename_i i hi
    split at hb
    · rename_i kt et hsh
      have := (TO.ty _ _ hi).sh
      rw [hsh] at this
      exact ⟨kt, et, this, hb⟩
    · cases hb
  · cases hb
theorem upd_map (TO : TabOK P T) (He : EnvR (PAll w0) ρ e e') (H : HR w0 ρ h w) {t : TypeId} {x y z : Operand} (hq : wop T (.mapUpdate t x y z) e h K = true) : ∃ w', (Instr.mapUpdate t (evalE e' x) (evalE e' y) (evalE e' z)).run P w = .ok () w' ∧ Good w0 ρ h K undef w' := by
  simp only [wop] at hq
  split at hq
  · rename_i s hx
    split at hq
    · rename_i k hy
      split at hq
      · rename_i v hz
        split at hq
        · rename_i es c hg
          cases hb : mapKeyFits T t k with
          | false => rw [hb] at hq; cases hq
          | true =>
            rw [hb] at hq
            obtain ⟨kt, et, hu, hkf⟩ := mapKey TO hb
            have Hk := ev1_sound He hy
            have Hv := ev1_sound He hz
            have hck := run_checkKey_fits (P := P) TO hkf Hk false w
            have Hx := ev1_sound He hx
            simp only [VR] at Hx
            obtain ⟨q, hq1, hxv⟩ := Hx
            obtain ⟨es', hbk, hE⟩ := H.obj _ _ _ hq1 hg
            simp only [cond_true] at hq
            split at hq
            · rename_i hf
              obtain ⟨hl, hK⟩ := put_true hq
              obtain ⟨r', hrun, hF⟩ := find_sound (P := P) TO hkf Hk hE hf
              have : r' = none := hF
              subst this
              obtain ⟨hHR, hKp⟩ := H.put (o := .map (es ++ [⟨k, v, c⟩]) (c + 1)) hq1 hg rfl (r := .map (es' ++ [MapEntry.mk (evalE e' y) (evalE e' z) c]).toArray (c + 1)) ⟨_, rfl, hE.append (m := [⟨k, v, c⟩]) ⟨_, [], rfl, Hk, Hv, rfl, rfl⟩⟩ hl
              refine ⟨_, ?_, ρ, .tup [], _, hKp, undef_VR, hHR, hK⟩
              simp [Instr.mapUpdate, hxv, run_underlying hu, getObj, setObj, Sem.run, hbk, hck, hrun, World.putObj]
            · rename_i i av hf
              obtain ⟨hl, hK⟩ := put_true hq
              obtain ⟨r', hrun, hF⟩ := find_sound (P := P) TO hkf Hk hE hf
              obtain ⟨v', x', rfl, h1, h2, h3, h4⟩ := hF
              obtain ⟨y', g1, g2, g3, g4⟩ := hE.get h2
              have hkeq : evalE e' y = y'.key := keyEq_true h4 Hk g2
              have hsb : Instr.sameBits 10000 y'.key (evalE e' y) = true := by rw [← hkeq]; exact sameBits_refl TO hkf Hk
              obtain ⟨hHR, hKp⟩ := H.put (o := .map (es.modify i fun x => { x with val := v }) c) hq1 hg rfl (r := .map (es'.modify i fun e => { e with key := evalE e' y, val := evalE e' z }).toArray c) ⟨_, rfl, ERs.modify (f := fun x => { x with val := v }) i hE fun x1 y1 hx1 hy1 => by
                rw [g1] at hy1; cases hy1
                rw [h2] at hx1; cases hx1
                exact ⟨by show VR _ x'.key ρ (evalE e' y); rw [hkeq]; exact g2, Hv, g4⟩⟩ hl
              refine ⟨_, ?_, ρ, .tup [], _, hKp, undef_VR, hHR, hK⟩
              simp [Instr.mapUpdate, hxv, run_underlying hu, getObj, setObj, Sem.run, hbk, hck, hrun, World.putObj, Instr.keyThatStays, g1, hsb]
            · cases hq
        · cases hq
      · cases hq
    · cases hq
  · cases hq
theorem w_mapUpdate (TO : TabOK P T) (He : EnvR (PAll w0) ρ e e') (H : HR w0 ρ h w) {t : TypeId} {x y z : Operand} (hq : wop T (.mapUpdate t x y z) e h K = true) : WS P w0 ρ h K e' w (.mapUpdate t x y z) := by
  obtain ⟨w', hr, hG⟩ := upd_map TO He H hq
  exact ws_s (fun d ty pos af g => by simp [execOp, hr]) hG
theorem w_insert (TO : TabOK P T) (He : EnvR (PAll w0) ρ e e') (H : HR w0 ρ h w) {t : TypeId} {x y z : Operand} (hq : wop T (.insert t x y z) e h K = true) : WS P w0 ρ h K e' w (.insert t x y z) := by
  obtain ⟨w', hr, hG⟩ := upd_map TO He H (t := t) (x := x) (y := y) (z := z) (K := K) (by simpa only [wop] using hq)
  exact ws_s (fun d ty pos af g => by simp [execOp, hr]) hG
end ops
end Go.Proofs.YtjpkccofeafkbaaGreat.Pvx
