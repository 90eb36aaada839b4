/- Code: what the machine does is what the model does: calls, rounds, statements. Over any program. -/
import Derived.Test.YtjpkccofeafkbaaGreatPvxK6
namespace Go.Proofs.YtjpkccofeafkbaaGreat.Pvx
open Go.RowKit
set_option linter.unusedVariables false
set_option linter.unusedSimpArgs false

/-! ### A loop, one round after the other -/
section loops
variable {P : Program} {ro : Option Nat} {n : Nat} {Q : Exit → Env → List Nat → World → Prop} {e : Env} {m : List Nat} {w : World}
/-- At the begin of a round. -/
def LoopAt (P : Program) (ro : Option Nat) (n : Nat) (c : Code) (Q : Exit → Env → List Nat → World → Prop) (e : Env) (m : List Nat) (w : World) : Prop :=
  ∀ (b : Frame) (k : List Item) (cs : List Frame), b.roundOf = (FW ro).round → (FW ro).fn b.fn → (FW ro).room (cs.length + 1 + 0) →
    ∃ x a' w', lift n Q x a' w' ∧ ArrivesIn (Machine.fenced P (FW ro)) P (lone (b.atR (mk n e m) (.code c :: .inLoop c :: k)) cs w) b k cs x a' w'
theorem loopAt_of {c : Code} (h : CE P ro n c (andThen (LoopAt P ro n c Q) Q) e m w) : LoopAt P ro n c Q e m w := by
  intro b k cs hro hb hr
  obtain ⟨x, a₁, w₁, hq, harr⟩ := h b (.inLoop c :: k) cs hro hb hr
  cases x with
  | normal =>
    obtain ⟨e1, m1, rfl, hL⟩ := hq
    obtain ⟨x₂, a₂, w₂, hq₂, harr₂⟩ := hL b k cs hro hb hr
    exact ⟨x₂, a₂, w₂, hq₂, .of_steps (StepsIn.trans harr (.one (fenced_calm hb hr rfl) stepR_inLoop)) harr₂⟩
  | exit id => exact ⟨_, a₁, w₁, hq, .pass (x := .inLoop c) rfl (fun _ _ => .inl (by simp)) harr⟩
  | goto l => exact ⟨_, a₁, w₁, hq, .pass (x := .inLoop c) rfl (fun _ _ => .inl (by simp)) harr⟩
  | ret => exact ⟨_, a₁, w₁, hq, .pass (x := .inLoop c) rfl (fun _ _ => .inl (by simp)) harr⟩
  | panic ch => exact ⟨_, a₁, w₁, hq, .pass (x := .inLoop c) rfl (fun _ _ => .inl (by simp)) harr⟩
  | outgrown => exact ⟨_, a₁, w₁, hq, .pass (x := .inLoop c) rfl (fun _ _ => .inl (by simp)) harr⟩
theorem c_loopAt {c : Code} (h : LoopAt P ro n c Q e m w) : CE P ro n (.loop c) Q e m w := by
  intro b k cs hro hb hr
  obtain ⟨x, a', w', hq, harr⟩ := h b k cs hro hb hr
  exact ⟨x, a', w', hq, .of_steps (.one (fenced_calm hb hr rfl) stepR_loop) harr⟩
theorem LoopAt.mono {c : Code} {Q' : Exit → Env → List Nat → World → Prop} (h : LoopAt P ro n c Q e m w) (hq : ∀ x e m w, Q x e m w → Q' x e m w) : LoopAt P ro n c Q' e m w := by
  intro b k cs hro hb hr
  obtain ⟨x, a', w', ⟨e1, m1, ha, hQ⟩, harr⟩ := h b k cs hro hb hr
  exact ⟨x, a', w', ⟨e1, m1, ha, hq _ _ _ _ hQ⟩, harr⟩
/-- A piece of code; of a loop: at the begin of a round. -/
def CX (P : Program) (ro : Option Nat) (n : Nat) (c : Code) (Q : Exit → Env → List Nat → World → Prop) (e : Env) (m : List Nat) (w : World) : Prop := match c with
  | .loop c => LoopAt P ro n c Q e m w
  | c => CE P ro n c Q e m w
theorem CX.ce {c : Code} (h : CX P ro n c Q e m w) : CE P ro n c Q e m w := by
  cases c <;> first | exact h | exact c_loopAt h
theorem CX.mono {c : Code} {Q' : Exit → Env → List Nat → World → Prop} (h : CX P ro n c Q e m w) (hq : ∀ x e m w, Q x e m w → Q' x e m w) : CX P ro n c Q' e m w := by
  cases c <;> first | exact LoopAt.mono h hq | exact CE.mono h hq
end loops

/-! ### States -/
def MarksR (ρ : Rho) : List Nat → List Nat → Prop
  | [], m' => m' = []
  | s :: m, m' => ∃ x l, m' = x.1 :: l ∧ ρ s = some x ∧ MarksR ρ m l
theorem MarksR.mono {ρ ρ' : Rho} (k : RLe ρ ρ') : ∀ {m m' : List Nat}, MarksR ρ m m' → MarksR ρ' m m'
  | [], _, h => h
  | _ :: _, _, ⟨x, l, h1, h2, h3⟩ => ⟨x, l, h1, k _ _ h2, h3.mono k⟩
def RoR (ρ : Rho) : Option Nat → Option Nat → Prop
  | none, r => r = none
  | some s, r => ∃ x, ρ s = some x ∧ r = some x.1
theorem RoR.mono {ρ ρ' : Rho} (k : RLe ρ ρ') {a b : Option Nat} (h : RoR ρ a b) : RoR ρ' a b := by
  cases a with
  | none => exact h
  | some s => obtain ⟨x, h1, h2⟩ := h; exact ⟨x, k _ _ h1, h2⟩
def GoodC (w0 : World) (ρ : Rho) (h : Hp) (K : AK) (x : Exit) (e' : Env) (m' : List Nat) (w' : World) : Prop :=
  ∃ ρ1 e1 m1 h1, Keep ρ h ρ1 h1 ∧ EnvR (PAll w0) ρ1 e1 e' ∧ MarksR ρ1 m1 m' ∧ HR w0 ρ1 h1 w' ∧ K x e1 m1 h1 = true
/-- A machine is right about every piece of code. -/
def EvS (P : Program) (T : Tab) (E : EvT) : Prop := ∀ c ro e m h K, E c ro e m h K = true → ∀ n w0 ρ e' m' ro' w, codeOK n c = true → EnvR (PAll w0) ρ e e' → MarksR ρ m m' → HR w0 ρ h w → RoR ρ ro ro' → CX P ro' n c (GoodC w0 ρ h K) e' m' w
theorem GoodC.trans {w0 : World} {ρ ρ1 : Rho} {h h1 : Hp} {K : AK} {x : Exit} {e' : Env} {m' : List Nat} {w' : World} (k : Keep ρ h ρ1 h1) (g : GoodC w0 ρ1 h1 K x e' m' w') : GoodC w0 ρ h K x e' m' w' :=
  let ⟨ρ2, e2, m2, h2, k2, r⟩ := g; ⟨ρ2, e2, m2, h2, k.trans k2, r⟩
theorem Good.trans {w0 : World} {ρ ρ1 : Rho} {h h1 : Hp} {K : AV → Hp → Bool} {v : Value} {w' : World} (k : Keep ρ h ρ1 h1) (g : Good w0 ρ1 h1 K v w') : Good w0 ρ h K v w' :=
  let ⟨ρ2, a, h2, k2, r⟩ := g; ⟨ρ2, a, h2, k.trans k2, r⟩

section calls
variable {P : Program} {T : Tab} {w0 : World} {ρ : Rho} {e : AEnv} {e' : Env} {h : Hp} {w : World} {K : AV → Hp → Bool} {ih : EvT}
theorem entry_sound {us : List Value} : ∀ (vs : List AV) (i : Nat) (e : AEnv), (∀ t a, e.get t = some a → VR (PAll w0) a ρ (entry us t)) → VRs (PAll w0) vs ρ (us.drop i) → EnvR (PAll w0) ρ (entryA vs i e) (entry us)
  | [], i, e, he, _ => fun t a ht => he t a ht
  | v :: l, i, e, he, hv => by
    simp only [VRs] at hv
    obtain ⟨u, ws, h1, h2, h3⟩ := hv
    have hu : us[i]? = some u := by
      have : (us.drop i)[0]? = some u := by rw [h1]; rfl
      rw [List.getElem?_drop] at this; simpa using this
    refine entry_sound l (i + 1) _ (fun t a ht => ?_) (by
      have : us.drop (i + 1) = (us.drop i).drop 1 := by rw [List.drop_drop]
      rw [this, h1]; exact h3)
    rw [PT.set_get _ _ _ _ _ (Nat.lt_succ_self _)] at ht
    split at ht
    · rename_i hti
      subst hti
      cases ht
      have : entry us t = u := by simp [entry, List.getD, hu]
      rw [this]; exact h2
    · exact he t a ht
theorem res_sound (TO : TabOK P T) (He : EnvR (PAll w0) ρ e e') (H : HR w0 ρ h w) : ∀ {rs : List ResultVar} {vs : List AV}, resA T e h rs = some vs → ∃ us, ResE P e' w rs us ∧ VRs (PAll w0) vs ρ us
  | [], vs, hr => by simp only [resA, Option.some.injEq] at hr; subst hr; exact ⟨[], trivial, VRs.nil⟩
  | .tmp t :: l, vs, hr => by
    unfold resA at hr
    split at hr
    · rename_i v hv
      split at hr
      · rename_i vs' hvs
        cases hr
        obtain ⟨us, h1, h2⟩ := res_sound TO He H hvs
        exact ⟨e' t :: us, ⟨rfl, h1⟩, VRs.cons (He t v hv) h2⟩
      · cases hr
    · cases hr
  | .cell a t :: l, vs, hr => by
    unfold resA at hr
    split at hr
    · rename_i p hp
      split at hr
      · rename_i i hi
        split at hr
        · rename_i cs hcs
          split at hr
          · rename_i v hv
            split at hr
            · rename_i vs' hvs
              cases hr
              obtain ⟨us, h1, h2⟩ := res_sound TO He H hvs
              obtain ⟨zs, hti, hz⟩ := (TO.ty _ _ hi).ti
              obtain ⟨ad, xs, hpa, hrow, hn, g2, g1⟩ := ld_sound H (He a p hp) hcs
              exact ⟨_ :: us, ⟨⟨ad, hpa, run_loadVar hti hrow (PAll.on w) (hn.trans (hz (PAll w0) ρ).length.symm)⟩, h1⟩, VRs.cons (VR.ofCells hv g2 g1) h2⟩
            · cases hr
          · cases hr
        · cases hr
      · cases hr
    · cases hr
theorem one_R {σ : PHeap} {vs : List AV} {us : List Value} (hv : VRs σ vs ρ us) : VR σ (oneA vs) ρ (oneOr us) := by
  match vs, hv with
  | [], hv => simp only [VRs] at hv; subst hv; exact undef_VR
  | [v], hv =>
    simp only [VRs] at hv
    obtain ⟨u, ws, rfl, h2, rfl⟩ := hv
    exact h2
  | a :: b :: l, hv =>
    have := hv
    simp only [VRs] at hv
    obtain ⟨u, ws, rfl, h2, u2, ws2, rfl, h3⟩ := hv
    simp only [oneA, oneOr, VR]
    exact ⟨_, rfl, this⟩
theorem close_sound {K : Hp → Bool} : ∀ {m m' : List Nat} {ρ : Rho} {h : Hp} {w : World}, HR w0 ρ h w → MarksR ρ m m' → closeA m h K = true → ∃ w' h', Closed m' w w' ∧ Keep ρ h ρ h' ∧ HR w0 ρ h' w' ∧ K h' = true
  | [], m', ρ, h, w, H, hm, hq => by have : m' = [] := hm; subst this; exact ⟨w, h, rfl, Keep.refl _ _, H, hq⟩
  | s :: m, m', ρ, h, w, H, ⟨x, l, h1, h2, h3⟩, hq => by
    subst h1
    unfold closeA at hq
    split at hq
    · rename_i hg
      obtain ⟨hl, hq⟩ := put_true hq
      have hb : w.heap[x.1]? = some (.deferred (some [])) := H.obj _ _ _ h2 hg
      obtain ⟨hHR, hKp⟩ := H.put (o := .dead) (r := .deferred none) h2 hg rfl trivial hl
      obtain ⟨w', h', g1, g2, g3, g4⟩ := close_sound hHR h3 hq
      exact ⟨w', h', ⟨hb, g1⟩, hKp.trans g2, g3, g4⟩
    · cases hq
theorem call_sound (TO : TabOK P T) (IH : EvS P T ih) (H : HR w0 ρ h w) {k : Nat} {vs : List AV} {us : List Value} (hv : VRs (PAll w0) vs ρ us) (hq : callF T ih k vs h K = true) : Enters P k ∧ Fn P k us w (Good w0 ρ h K) := by
  unfold callF at hq
  split at hq
  · rename_i f hf
    obtain ⟨h1, h2, h3, h4⟩ := TO.fn k f hf
    refine ⟨h2, ?_⟩
    split at hq
    · rename_i c hc
      cases hb : Nat.ble vs.length f.ntmps with
      | false => rw [hb] at hq; cases hq
      | true =>
        rw [hb] at hq
        simp only [cond_true] at hq
        refine fn_entry h1 hc rfl (by rw [hv.length]; exact hb) h4 ?_
        have := (IH _ _ _ _ _ _ hq f.ntmps w0 ρ (entry us) [] none w (h3 c hc) (entry_sound vs 0 .nil (fun t a ht => by cases ht) (by simpa using hv)) rfl H rfl).ce
        refine CE.mono this fun x e1' m1' w1 hG => ?_
        obtain ⟨ρ1, e1, m1, h1', kp, he1, hm1, H1, hK1⟩ := hG
        have fin : closeA m1 h1' (fun h => (match resA T e1 h f.results.toList with | some vs => K (oneA vs) h | none => false)) = true → RetE P f (Good w0 ρ h K) e1' m1' w1 := by
          intro hcl
          obtain ⟨w', h', g1, g2, g3, g4⟩ := close_sound H1 hm1 hcl
          split at g4
          · rename_i vs' hvs'
            obtain ⟨us', r1, r2⟩ := res_sound TO he1 g3 hvs'
            exact ⟨w', us', g1, r1, ρ1, oneA vs', h', kp.trans g2, one_R r2, g3, g4⟩
          · cases g4
        cases x with
        | normal => exact fin hK1
        | ret => exact fin hK1
        | _ => cases hK1
    · cases hq
  · cases hq

/-! ### Rounds -/
theorem setPs_sound : ∀ {ps : List Nat} {vs : List AV} {us : List Value} {e : AEnv} {e' : Env}, EnvR (PAll w0) ρ e e' → VRs (PAll w0) vs ρ us → EnvR (PAll w0) ρ (setPs ps vs e) (setl e' (ps.zip us))
  | [], vs, us, e, e', he, _ => by cases vs <;> simpa [setPs, setl] using he
  | p :: ps, [], us, e, e', he, hv => by simp only [VRs] at hv; subst hv; simpa [setPs, setl] using he
  | p :: ps, v :: vs, us, e, e', he, hv => by
    simp only [VRs] at hv
    obtain ⟨u, ws, rfl, h2, h3⟩ := hv
    simp only [setPs, List.zip_cons_cons, setl]
    exact setPs_sound (he.set h2) h3
theorem end_sound (H : HR w0 ρ h w) {l : Nat} {x : Nat × Nat} (hx : ρ l = some x) {z : Exit} (hq : endF l K z h = true) {e2 : Env} {m2 : List Nat} : rdPost P x.1 (Good w0 ρ h K) z e2 m2 w := by
  unfold endF at hq
  split at hq
  · rename_i st pend fn0 n0 ex ps ca cb d hg
    obtain ⟨fn, n, ey, y, hbk, hey, hd, hca, hcb, hpo⟩ := H.obj _ _ _ hx hg
    have key : ∀ (st' : LoopState) (pend' : Option Code) (b : Bool) (jump : Option Code), pendOK pend' → jump = pend' → b = jump.isNone → (if jump.isNone then LoopState.ready else .done) = st' → h.put l (.loop st' pend' fn0 n0 ex ps ca cb d) (K (.bool b)) = true →
        ∃ v w', (Instr.endRound x.1 jump).run P w = .ok v w' ∧ Good w0 ρ h K v w' := by
      intro st' pend' b jump hp hj hbn hst hput
      subst hj hbn hst
      obtain ⟨hl, hK⟩ := put_true hput
      obtain ⟨hHR, hKp⟩ := H.put (o := .loop _ jump fn0 n0 ex ps ca cb d) (r := .loop (lrec (if jump.isNone then .ready else .done) jump fn n ey ps ca cb y.1)) hx hg rfl ⟨fn, n, ey, y, rfl, hey, hd, hca, hcb, hp⟩ hl
      exact ⟨_, _, run_endRound jump hbk, ρ, _, _, hKp, bool_VR, hHR, hK⟩
    cases z with
    | normal => exact key .ready none true none trivial rfl rfl rfl hq
    | ret => exact key .done (some .ret) false (some .ret) trivial rfl rfl rfl hq
    | exit id => exact key .done (some (.exit id)) false (some (.exit id)) trivial rfl rfl rfl hq
    | _ => cases hq
  · cases hq
theorem begin_sound (IH : EvS P T ih) (H : HR w0 ρ h w) {l : Nat} {x : Nat × Nat} {e1 : AEnv} {e1' : Env} {m1 m1' : List Nat} {n : Nat} {cb : Code} (hx : ρ l = some x) (he : EnvR (PAll w0) ρ e1 e1') (hm : MarksR ρ m1 m1') (hcb : codeOK n cb = true) {z : Exit} (hq : beginF ih l cb K z e1 m1 h = true) : rdA P x.1 n cb (Good w0 ρ h K) z e1' m1' w := by
  unfold beginF at hq
  split at hq
  · split at hq
    · rename_i pend fn0 n0 ex ps ca cb' d hg
      obtain ⟨hl, hq⟩ := put_true hq
      obtain ⟨fn, n', ey, y, hbk, hey, hd, hca, hcb', hpo⟩ := H.obj _ _ _ hx hg
      obtain ⟨hHR, hKp⟩ := H.put (o := .loop .busy pend fn0 n0 ex ps ca cb' d) (r := .loop (lrec .busy pend fn n' ey ps ca cb' y.1)) hx hg rfl ⟨fn, n', ey, y, rfl, hey, hd, hca, hcb', hpo⟩ hl
      refine ⟨_, run_beginRound hbk rfl, ?_⟩
      have := (IH _ _ _ _ _ _ hq n w0 ρ e1' m1' (some x.1) _ hcb he hm hHR ⟨x, hx, rfl⟩).ce
      refine CE.mono this fun z e2' m2' w2 hG => ?_
      obtain ⟨ρ2, e2, m2, h2, kp, he2, hm2, H2, hK2⟩ := hG
      have hp := end_sound (P := P) (e2 := e2') (m2 := m2') H2 (kp.le _ _ hx) hK2
      have hk := hKp.trans kp
      cases z with
      | normal => obtain ⟨v, w', r1, r2⟩ := hp; exact ⟨v, w', r1, r2.trans hk⟩
      | ret => obtain ⟨v, w', r1, r2⟩ := hp; exact ⟨v, w', r1, r2.trans hk⟩
      | exit id => obtain ⟨v, w', r1, r2⟩ := hp; exact ⟨v, w', r1, r2.trans hk⟩
      | _ => exact hp.elim
    · cases hq
  · cases hq
theorem yield_sound (IH : EvS P T ih) (H : HR w0 ρ h w) {l : Nat} {x : Nat × Nat} (hx : ρ l = some x) {vs : List AV} {us : List Value} (hv : VRs (PAll w0) vs ρ us) (hq : yieldF ih l vs h K = true) :
    ∃ pend fn n ey ps ca cb y, w.heap[x.1]? = some (.loop (lrec .ready pend fn n ey ps ca cb y)) ∧ ps.length = us.length ∧ Rd P x.1 fn n ey ps us ca cb w (Good w0 ρ h K) := by
  unfold yieldF at hq
  split at hq
  · rename_i pend fn0 n0 e ps ca cb d hg
    cases hb : Nat.beq ps.length vs.length with
    | false => rw [hb] at hq; cases hq
    | true =>
      rw [hb] at hq
      simp only [cond_true] at hq
      have hlen := Nat.eq_of_beq_eq_true hb
      obtain ⟨fn, n, ey, y, hbk, hey, hd, hca, hcb, hpo⟩ := H.obj _ _ _ hx hg
      refine ⟨pend, fn, n, ey, ps, ca, cb, y.1, hbk, hlen.trans hv.length.symm, ?_⟩
      refine rd_entry _ rfl ?_
      have := (IH _ _ _ _ _ _ hq n w0 ρ (setl ey (ps.zip us)) [] (some x.1) w hca (setPs_sound hey hv) rfl H ⟨x, hx, rfl⟩).ce
      refine CE.mono this fun z e1' m1' w1 hG => ?_
      obtain ⟨ρ1, e1, m1, h1, kp, he1, hm1, H1, hK1⟩ := hG
      have hp := begin_sound IH H1 (kp.le _ _ hx) he1 hm1 hcb hK1
      cases z with
      | normal =>
        obtain ⟨w2, r1, r2⟩ := hp
        refine ⟨w2, r1, CE.mono r2 fun z e2 m2 w2 hq2 => ?_⟩
        cases z with
        | normal => obtain ⟨v, w', r1, r2⟩ := hq2; exact ⟨v, w', r1, r2.trans kp⟩
        | ret => obtain ⟨v, w', r1, r2⟩ := hq2; exact ⟨v, w', r1, r2.trans kp⟩
        | exit id => obtain ⟨v, w', r1, r2⟩ := hq2; exact ⟨v, w', r1, r2.trans kp⟩
        | _ => exact hq2.elim
      | _ => exact hp.elim
  · cases hq
end calls
end Go.Proofs.YtjpkccofeafkbaaGreat.Pvx
