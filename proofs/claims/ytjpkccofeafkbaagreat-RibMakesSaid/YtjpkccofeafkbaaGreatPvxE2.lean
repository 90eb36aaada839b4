/- Code: what the machine does is what the model does: operations, regions in order, statements. Over any program. -/
import Derived.Test.YtjpkccofeafkbaaGreatPvxE
namespace Go.Proofs.YtjpkccofeafkbaaGreat.Pvx
open Go.RowKit
set_option linter.unusedVariables false
set_option linter.unusedSimpArgs false
section ops
variable {P : Program} {T : Tab} {w0 : World} {ρ : Rho} {e : AEnv} {e' : Env} {h : Hp} {w : World} {K : AV → Hp → Bool} {ih : EvT}
theorem VRs.app {σ : PHeap} {a b : List AV} {x y : List Value} (h : VRs σ a ρ x) (k : VRs σ b ρ y) : VRs σ (a ++ b) ρ (x ++ y) := VRs.append h k
theorem op_sound (TO : TabOK P T) (IH : EvS P T ih) (He : EnvR (PAll w0) ρ e e') (H : HR w0 ρ h w) {o : Oper} (hq : opF T ih o.op e h K = true) : stepE P o e' w (Good w0 ρ h K) := by
  obtain ⟨dst, op, type, pos, after, guard⟩ := o
  unfold opF at hq
  simp only at hq
  split at hq
  · rename_i v hv
    obtain ⟨u, hr, hu⟩ := qop_sound TO He H hv
    unfold stepE
    rw [hr]
    exact ⟨ρ, v, h, Keep.refl _ _, hu, H, hq⟩
  · split at hq
    · rename_i x v hx
      obtain ⟨r, N, u, hr, hO⟩ := aop_sound (w := w) (w0 := w0) TO He hx
      unfold stepE
      rw [hr]
      obtain ⟨g1, g2⟩ := hO _ (radd_le (x := (w.heap.size, N)) H.fresh) (if_pos rfl)
      obtain ⟨hHR, hKp⟩ := H.add (N := N) (r := r) g1
      exact ⟨_, v, _, hKp, g2, hHR, hq⟩
    · split at hq
      · rename_i c args ats _ _
        split at hq
        · rename_i k cap hc
          have Hc := ev1_sound He hc
          simp only [VR] at Hc
          obtain ⟨cs, hcv, hcap⟩ := Hc
          split at hq
          · rename_i vs hvs
            have Hvs := (evs_sound He hvs).append hcap
            cases hf : hasFn T k with
            | true =>
              rw [hf] at hq
              obtain ⟨hent, hFn⟩ := call_sound TO IH H Hvs hq
              refine stepE_call hent hcv (vs := args.toList.map (evalE e') ++ cs) ?_ hFn fun v w' hG => hG
              apply Array.ext'; simp
            | false =>
              rw [hf] at hq
              simp only [cond_false] at hq
              unfold extF at hq
              split at hq
              · rename_i hext
                split at hq
                · rename_i t s hva
                  split at hq
                  · rename_i es c' hg
                    rw [hva] at Hvs
                    simp only [VRs] at Hvs
                    obtain ⟨u1, ws, hu1, ⟨u2, rfl, hmap⟩, rfl⟩ := Hvs
                    simp only [VR] at hmap
                    obtain ⟨y, hy, rfl⟩ := hmap
                    obtain ⟨es', hbk, hE⟩ := H.obj _ _ _ hy hg
                    obtain ⟨hHR, hKp⟩ := H.add (N := 0) (r := .map es'.toArray c') (o := .map es c') ⟨es', rfl, hE.mono (radd_le H.fresh)⟩
                    have hargs : args.map (evalE e') ++ cs.toArray = #[.iface t (.map (some y.1))] := by apply Array.ext'; simpa using hu1
                    have hx := TO.ext k hext #[.iface t (.map (some y.1))] w
                    have hrun : (execOp (evalE e') ⟨dst, .call { callee := .value c, args := args, argTypes := ats }, type, pos, after, guard⟩).run P w = .ok (.value (.iface t (.map (some w.heap.size)))) (w.alloc (.map es'.toArray c')) := by
                      simp only [execOp, resolve, hcv, Deferred.ofValue, Sem.run_bind, Sem.run_pure, Result.andThen_ok, invoke]
                      have hargs' : (#[] ++ args.map (evalE e')) ++ cs.toArray = #[.iface t (.map (some y.1))] := by simpa using hargs
                      rw [hargs']
                      rw [hx]
                      have hcl : Extern.MapsClone.clone #[.iface t (.map (some y.1))] = (do
                          let .map entries clock ← getObj y.1 | stuck "maps.clone: a map expected"
                          pure (.iface t (.map (some (← newObj (.map entries clock)))))) := rfl
                      have hgo : (getObj y.1).run P w = .ok (.map es'.toArray c') w := by simp [getObj, Sem.run, hbk]
                      rw [hcl]
                      simp only [Sem.run_bind, hgo, Result.andThen_ok, run_newObj, World.alloc_eq, Sem.run_pure]
                    unfold stepE
                    rw [hrun]
                    refine ⟨_, _, _, hKp, ?_, hHR, hq⟩
                    simp only [VR]
                    exact ⟨_, rfl, _, if_pos rfl, rfl⟩
                  · cases hq
                · cases hq
              · rename_i hext
                split at hq
                · rename_i hva
                  rw [hva] at Hvs
                  simp only [VRs] at Hvs
                  obtain ⟨hent, hFn⟩ := TO.yes k hext
                  refine stepE_call hent hcv (vs := []) ?_ (hFn w) fun v w' hG => ⟨ρ, .bool true, h, Keep.refl _ _, ?_, H.keep hG.2, hq⟩
                  · apply Array.ext'; simpa using Hvs
                  · rw [hG.1]; simp [VR]
                · cases hq
              · cases hq
          · cases hq
        · rename_i l hc
          have Hc := ev1_sound He hc
          simp only [VR] at Hc
          obtain ⟨x, hx, hcv⟩ := Hc
          split at hq
          · rename_i vs hvs
            have Hvs := evs_sound He hvs
            obtain ⟨pend, fn, n, ey, ps, ca, cb, y, hbk, hlen, hRd⟩ := yield_sound IH H hx Hvs hq
            have ha : args.map (evalE e') = (args.toList.map (evalE e')).toArray := by apply Array.ext'; simp
            have hr : (execOp (evalE e') ⟨dst, .call { callee := .value c, args := args, argTypes := ats }, type, pos, after, guard⟩).run P w = .ok (.round x.1 fn (foldSet (mk n ey []).tmps (ps.zip (args.toList.map (evalE e')))) ca cb) w := by
              have hy := run_yield (P := P) (args := (args.toList.map (evalE e')).toArray) hbk (by simp [lrec, hlen])
              simp only [execOp, resolve, hcv, ha]
              simp [Deferred.ofValue, invoke, hy, lrec, foldSet]
            unfold stepE
            rw [hr]
            exact RoundIn.mono hRd fun _ _ ⟨v, he, hv⟩ => ⟨v, he, hv⟩
          · cases hq
        · cases hq
      · exact wop_sound TO He H hq dst type pos after guard
theorem wanted_sound {ops : List Oper} (He : EnvR (PAll w0) ρ e e') {o : Oper} {b : Bool} (hq : wantedA ops o e = some b) : Region.wanted o (yieldedE ops e') = b := by
  unfold wantedA at hq
  unfold Region.wanted
  split at hq
  · rename_i hg; cases hq; rw [hg]
  · rename_i j want hg
    rw [hg]
    split at hq
    · rename_i d hd
      simp only [yieldedE, hd]
      split at hq
      · rename_i v hv
        cases hq
        have := VR_bool (He d _ hv)
        rw [this, bEq_eq]
        cases v <;> cases want <;> rfl
      · rename_i hv
        cases hq
        have := He d _ hv
        simp only [VR, VRs] at this
        obtain ⟨vs, hvs, rfl⟩ := this
        rw [hvs]; rfl
      · cases hq
    · cases hq
def GoodE (w0 : World) (ρ : Rho) (h : Hp) (K : AEnv → Hp → Bool) (e' : Env) (w' : World) : Prop := ∃ ρ1 e1 h1, Keep ρ h ρ1 h1 ∧ EnvR (PAll w0) ρ1 e1 e' ∧ HR w0 ρ1 h1 w' ∧ K e1 h1 = true
theorem GoodE.trans {ρ1 : Rho} {h1 : Hp} {K : AEnv → Hp → Bool} {w' : World} (k : Keep ρ h ρ1 h1) (g : GoodE w0 ρ1 h1 K e' w') : GoodE w0 ρ h K e' w' :=
  let ⟨ρ2, a, h2, k2, r⟩ := g; ⟨ρ2, a, h2, k.trans k2, r⟩
theorem seq_sound (TO : TabOK P T) (IH : EvS P T ih) {ops : List Oper} {K : AEnv → Hp → Bool} : ∀ {l : List Oper} {ρ : Rho} {e : AEnv} {e' : Env} {h : Hp} {w : World}, EnvR (PAll w0) ρ e e' → HR w0 ρ h w → seqF T ih ops l e h K = true → seqR P ops l e' w (GoodE w0 ρ h K)
  | [], ρ, e, e', h, w, He, H, hq => ⟨ρ, e, h, Keep.refl _ _, He, H, hq⟩
  | o :: l, ρ, e, e', h, w, He, H, hq => by
    unfold seqF at hq
    unfold seqR opE
    split at hq
    · rename_i hw
      rw [if_pos (wanted_sound He hw)]
      refine stepE_mono (op_sound TO IH He H hq) fun v w' hG => ?_
      obtain ⟨ρ1, a, h1, kp, hv, H1, hK⟩ := hG
      exact seqR_mono (fun _ _ g => g.trans kp) _ _ _ (seq_sound TO IH ((He.mono kp.le).setO hv) H1 hK)
    · rename_i hw
      rw [if_neg (by rw [wanted_sound He hw]; simp)]
      exact seq_sound TO IH (He.setO undef_VR) H hq
    · cases hq
end ops
/-- A machine is right about regions whose order is open. -/
def AnyS' (P : Program) (T : Tab) (ih : EvT) : Prop := ∀ (ops : List Oper) (e : AEnv) (h : Hp) (K : AEnv → Hp → Bool), regF T ih ops true e h K = true → ∀ (n : Nat) (id : Nat) (w0 : World) (ρ : Rho) (e' : Env) (m : List Nat) (ro : Option Nat) (w : World), okOps n ops = true → EnvR (PAll w0) ρ e e' → HR w0 ρ h w →
  CE P ro n (.region id ops.toArray true) (fun x e1 m1 w1 => x = .normal ∧ m1 = m ∧ GoodE w0 ρ h K e1 w1) e' m w
section code
variable {P : Program} {T : Tab} {w0 : World} {ih : EvT}
theorem fin_sound {ρ : Rho} {h : Hp} {w : World} (H : HR w0 ρ h w) {l : Nat} {x : Nat × Nat} (hx : ρ l = some x) {e : AEnv} {e' : Env} {m m' : List Nat} {K : AK} {v : AV} {n : Nat} {ro : Option Nat} (He : EnvR (PAll w0) ρ e e') (hm : MarksR ρ m m') (hq : finF l e m K v h = true) : EndR P ro n x.1 (GoodC w0 ρ h K) e' m' w := by
  unfold finF at hq
  split at hq
  · rename_i st pend fn0 n0 ex ps ca cb d hg
    obtain ⟨fn, n', ey, y, hbk, hey, hd, hca, hcb, hpo⟩ := H.obj _ _ _ hx hg
    have main : st ≠ .busy → h.put l (.loop .exhausted pend fn0 n0 ex ps ca cb d) (pendF K e m pend) = true → EndR P ro n x.1 (GoodC w0 ρ h K) e' m' w := by
      intro hst hput
      obtain ⟨hl, hK⟩ := put_true hput
      obtain ⟨hHR, hKp⟩ := H.put (o := .loop .exhausted pend fn0 n0 ex ps ca cb d) (r := .loop (lrec .exhausted pend fn n' ey ps ca cb y.1)) hx hg rfl ⟨fn, n', ey, y, rfl, hey, hd, hca, hcb, hpo⟩ hl
      refine ⟨pend, _, run_endLoop hbk hst, ?_⟩
      cases pend with
      | none => exact ⟨ρ, e, m, _, hKp, He, hm, hHR, hK⟩
      | some c =>
        cases c <;> first | (cases hK; done) | skip
        · exact c_exit ⟨ρ, e, m, _, hKp, He, hm, hHR, hK⟩
        · exact c_ret ⟨ρ, e, m, _, hKp, He, hm, hHR, hK⟩
    cases st with
    | busy => cases hq
    | ready => exact main (by simp) hq
    | done => exact main (by simp) hq
    | exhausted => exact main (by simp) hq
  · cases hq
section range
variable {ro : Option Nat} {n : Nat} {Q : Exit → Env → List Nat → World → Prop} {e : Env} {m : List Nat} {w : World}
theorem c_range0x {g : Operand} {ps : Array Tmp} {gf : Nat} {cap : Array Value} (ca cb : Code) (hg : evalE e g = .func (.func gf) #[] cap) (hent : Enters P gf) (hok : okOperand n g = true)
    (h : ∀ fn, Fn P gf (.func (.yield (w.alloc (.deferred (some []))).heap.size) #[] #[] :: cap.toList) ((w.alloc (.deferred (some []))).alloc (.loop (lrec .ready none fn n e ps.toList ca cb w.heap.size))) fun _ w2 => EndR P none n (w.alloc (.deferred (some []))).heap.size Q e (w.heap.size :: m) w2) :
    CE P none n (.rangeFunc g ps ca cb) Q e m w := by
  refine wpIn_rangeFunc fun fn _ => ?_
  have h1 := h fn
  refine ⟨(w.alloc (.deferred (some []))).heap.size, [mark w.heap.size], (w.alloc (.deferred (some []))).alloc (.loop (lrec .ready none fn n e ps.toList ca cb w.heap.size)), { target := .fn (.func gf) cap, args := #[.func (.yield (w.alloc (.deferred (some []))).heap.size) #[] #[]] }, (w.alloc (.deferred (some []))).alloc (.loop (lrec .ready none fn n e ps.toList ca cb w.heap.size)), gf, #[.func (.yield (w.alloc (.deferred (some []))).heap.size) #[] #[]] ++ cap, (w.alloc (.deferred (some []))).alloc (.loop (lrec .ready none fn n e ps.toList ca cb w.heap.size)), ?_, ?_, fun _ _ => trivial, ?_, fun hd => by simp [Fence.wide] at hd, ?_⟩
  · refine (run_enterLoop_outer fn (mk n e m).tmps ps ca cb).trans ?_
    rw [World.size_alloc]; rfl
  · simp only [resolve, evalE_ok hok, hg]
    simp [go_sem]
  · simp [invoke, go_sem, hent _ _]
  · have h2 : (Value.func (.yield (w.alloc (.deferred (some []))).heap.size) #[] #[] :: cap.toList).toArray = #[.func (.yield (w.alloc (.deferred (some []))).heap.size) #[] #[]] ++ cap := by
      apply Array.ext' ; simp
    rw [← h2]
    refine (callsIn_FW h1).mono fun en w3 ⟨v, he, jump, w4, hj, hq⟩ => ?_
    subst he
    refine ⟨jump, w4, hj, ?_⟩
    cases jump with
    | none => exact ⟨e, _, rfl, hq⟩
    | some c => exact hq
theorem c_range1x {g : Operand} {ps : Array Tmp} {gf : Nat} {cap : Array Value} {l0 : Nat} {r0 : Loop} (ca cb : Code) (hg : evalE e g = .func (.func gf) #[] cap) (hent : Enters P gf) (hok : okOperand n g = true) (hl0 : w.heap[l0]? = some (.loop r0))
    (h : ∀ fn, Fn P gf (.func (.yield w.heap.size) #[] #[] :: cap.toList) (w.alloc (.loop (lrec .ready none fn n e ps.toList ca cb r0.defers))) fun _ w2 => EndR P (some l0) n w.heap.size Q e m w2) :
    CE P (some l0) n (.rangeFunc g ps ca cb) Q e m w := by
  refine wpIn_rangeFunc fun fn _ => ?_
  have h1 := h fn
  refine ⟨w.heap.size, [], w.alloc (.loop (lrec .ready none fn n e ps.toList ca cb r0.defers)), { target := .fn (.func gf) cap, args := #[.func (.yield w.heap.size) #[] #[]] }, w.alloc (.loop (lrec .ready none fn n e ps.toList ca cb r0.defers)), gf, #[.func (.yield w.heap.size) #[] #[]] ++ cap, w.alloc (.loop (lrec .ready none fn n e ps.toList ca cb r0.defers)), ?_, ?_, fun _ _ => trivial, ?_, fun hd => by simp [Fence.wide] at hd, ?_⟩
  · exact run_enterLoop_inner hl0 fn (mk n e m).tmps ps ca cb
  · simp only [resolve, evalE_ok hok, hg]
    simp [go_sem]
  · simp [invoke, go_sem, hent _ _]
  · have h2 : (Value.func (.yield w.heap.size) #[] #[] :: cap.toList).toArray = #[.func (.yield w.heap.size) #[] #[]] ++ cap := by
      apply Array.ext' ; simp
    rw [← h2]
    refine (callsIn_FW h1).mono fun en w3 ⟨v, he, jump, w4, hj, hq⟩ => ?_
    subst he
    refine ⟨jump, w4, hj, ?_⟩
    cases jump with
    | none => exact ⟨e, _, rfl, hq⟩
    | some c => exact hq
end range
theorem Fn.mono' {k : FuncId} {vs : List Value} {w : World} {R R' : Value → World → Prop} (h : Fn P k vs w R) (hr : ∀ v w', R v w' → R' v w') : Fn P k vs w R' := Fn.mono h hr
theorem GoodC.ofE {ρ : Rho} {h : Hp} {K : AK} {e' : Env} {m m' : List Nat} {w' : World} (hm : MarksR ρ m m') (g : GoodE w0 ρ h (fun e h => K .normal e m h) e' w') : GoodC w0 ρ h K .normal e' m' w' :=
  let ⟨ρ1, e1, h1, kp, he, H1, hK⟩ := g; ⟨ρ1, e1, m, h1, kp, he, hm.mono kp.le, H1, hK⟩
theorem evF_sound (TO : TabOK P T) (IH : EvS P T ih) (AS : AnyS' P T ih) : EvS P T (evF T ih) := by
  intro c
  induction c with
  | skip => intro ro e m h K hq n w0 ρ e' m' ro' w hok He hm H hr; exact c_skip ⟨ρ, e, m, h, Keep.refl _ _, He, hm, H, hq⟩
  | exit id => intro ro e m h K hq n w0 ρ e' m' ro' w hok He hm H hr; exact c_exit ⟨ρ, e, m, h, Keep.refl _ _, He, hm, H, hq⟩
  | label l => intro ro e m h K hq n w0 ρ e' m' ro' w hok He hm H hr; exact c_label ⟨ρ, e, m, h, Keep.refl _ _, He, hm, H, hq⟩
  | ret => intro ro e m h K hq n w0 ρ e' m' ro' w hok He hm H hr; exact c_ret ⟨ρ, e, m, h, Keep.refl _ _, He, hm, H, hq⟩
  | goto l => intro ro e m h K hq; cases hq
  | refuse s => intro ro e m h K hq; cases hq
  | region id ops draw =>
    intro ro e m h K hq n w0 ρ e' m' ro' w hok He hm H hr
    have hops : ops = ops.toList.toArray := by simp
    simp only [evF] at hq
    simp only [codeOK] at hok
    cases draw with
    | true =>
      have := AS ops.toList e h _ hq n id w0 ρ e' m' ro' w hok He H
      rw [← hops] at this
      refine CE.mono this fun x e1 m1 w1 ⟨hx, hm1, hG⟩ => ?_
      subst hx hm1
      exact GoodC.ofE hm hG
    | false =>
      simp only [regF, cond_false] at hq
      show CE P ro' n (.region id ops false) _ e' m' w
      rw [hops]
      exact c_region hok ⟨seqR_mono (fun e1 w1 hG => GoodC.ofE hm hG) _ _ _ (seq_sound TO IH He H hq)⟩
  | seq a b iha ihb =>
    intro ro e m h K hq n w0 ρ e' m' ro' w hok He hm H hr
    simp only [evF] at hq
    simp only [codeOK, Bool.and_eq_true] at hok
    refine c_seq (CE.mono (iha _ _ _ _ _ hq n w0 ρ e' m' ro' w hok.1 He hm H hr).ce fun x e1' m1' w1 hG => ?_)
    obtain ⟨ρ1, e1, m1, h1, kp, he1, hm1, H1, hK⟩ := hG
    cases x with
    | normal => exact CE.mono (ihb _ _ _ _ _ hK n w0 ρ1 e1' m1' ro' w1 hok.2 he1 hm1 H1 (hr.mono kp.le)).ce fun x e2 m2 w2 g => g.trans kp
    | _ => exact ⟨ρ1, e1, m1, h1, kp, he1, hm1, H1, hK⟩
  | cond c a b iha ihb =>
    intro ro e m h K hq n w0 ρ e' m' ro' w hok He hm H hr
    simp only [evF] at hq
    simp only [codeOK, Bool.and_eq_true] at hok
    split at hq
    · rename_i t ht
      refine c_cond (VR_bool (ev1_sound He ht)) hok.1.1 (fun h1 => ?_) (fun h1 => ?_)
      · subst h1; exact (iha _ _ _ _ _ hq n w0 ρ e' m' ro' w hok.1.2 He hm H hr).ce
      · subst h1; exact (ihb _ _ _ _ _ hq n w0 ρ e' m' ro' w hok.2 He hm H hr).ce
    · cases hq
  | block id c ihc =>
    intro ro e m h K hq n w0 ρ e' m' ro' w hok He hm H hr
    simp only [evF] at hq
    refine c_block (CE.mono (ihc _ _ _ _ _ hq n w0 ρ e' m' ro' w hok He hm H hr).ce fun x e1' m1' w1 hG => ?_)
    obtain ⟨ρ1, e1, m1, h1, kp, he1, hm1, H1, hK⟩ := hG
    cases x with
    | exit j =>
      simp only [inBlk]
      cases hb : Nat.beq j id with
      | true =>
        simp only [hb, cond_true] at hK
        rw [if_pos (Nat.eq_of_beq_eq_true hb)]
        exact ⟨ρ1, e1, m1, h1, kp, he1, hm1, H1, hK⟩
      | false =>
        simp only [hb, cond_false] at hK
        rw [if_neg (fun e => by subst e; rw [Nat.beq_refl] at hb; cases hb)]
        exact ⟨ρ1, e1, m1, h1, kp, he1, hm1, H1, hK⟩
    | _ => exact ⟨ρ1, e1, m1, h1, kp, he1, hm1, H1, hK⟩
  | loop c ihc =>
    intro ro e m h K hq n w0 ρ e' m' ro' w hok He hm H hr
    simp only [evF] at hq
    show LoopAt P ro' n c _ e' m' w
    refine loopAt_of (CE.mono (ihc _ _ _ _ _ hq n w0 ρ e' m' ro' w hok He hm H hr).ce fun x e1' m1' w1 hG => ?_)
    obtain ⟨ρ1, e1, m1, h1, kp, he1, hm1, H1, hK⟩ := hG
    cases x with
    | normal =>
      have : CX P ro' n (.loop c) (GoodC w0 ρ1 h1 K) e1' m1' w1 := IH _ _ _ _ _ _ hK n w0 ρ1 e1' m1' ro' w1 hok he1 hm1 H1 (hr.mono kp.le)
      exact LoopAt.mono this fun x e2 m2 w2 g => g.trans kp
    | _ => exact ⟨ρ1, e1, m1, h1, kp, he1, hm1, H1, hK⟩
  | scope c ihc =>
    intro ro e m h K hq n w0 ρ e' m' ro' w hok He hm H hr
    simp only [evF] at hq
    refine c_scope (CE.mono (ihc _ _ _ _ _ hq n w0 ρ e' m' ro' w hok He hm H hr).ce fun x e1' m1' w1 hG => ?_)
    obtain ⟨ρ1, e1, m1, h1, kp, he1, hm1, H1, hK⟩ := hG
    cases x with
    | goto l => cases hK
    | _ => exact ⟨ρ1, e1, m1, h1, kp, he1, hm1, H1, hK⟩
  | rangeFunc g ps ca cb iha ihb =>
    intro ro e m h K hq n w0 ρ e' m' ro' w hok He hm H hr
    simp only [evF] at hq
    simp only [codeOK, Bool.and_eq_true] at hok
    split at hq
    · rename_i k cap hg
      have Hg := ev1_sound He hg
      simp only [VR] at Hg
      obtain ⟨cs, hgv, hcap⟩ := Hg
      have hent : Enters P k := by
        have : ∃ f, T.fn k = some f := by
          cases hf : T.fn k with
          | some f => exact ⟨f, rfl⟩
          | none =>
            split at hq
            · unfold callF at hq; rw [hf] at hq; cases hq
            · split at hq
              · unfold callF at hq; rw [hf] at hq; cases hq
              · cases hq
        obtain ⟨f, hf⟩ := this
        exact (TO.fn k f hf).2.1
      split at hq
      · have : ro' = none := hr
        subst this
        refine c_range0x ca cb hgv hent hok.1.1 fun fn => ?_
        obtain ⟨H1, K1⟩ := H.add (N := 0) (r := .deferred (some [])) (o := .defd) rfl
        have hd : radd ρ h.next (w.heap.size, 0) h.next = some (w.heap.size, 0) := if_pos rfl
        have hle1 := K1.le
        obtain ⟨H2, K2⟩ := H1.add (N := 0) (r := .loop (lrec .ready none fn n e' ps.toList ca cb w.heap.size)) (o := .loop .ready none 0 0 e ps.toList ca cb h.next)
          ⟨fn, n, e', (w.heap.size, 0), rfl, (He.mono hle1).mono (radd_le H1.fresh), radd_le H1.fresh _ _ hd, hok.1.2, hok.2, trivial⟩
        have K12 := K1.trans K2
        have hl : (radd (radd ρ h.next (w.heap.size, 0)) (h.add .defd).next ((w.alloc (.deferred (some []))).heap.size, 0)) (h.next + 1) = some ((w.alloc (.deferred (some []))).heap.size, 0) := if_pos rfl
        have hv : VRs (PAll w0) (.yield (h.next + 1) :: cap) (radd (radd ρ h.next (w.heap.size, 0)) (h.add .defd).next ((w.alloc (.deferred (some []))).heap.size, 0)) (.func (.yield (w.alloc (.deferred (some []))).heap.size) #[] #[] :: cs.toArray.toList) :=
          VRs.cons (by simp only [VR]; exact ⟨_, hl, rfl⟩) (by simpa using hcap.mono K12.le)
        refine Fn.mono (call_sound TO IH H2 hv hq).2 fun v w3 hG => ?_
        obtain ⟨ρ3, a3, h3, kp3, hv3, H3, hK3⟩ := hG
        have kp := K12.trans kp3
        have hmarks : MarksR ρ3 (h.next :: m) (w.heap.size :: m') := ⟨(w.heap.size, 0), m', rfl, kp3.le _ _ (radd_le H1.fresh _ _ hd), hm.mono kp.le⟩
        obtain ⟨jump, w4, r1, r2⟩ := fin_sound (P := P) (n := n) (ro := none) H3 (kp3.le _ _ hl) (He.mono kp.le) hmarks hK3
        refine ⟨jump, w4, r1, ?_⟩
        cases jump with
        | none => exact GoodC.trans kp r2
        | some c => exact CE.mono r2 fun x e2 m2 w2 g => g.trans kp
      · rename_i l0
        obtain ⟨x0, hx0, rfl⟩ := hr
        split at hq
        · rename_i st0 pend0 fn0 n0 ex0 ps0 ca0 cb0 d hg0
          obtain ⟨fn', n', ey', y', hbk0, hey0, hd0, hca0, hcb0, hpo0⟩ := H.obj _ _ _ hx0 hg0
          refine c_range1x ca cb hgv hent hok.1.1 hbk0 fun fn => ?_
          obtain ⟨H2, K2⟩ := H.add (N := 0) (r := .loop (lrec .ready none fn n e' ps.toList ca cb y'.1)) (o := .loop .ready none 0 0 e ps.toList ca cb d)
            ⟨fn, n, e', y', rfl, He.mono (radd_le H.fresh), radd_le H.fresh _ _ hd0, hok.1.2, hok.2, trivial⟩
          have hl : (radd ρ h.next (w.heap.size, 0)) h.next = some (w.heap.size, 0) := if_pos rfl
          have hv : VRs (PAll w0) (.yield h.next :: cap) (radd ρ h.next (w.heap.size, 0)) (.func (.yield w.heap.size) #[] #[] :: cs.toArray.toList) :=
            VRs.cons (by simp only [VR]; exact ⟨_, hl, rfl⟩) (by simpa using hcap.mono K2.le)
          refine Fn.mono (call_sound TO IH H2 hv hq).2 fun v w3 hG => ?_
          obtain ⟨ρ3, a3, h3, kp3, hv3, H3, hK3⟩ := hG
          have kp := K2.trans kp3
          obtain ⟨jump, w4, r1, r2⟩ := fin_sound (P := P) (n := n) (ro := some x0.1) H3 (kp3.le _ _ hl) (He.mono kp.le) (hm.mono kp.le) hK3
          refine ⟨jump, w4, r1, ?_⟩
          cases jump with
          | none => exact GoodC.trans kp r2
          | some c => exact CE.mono r2 fun x e2 m2 w2 g => g.trans kp
        · cases hq
    · cases hq
end code
end Go.Proofs.YtjpkccofeafkbaaGreat.Pvx
