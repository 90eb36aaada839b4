/- Operations that leave the memory as it is: what the machine tells of them is so. Over any program. -/
import Derived.Test.YtjpkccofeafkbaaGreatPvxQ
namespace Go.Proofs.YtjpkccofeafkbaaGreat.Pvx
open Go.RowKit
set_option linter.unusedVariables false
set_option linter.unusedSimpArgs false
section ops
variable {P : Program} {T : Tab} {w0 : World} {ρ : Rho} {e : AEnv} {e' : Env} {h : Hp} {w : World} {a : AV}
/-- An operation comes to a value that stands to what the machine tells. -/
def QS (P : Program) (w0 : World) (ρ : Rho) (e' : Env) (w : World) (o : Op) (a : AV) : Prop := ∃ v, (∀ ty, Ran P o ty e' w v) ∧ VR (PAll w0) a ρ v
theorem q_move (He : EnvR (PAll w0) ρ e e') {x : Operand} (hq : qop T (.move x) e h = some a) : QS P w0 ρ e' w (.move x) a := ⟨_, fun _ => r_move rfl, ev1_sound He hq⟩
theorem q_assign (He : EnvR (PAll w0) ρ e e') {x : Operand} (hq : qop T (.assign x) e h = some a) : QS P w0 ρ e' w (.assign x) a := ⟨_, fun _ => r_assign rfl, ev1_sound He hq⟩
theorem VR_bool {σ : PHeap} {b : Bool} {v : Value} (h : VR σ (.bool b) ρ v) : v = .bool b := by simpa only [VR] using h
theorem VR_int {σ : PHeap} {k : IntKind} {n : Int} {v : Value} (h : VR σ (.int k n) ρ v) : v = .int k n := by simpa only [VR] using h
theorem VR_str {σ : PHeap} {s : List UInt8} {v : Value} (h : VR σ (.str s) ρ v) : v = .string ⟨s.toArray⟩ := by simpa only [VR] using h
theorem bool_VR {σ : PHeap} {b : Bool} : VR σ (.bool b) ρ (.bool b) := by simp only [VR]
theorem int_VR {σ : PHeap} {k : IntKind} {n : Int} : VR σ (.int k n) ρ (.int k n) := by simp only [VR]
theorem q_pick (He : EnvR (PAll w0) ρ e e') {c x y : Operand} (hq : qop T (.pick c x y) e h = some a) : QS P w0 ρ e' w (.pick c x y) a := by
  simp only [qop] at hq
  split at hq
  · rename_i t hc
    refine ⟨_, fun _ => r_pick (VR_bool (ev1_sound He hc)) rfl, ?_⟩
    cases t with
    | true => exact ev1_sound He hq
    | false => exact ev1_sound He hq
  · cases hq
theorem q_build (TO : TabOK P T) (He : EnvR (PAll w0) ρ e e') {t : TypeId} {ps : Array (Nat × Operand)} (hq : qop T (.build t ps) e h = some a) : QS P w0 ρ e' w (.build t ps) a := by
  simp only [qop] at hq
  split at hq
  · rename_i i hi
    have ok := TO.ty _ _ hi
    split at hq
    · rename_i fs ft fl hsh
      split at hq
      · rename_i vs hvs
        split at hq
        · rename_i cs hcs
          cases hq
          have hS := ok.sh
          rw [hsh] at hS
          obtain ⟨fields, hS⟩ := hS
          obtain ⟨zs, hti, hz⟩ := ok.ti
          have hagg : i.agg = true := by
            have h1 := hti.run_agg w
            have h2 := hS.under
            simp [isAgg, run_underlying h2] at h1
            first | exact h1 | exact h1.symm
          rw [hagg] at hti
          have hlen := (hz (PAll w0) ρ).length
          obtain ⟨ys, h1, h2, h3⟩ := fillA_sound (ρ := ρ) (fun j off n hj => by obtain ⟨_, _, _, _, _, _, _, _, _, hn⟩ := hS.field j off n hj; exact hn) hcs (evps_sound He hvs) (hz (PAll w0) ρ) hti.cells
          exact ⟨_, fun _ => r_build hS.build hti _ rfl h1, by simp only [VR]; exact ⟨ys, rfl, h2, h3⟩⟩
        · cases hq
      · cases hq
    · cases hq
  · cases hq
theorem q_load (TO : TabOK P T) (He : EnvR (PAll w0) ρ e e') (H : HR w0 ρ h w) {t : TypeId} {x : Operand} (hq : qop T (.load t x) e h = some a) : QS P w0 ρ e' w (.load t x) a := by
  simp only [qop] at hq
  split at hq
  · rename_i p hp
    split at hq
    · rename_i i hi
      split at hq
      · rename_i cs hl
        obtain ⟨zs, hti, hz⟩ := (TO.ty _ _ hi).ti
        obtain ⟨ad, vs, hv, hr, hn, h2, h1⟩ := ld_sound H (ev1_sound He hp) hl
        exact ⟨_, fun ty => r_load hti hv hr (PAll.on w) (hn.trans (hz (PAll w0) ρ).length.symm) rfl, VR.ofCells hq h2 h1⟩
      · cases hq
    · cases hq
  · cases hq
theorem q_nilCheck (He : EnvR (PAll w0) ρ e e') {x : Operand} (hq : qop T (.nilCheck x) e h = some a) : QS P w0 ρ e' w (.nilCheck x) a := by
  simp only [qop] at hq
  split at hq
  · rename_i s off hx
    cases hq
    have := ev1_sound He hx
    have h0 := this
    simp only [VR] at this
    obtain ⟨y, hy, hv⟩ := this
    exact ⟨_, fun _ => r_nilCheck hv, by rw [← hv]; exact h0⟩
  · rename_i cs hx
    cases hq
    have := ev1_sound He hx
    have h0 := this
    simp only [VR] at this
    obtain ⟨ad, vs, hv, _⟩ := this
    exact ⟨_, fun _ => r_nilCheck hv, by rw [← hv]; exact h0⟩
  · cases hq
theorem q_not (He : EnvR (PAll w0) ρ e e') {t : TypeId} {x : Operand} (hq : qop T (.unOp .not t x) e h = some a) : QS P w0 ρ e' w (.unOp .not t x) a := by
  simp only [qop] at hq
  split at hq
  · rename_i b hx
    cases hq
    exact ⟨_, fun _ => r_not (VR_bool (ev1_sound He hx)), bool_VR⟩
  · cases hq
theorem q_neg (He : EnvR (PAll w0) ρ e e') {t : TypeId} {x : Operand} (hq : qop T (.unOp .neg t x) e h = some a) : QS P w0 ρ e' w (.unOp .neg t x) a := by
  simp only [qop] at hq
  split at hq
  · rename_i k n hx
    cases hq
    have hv := VR_int (ev1_sound He hx)
    exact ⟨_, fun _ _ _ _ _ => by simp [execOp, hv, Op.unary, Op.intArith], int_VR⟩
  · cases hq
theorem arith_sound {op : BinOp} {k : IntKind} {m n : Int} {xt yt : TypeId} {x y : Operand} (hx : evalE e' x = .int k m) (hy : evalE e' y = .int k n) (hq : arith op k m n = some a) : QS P w0 ρ e' w (.binOp op xt x y yt) a := by
  unfold arith at hq
  split at hq <;> first | (cases hq; done) | skip
  · cases hq; exact ⟨_, fun _ => r_add hx hy rfl, int_VR⟩
  · cases hq; exact ⟨_, fun _ => r_sub hx hy rfl, int_VR⟩
  · cases hq; exact ⟨_, fun _ => r_mul hx hy rfl, int_VR⟩
  · cases hb : intEq n 0 with
    | true => rw [hb] at hq; cases hq
    | false => rw [hb] at hq; cases hq; exact ⟨_, fun _ => r_quo hx hy (by simpa [intEq] using hb) rfl, int_VR⟩
  · cases hb : intEq n 0 with
    | true => rw [hb] at hq; cases hq
    | false => rw [hb] at hq; cases hq; exact ⟨_, fun _ => r_rem hx hy (by simpa [intEq] using hb) rfl, int_VR⟩
  · cases hq; exact ⟨_, fun _ => r_and hx hy rfl, int_VR⟩
  · cases hq; exact ⟨_, fun _ => r_or hx hy rfl, int_VR⟩
  · cases hq; exact ⟨_, fun _ => r_xor hx hy rfl, int_VR⟩
  · cases hq; exact ⟨_, fun _ => r_andNot hx hy rfl, int_VR⟩
  · cases hq; exact ⟨_, fun _ => r_eq hx hy rfl, bool_VR⟩
  · cases hq; exact ⟨_, fun _ => r_ne hx hy rfl, bool_VR⟩
  · cases hq; exact ⟨_, fun _ => r_lt hx hy rfl, bool_VR⟩
  · cases hq; exact ⟨_, fun _ => r_le hx hy rfl, bool_VR⟩
  · cases hq; exact ⟨_, fun _ => r_gt hx hy rfl, bool_VR⟩
  · cases hq; exact ⟨_, fun _ => r_ge hx hy rfl, bool_VR⟩
theorem shift_sound {op : BinOp} {k k2 : IntKind} {m n : Int} {xt yt : TypeId} {x y : Operand} (hx : evalE e' x = .int k m) (hy : evalE e' y = .int k2 n) (hq : shiftA op k m n = some a) : QS P w0 ρ e' w (.binOp op xt x y yt) a := by
  unfold shiftA at hq
  cases hb : decide (n < 0) with
  | true => rw [hb] at hq; cases hq
  | false =>
    rw [hb] at hq
    have h0 : 0 ≤ n := by have := of_decide_eq_false hb; omega
    simp only [cond_false] at hq
    split at hq
    · cases hq; exact ⟨_, fun _ => r_shl hx hy h0 rfl, int_VR⟩
    · cases hq; exact ⟨_, fun _ => r_shr hx hy h0 rfl, int_VR⟩
    · cases hq
theorem strEq_sound {xt yt : TypeId} {x y : Operand} {r : Bool} {s1 s2 : List UInt8} (hx : evalE e' x = .string ⟨s1.toArray⟩) (hy : evalE e' y = .string ⟨s2.toArray⟩) (hr : bytesEq s1 s2 = r) : (∀ ty, Ran P (.binOp .eql xt x y yt) ty e' w (.bool r)) ∧ (∀ ty, Ran P (.binOp .neq xt x y yt) ty e' w (.bool !r)) := by
  have hb : ((⟨s1.toArray⟩ : ByteArray).toList == (⟨s2.toArray⟩ : ByteArray).toList) = r := by
    rw [ByteArray.toList_eq, ByteArray.toList_eq, ← hr, bytesEq_eq]
  constructor
  · intro ty d pos af g
    simp [execOp, eqGuard, binOp, hx, hy, Op.stringOp]
    first | exact hb | simpa using hb | skip
  · intro ty d pos af g
    simp [execOp, eqGuard, binOp, hx, hy, Op.stringOp]
    first | simp [← hb] | skip
theorem binOp_eqv {xt yt : TypeId} {x y : Operand} {r : Bool} {u v : Value} (hx : evalE e' x = u) (hy : evalE e' y = v) (hE : EqV P xt u v r) (hg : ∀ w, (eqGuard .eql xt x y u v).run P w = .ok () w) (hg' : ∀ w, (eqGuard .neq xt x y u v).run P w = .ok () w)
    (hb : binOp .eql xt u v = (do pure (.bool (← Op.equal xt u v)))) (hb' : binOp .neq xt u v = (do pure (.bool (!(← Op.equal xt u v))))) :
    (∀ ty, Ran P (.binOp .eql xt x y yt) ty e' w (.bool r)) ∧ (∀ ty, Ran P (.binOp .neq xt x y yt) ty e' w (.bool !r)) := by
  subst hx hy
  constructor
  · intro ty d pos af g
    simp only [execOp, Sem.run_bind, hg, Result.andThen_ok, hb, hE w, Sem.run_pure]
  · intro ty d pos af g
    simp only [execOp, Sem.run_bind, hg', Result.andThen_ok, hb', hE w, Sem.run_pure]
theorem q_binOp (TO : TabOK P T) (He : EnvR (PAll w0) ρ e e') {op : BinOp} {xt yt : TypeId} {x y : Operand} (hq : qop T (.binOp op xt x y yt) e h = some a) : QS P w0 ρ e' w (.binOp op xt x y yt) a := by
  simp only [qop] at hq
  split at hq
  · rename_i u hx
    split at hq
    · rename_i v hy
      have Hx := ev1_sound He hx
      have Hy := ev1_sound He hy
      clear hx hy
      unfold binT at hq
      split at hq
      · -- numbers
        rename_i k m
        have Hx := VR_int Hx
        unfold binI at hq
        split at hq
        · rename_i k' n
          have Hy := VR_int Hy
          split at hq
          · exact shift_sound Hx Hy hq
          · exact shift_sound Hx Hy hq
          · cases hk : kEq k k' with
            | false => rw [hk] at hq; cases hq
            | true =>
              rw [hk] at hq
              cases kEq_eq hk
              exact arith_sound Hx Hy hq
        · cases hq
      · -- texts
        rename_i s1
        have Hx := VR_str Hx
        unfold binS at hq
        split at hq
        · have Hy := VR_str Hy
          split at hq
          · cases hq; exact ⟨_, (strEq_sound Hx Hy rfl).1, bool_VR⟩
          · cases hq; exact ⟨_, (strEq_sound Hx Hy rfl).2, bool_VR⟩
          · cases hq
        · cases hq
      · rename_i hn1 hn2
        split at hq
        · rename_i i hi
          have ok := TO.ty _ _ hi
          cases hf : shFits i.sh u with
          | false => rw [hf] at hq; cases hq
          | true =>
            rw [hf] at hq
            simp only [cond_true] at hq
            unfold binE at hq
            split at hq
            · rename_i r hr
              have hE := eqA_sound ok.sh hf hr Hx Hy
              have hagg : (∃ cs, u = .agg cs) → P.eqGuardType P.depth xt = false := by
                rintro ⟨cs, rfl⟩
                have hS := ok.sh
                cases hsh : i.sh <;> rw [hsh] at hf <;> simp [shFits] at hf
                rename_i fs ft fl
                rw [hsh] at hS
                obtain ⟨fields, hS⟩ := hS
                cases fl with
                | nil => simp [shFits] at hf
                | cons k ks => exact (hS.flat (by simp)).1
              have main : (∀ ty, Ran P (.binOp .eql xt x y yt) ty e' w (.bool r)) ∧ (∀ ty, Ran P (.binOp .neq xt x y yt) ty e' w (.bool !r)) := by
                generalize hX : evalE e' x = X at Hx hE
                generalize hY : evalE e' y = Y at Hy hE
                cases u <;> first | (exact absurd rfl (hn1 _ _); done) | (exact absurd rfl (hn2 _); done) | skip
                all_goals cases v <;> first | (simp [eqA, cellEq] at hr; done) | skip
                all_goals first
                  | (simp only [VR] at Hx Hy
                     obtain ⟨l1, rfl, _⟩ := Hx
                     obtain ⟨l2, rfl, _⟩ := Hy
                     have hg := hagg ⟨_, rfl⟩
                     exact binOp_eqv hX hY hE (fun w => run_eqGuard_agg w _ _ _ _ _ _ hg) (fun w => run_eqGuard_agg w _ _ _ _ _ _ hg) rfl rfl)
                  | (simp only [VR] at Hx Hy
                     subst Hx Hy
                     exact binOp_eqv hX hY hE (fun w => rfl) (fun w => rfl) rfl rfl)
                  | (simp only [VR] at Hx Hy
                     obtain ⟨q, hq2, rfl⟩ := Hx; subst Hy
                     exact binOp_eqv hX hY hE (fun w => rfl) (fun w => rfl) rfl rfl)
                  | (simp only [VR] at Hx Hy
                     obtain ⟨q, hq2, rfl⟩ := Hy; subst Hx
                     exact binOp_eqv hX hY hE (fun w => rfl) (fun w => rfl) rfl rfl)
                  | (simp only [VR] at Hx Hy
                     obtain ⟨q, rfl, hq2⟩ := Hx; subst Hy
                     exact binOp_eqv hX hY hE (fun w => rfl) (fun w => rfl) rfl rfl)
                  | (simp only [VR] at Hx Hy
                     obtain ⟨q, rfl, hq2⟩ := Hy; subst Hx
                     exact binOp_eqv hX hY hE (fun w => rfl) (fun w => rfl) rfl rfl)
                  | (simp only [VR] at Hx Hy
                     obtain ⟨q, q2, hq2, rfl, _⟩ := Hx; subst Hy
                     exact binOp_eqv hX hY hE (fun w => rfl) (fun w => rfl) rfl rfl)
                  | (simp only [VR] at Hx Hy
                     obtain ⟨q, q2, hq2, rfl, _⟩ := Hy; subst Hx
                     exact binOp_eqv hX hY hE (fun w => rfl) (fun w => rfl) rfl rfl)
                  | (simp only [VR] at Hx Hy
                     obtain ⟨q, q2, rfl, hq2⟩ := Hx; subst Hy
                     exact binOp_eqv hX hY hE (fun w => rfl) (fun w => rfl) rfl rfl)
                  | (simp only [VR] at Hx Hy
                     obtain ⟨q, q2, rfl, hq2⟩ := Hy; subst Hx
                     exact binOp_eqv hX hY hE (fun w => rfl) (fun w => rfl) rfl rfl)
                  | (simp only [VR] at Hx Hy
                     obtain ⟨q, q2, q3, q4, rfl, hq2⟩ := Hx; subst Hy
                     exact binOp_eqv hX hY hE (fun w => rfl) (fun w => rfl) rfl rfl)
                  | (simp only [VR] at Hx Hy
                     obtain ⟨q, q2, q3, q4, rfl, hq2⟩ := Hy; subst Hx
                     exact binOp_eqv hX hY hE (fun w => rfl) (fun w => rfl) rfl rfl)
                  | skip
              split at hq
              · cases hq; exact ⟨_, main.1, bool_VR⟩
              · cases hq; exact ⟨_, main.2, bool_VR⟩
              · cases hq
            · cases hq
        · cases hq
    · cases hq
  · cases hq
end ops
end Go.Proofs.YtjpkccofeafkbaaGreat.Pvx
