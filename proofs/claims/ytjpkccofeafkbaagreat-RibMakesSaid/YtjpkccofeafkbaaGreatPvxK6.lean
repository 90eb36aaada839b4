/- append, copy, clear as operations; all operations that write. Over any program. -/
import Derived.Test.YtjpkccofeafkbaaGreatPvxK5
namespace Go.Proofs.YtjpkccofeafkbaaGreat.Pvx
open Go.RowKit
set_option linter.unusedVariables false
set_option linter.unusedSimpArgs false
section ops
variable {P : Program} {T : Tab} {w0 : World} {ρ : Rho} {e : AEnv} {e' : Env} {h : Hp} {w : World} {K : AV → Hp → Bool}
theorem w_append (TO : TabOK P T) (He : EnvR (PAll w0) ρ e e') (H : HR w0 ρ h w) {args : Array Operand} {ats : Array TypeId} (hq : wop T (.call { callee := .builtin .append, args := args, argTypes := ats }) e h K = true) : WS P w0 ρ h K e' w (.call { callee := .builtin .append, args := args, argTypes := ats }) := by
  simp only [wop] at hq
  split at hq
  · rename_i t u v x ht hv
    obtain ⟨a, b, rfl, Hv, Hx⟩ := two_args He hv
    have := arr_of ht
    subst this
    split at hq
    · rename_i et i hsl
      obtain ⟨hu, hok, _⟩ := slElem_sound TO hsl
      obtain ⟨zs, hti, hz⟩ := hok.ti
      split at hq
      · rename_i n vs hsrc
        cases hroom : roomA h v n i.bytes with
        | false => rw [hroom] at hq; cases hq
        | true =>
          rw [hroom] at hq
          simp only [cond_true] at hq
          obtain ⟨news, S, hn⟩ := src_sound TO H hok hti hz Hx hsrc
          intro d ty pos af g
          obtain ⟨r, w', hr, hG⟩ := append_sound (ty := ty) H hok hti hz hu S hn Hv hroom hq
          unfold stepE
          have : (execOp (evalE e') ⟨d, .call { callee := .builtin .append, args := #[a, b], argTypes := #[t, u] }, ty, pos, af, g⟩).run P w = .ok (.value r) w' := by
            simp [execOp, resolve, invoke, builtin, hr]
          rw [this]; exact hG
      · cases hq
    · cases hq
  · cases hq
theorem lenOf_sound (H : HR w0 ρ h w) {a : AV} {v : Value} {n : Nat} (hv : VR (PAll w0) a ρ v) (hl : lenA h a = some n) (hm : ∀ s, a ≠ .map s) (hm' : a ≠ .nmap) (w' : World) : (Builtin.lenOf v).run P w' = .ok n w' := by
  cases a <;> simp only [lenA] at hl <;> first | (cases hl; done) | (exact absurd rfl hm') | (exact absurd rfl (hm _)) | skip
  all_goals simp only [VR] at hv
  · cases hl; subst hv
    rename_i s
    have hsz : (ByteArray.mk s.toArray).size = s.length := by show s.toArray.size = _; simp
    simp [Builtin.lenOf, hsz]
  · cases hl; subst hv; simp [Builtin.lenOf]
  · cases hl; obtain ⟨q, c, _, rfl, _⟩ := hv; simp [Builtin.lenOf]
  · cases hl; obtain ⟨q, c, _, _, rfl, _⟩ := hv; simp [Builtin.lenOf]
theorem w_copy (TO : TabOK P T) (He : EnvR (PAll w0) ρ e e') (H : HR w0 ρ h w) {args : Array Operand} {ats : Array TypeId} (hq : wop T (.call { callee := .builtin .copy, args := args, argTypes := ats }) e h K = true) : WS P w0 ρ h K e' w (.call { callee := .builtin .copy, args := args, argTypes := ats }) := by
  simp only [wop] at hq
  split at hq
  · rename_i t ts v x ht hv
    obtain ⟨a, b, rfl, Hv, Hx⟩ := two_args He hv
    have := arr_of ht
    subst this
    split at hq
    · rename_i et i hsl
      obtain ⟨hu, hok, _⟩ := slElem_sound TO hsl
      obtain ⟨zs, hti, hz⟩ := hok.ti
      split at hq
      · rename_i n hn
        split at hq
        · rename_i m hm
          split at hq
          · rename_i vs hel
            obtain ⟨news, h1, h2, h3⟩ := elems_sound (P := P) H Hx hel hok.pos
            have hlm : ∀ w', (Builtin.lenOf (evalE e' b)).run P w' = .ok m w' := lenOf_sound H Hx hm (fun s hs => by subst hs; simp [elemsA] at hel) (fun hs => by subst hs; simp [elemsA] at hel)
            have hfc := h3 w (fun _ _ => rfl)
            have hmin : min m n = Nat.min m n := rfl
            have hnop : ∀ {base : Option Addr} {l c : Nat}, evalE e' a = .slice base l c → l = n → Nat.min m n = 0 → K (.int .i64 0) h = true → WS P w0 ρ h K e' w (.call { callee := .builtin .copy, args := #[a, b], argTypes := (t :: ts).toArray }) := by
              intro base l c hav hln h0 hK
              subst hln
              rw [h0] at hfc hel
              have hnews : news = [] := by
                have := h1.length.trans (elems_len hel)
                exact List.eq_nil_of_length_eq_zero (by simpa using this)
              subst hnews
              refine ws_v (v := .int .i64 0) (w' := w) (fun d ty pos af g => ?_) ⟨ρ, .int .i64 0, _, Keep.refl _ _, int_VR, H, hK⟩
              cases base with
              | none => simp [execOp, resolve, invoke, builtin, Builtin.copy_, hav, run_underlying hu, hlm, sizeOf_of hok, h0, hfc, goInt]
              | some p => simp [execOp, resolve, invoke, builtin, Builtin.copy_, hav, run_underlying hu, hlm, sizeOf_of hok, h0, hfc, goInt, storeCells]
            split at hq
            · simp only [lenA, Option.some.injEq] at hn
              subst hn
              have Hv : evalE e' a = .slice none 0 0 := by simpa only [VR] using Hv
              exact hnop Hv rfl (Nat.min_eq_right (Nat.zero_le _)) hq
            · rename_i s off len cap
              simp only [lenA, Option.some.injEq] at hn
              subst hn
              simp only [VR] at Hv
              obtain ⟨y, c, hy, hav, _⟩ := Hv
              cases hb : Nat.beq (Nat.min m len) 0 with
              | true => rw [hb] at hq; exact hnop hav rfl (Nat.eq_of_beq_eq_true hb) hq
              | false =>
                rw [hb] at hq
                simp only [cond_false] at hq
                split at hq
                · rename_i cs u hg
                  cases hbb : (Nat.ble (off + Nat.min m len * i.z.length) cs.length && Nat.beq vs.length (Nat.min m len * i.z.length)) with
                  | false => rw [hbb] at hq; cases hq
                  | true =>
                    rw [hbb] at hq
                    simp only [Bool.and_eq_true] at hbb
                    have b1 := Nat.le_of_ble_eq_true hbb.1
                    have b2 := Nat.eq_of_beq_eq_true hbb.2
                    obtain ⟨hl, hK⟩ := put_true hq
                    obtain ⟨ca, hbk, hsz, hHR, hKp⟩ := row_over H hy hg h1 h2 (by rw [b2]; exact b1) hl
                    have hst := run_storeCells (P := P) news w y.1 off 0 ca u h2 hbk (by omega)
                    simp only [Nat.add_zero] at hst
                    refine ws_v (v := .int .i64 (Nat.min m len : Nat)) (fun d ty pos af g => ?_) ⟨ρ, _, _, hKp, int_VR, hHR, hK⟩
                    simp [execOp, resolve, invoke, builtin, Builtin.copy_, hav, run_underlying hu, hlm, sizeOf_of hok, hfc, goInt, hst]
                · cases hq
            · cases hq
          · cases hq
        · cases hq
      · cases hq
    · cases hq
  · cases hq
theorem w_clear (TO : TabOK P T) (He : EnvR (PAll w0) ρ e e') (H : HR w0 ρ h w) {args : Array Operand} {ats : Array TypeId} (hq : wop T (.call { callee := .builtin .clear, args := args, argTypes := ats }) e h K = true) : WS P w0 ρ h K e' w (.call { callee := .builtin .clear, args := args, argTypes := ats }) := by
  simp only [wop] at hq
  split at hq
  · rename_i t v ht hv
    obtain ⟨a, rfl, Hv⟩ := one_arg He hv
    have := arr_of ht
    subst this
    split at hq
    · rename_i et i hsl
      obtain ⟨hu, hok, _⟩ := slElem_sound TO hsl
      obtain ⟨zs, hti, hz⟩ := hok.ti
      have hzl := (hz (PAll w0) ρ).length
      have hnop : ∀ {base : Option Addr} {c : Nat}, evalE e' a = .slice base 0 c → K (.tup []) h = true → WS P w0 ρ h K e' w (.call { callee := .builtin .clear, args := #[a], argTypes := #[t] }) := by
        intro base c hav hK
        refine ws_v (v := .tuple #[]) (w' := w) (fun d ty pos af g => ?_) ⟨ρ, .tup [], _, Keep.refl _ _, undef_VR, H, hK⟩
        cases base <;> simp [execOp, resolve, invoke, builtin, Builtin.clear_, hav, run_underlying hu]
      split at hq
      · have Hv : evalE e' a = .slice none 0 0 := by simpa only [VR] using Hv
        exact hnop Hv hq
      · simp only [VR] at Hv
        obtain ⟨ad, c, _, _, hav, _⟩ := Hv
        exact hnop hav hq
      · rename_i s off n cap
        simp only [VR] at Hv
        obtain ⟨y, c, hy, hav, _⟩ := Hv
        cases hb : Nat.beq n 0 with
        | true =>
          rw [hb] at hq
          have := Nat.eq_of_beq_eq_true hb
          subst this
          exact hnop hav hq
        | false =>
          rw [hb] at hq
          simp only [cond_false] at hq
          split at hq
          · rename_i cs u hg
            cases hbb : Nat.ble (off + n * i.z.length) cs.length with
            | false => rw [hbb] at hq; cases hq
            | true =>
              rw [hbb] at hq
              have b1 := Nat.le_of_ble_eq_true hbb
              obtain ⟨hl, hK⟩ := put_true hq
              have hrep : VRs (PAll w0) (repA i.z n) ρ (List.replicate n zs).flatten := VRs.rep (hz _ _) n
              have hones : ∀ v ∈ (List.replicate n zs).flatten, v.oneCell' = true := by
                intro v hv
                obtain ⟨l, hl, hv⟩ := List.mem_flatten.1 hv
                rw [List.mem_replicate] at hl
                rw [hl.2] at hv
                exact hti.cells v hv
              obtain ⟨ca, hbk, hsz, hHR, hKp⟩ := row_over H hy hg hrep hones (by rw [repA_length]; exact b1) hl
              have hst := run_storeCells (P := P) _ w y.1 off 0 ca u hones hbk (by omega)
              simp only [Nat.add_zero] at hst
              have hzc := zeroCells_eq zs (by have := hok.pos; omega) n
              have hn0 : n ≠ 0 := fun h0 => by subst h0; cases hb
              refine ws_v (v := .tuple #[]) (fun d ty pos af g => ?_) ⟨ρ, .tup [], _, hKp, undef_VR, hHR, hK⟩
              obtain ⟨n', rfl⟩ : ∃ n', n = n' + 1 := ⟨n - 1, by omega⟩
              simp [execOp, resolve, invoke, builtin, Builtin.clear_, hav, run_underlying hu, hti.zero, cells_valOf hti.one hti.cells, hzc, hst]
          · cases hq
      · cases hq
    · cases hq
  · cases hq
/-- All of them. -/
theorem wop_sound (TO : TabOK P T) (He : EnvR (PAll w0) ρ e e') (H : HR w0 ρ h w) {o : Op} (hq : wop T o e h K = true) : WS P w0 ρ h K e' w o := by
  cases o with
  | store t x y => exact w_store TO He H hq
  | mapUpdate t x y z => exact w_mapUpdate TO He H hq
  | insert t x y z => exact w_insert TO He H hq
  | range t x => exact w_range TO He H hq
  | next x b =>
    cases b with
    | false => exact w_next He H hq
    | true => simp [wop] at hq
  | entry x => exact w_entry He H hq
  | call c =>
    obtain ⟨cl, args, ats⟩ := c
    cases cl with
    | builtin b =>
      cases b with
      | append => exact w_append TO He H hq
      | copy => exact w_copy TO He H hq
      | delete => exact w_delete TO He H hq
      | clear => exact w_clear TO He H hq
      | _ => simp [wop] at hq
    | _ => simp [wop] at hq
  | _ => simp [wop] at hq
end ops
end Go.Proofs.YtjpkccofeafkbaaGreat.Pvx
