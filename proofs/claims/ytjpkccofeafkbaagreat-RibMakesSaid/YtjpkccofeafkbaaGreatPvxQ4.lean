/- Operations that leave the memory as it is: what the machine tells of them is so. Over any program. -/
import Derived.Test.YtjpkccofeafkbaaGreatPvxQ3
namespace Go.Proofs.YtjpkccofeafkbaaGreat.Pvx
open Go.RowKit
set_option linter.unusedVariables false
set_option linter.unusedSimpArgs false
section ops
variable {P : Program} {T : Tab} {w0 : World} {ρ : Rho} {e : AEnv} {e' : Env} {h : Hp} {w : World} {a : AV}
theorem ran_slice {t et : TypeId} {sz : Nat} {x : Operand} {lo hi mx : Option Operand} {ad : Option Addr} {len cap l hh m : Nat} (hu : P.underlying t = some (.slice et)) (hs : (sizeOf et).run P w = .ok sz w) (hx : evalE e' x = .slice ad len cap)
    (hb : (Instr.sliceBounds true len cap (lo.map (evalE e')) (hi.map (evalE e')) (mx.map (evalE e'))).run P w = .ok (l, hh, m) w) (ty : TypeId) :
    Ran P (.slice t x lo hi mx) ty e' w (.slice (if m = l then ad else ad.map (·.add (l * sz))) (hh - l) (m - l)) := fun d pos af g => by
  simp only [execOp, Instr.sliceAt, Sem.run_bind, run_underlying hu, Result.andThen_ok, Instr.slice, hx, hb, hs, Sem.run_pure]
theorem optVal (He : EnvR (PAll w0) ρ e e') {x : Option Operand} {r : Option Int} (hq : optInt e x = some r) : ∃ k, x.map (evalE e') = r.map (.int k) := by
  rcases optInt_sound He hq with ⟨rfl, rfl⟩ | ⟨y, k, n, rfl, rfl, hv⟩
  · exact ⟨.i64, rfl⟩
  · exact ⟨k, by simp [hv]⟩
theorem bnds_up {len c c' : Nat} {lo hi : Option Int} {l hh : Nat} (hq : bnds len c lo hi = some (l, hh)) (hc : c ≤ c') : bnds len c' lo hi = some (l, hh) := by
  unfold bnds at hq ⊢
  cases hi with
  | none => exact hq
  | some z =>
    cases z with
    | negSucc n => simp [bndHi] at hq
    | ofNat n =>
      simp only [bndHi] at hq ⊢
      cases hb : Nat.ble n c with
      | false => rw [hb] at hq; simp at hq
      | true =>
        rw [hb] at hq
        have : Nat.ble n c' = true := by rw [Nat.ble_eq] at hb ⊢; omega
        rw [this]; exact hq
theorem bnds_le {len c : Nat} {lo hi : Option Int} {l hh : Nat} (hq : bnds len c lo hi = some (l, hh)) (hc : len ≤ c ∨ ∃ n, hi = some n) : l ≤ hh ∧ hh ≤ c := by
  obtain ⟨g1, g2⟩ := bnds_sound hq
  have h1 : l ≤ hh := by
    rcases g2 with ⟨_, rfl⟩ | ⟨_, h⟩
    · exact Nat.zero_le _
    · exact h
  refine ⟨h1, ?_⟩
  rcases g1 with ⟨h2, rfl⟩ | ⟨_, h⟩
  · rcases hc with hc | ⟨n, hc⟩
    · exact hc
    · rw [hc] at h2; cases h2
  · exact h
theorem sub_flat {σ : PHeap} {p : Addr} {vss : List (List Value)} {z : Nat} (hz : ∀ v ∈ vss, v.length = z) (hr : RowAt σ p vss.flatten) (l hh : Nat) (hl : l ≤ hh) (hh' : hh ≤ vss.length) : RowAt σ (p.add (l * z)) ((vss.take hh).drop l).flatten := by
  have hlen : ∀ (q : List (List Value)), (∀ v ∈ q, v.length = z) → q.flatten.length = q.length * z := by
    intro q
    induction q with
    | nil => intro _; simp
    | cons y q ih => intro hq; simp only [List.flatten_cons, List.length_append, List.length_cons, ih (fun v hv => hq v (by simp [hv])), hq y (by simp), Nat.add_mul]; omega
  have e1 : vss = vss.take l ++ ((vss.take hh).drop l ++ vss.drop hh) := by
    rw [← List.append_assoc]
    have : vss.take l ++ (vss.take hh).drop l = vss.take hh := by
      have h1 : vss.take l = (vss.take hh).take l := by rw [List.take_take, Nat.min_eq_left hl]
      rw [h1, List.take_append_drop]
    rw [this, List.take_append_drop]
  have e2 : vss.flatten = (vss.take l).flatten ++ (((vss.take hh).drop l).flatten ++ (vss.drop hh).flatten) := by
    rw [← List.flatten_append, ← List.flatten_append, ← e1]
  have h1 : (vss.take l).flatten.length = l * z := by
    rw [hlen _ fun v hv => hz v (List.mem_of_mem_take hv), List.length_take, Nat.min_eq_left (by omega)]
  have h3 := hr.part (l * z) (((vss.take hh).drop l).flatten.length) (by
    rw [e2]; simp only [List.length_append, h1]; omega)
  have h4 : ((vss.flatten.drop (l * z)).take ((vss.take hh).drop l).flatten.length) = ((vss.take hh).drop l).flatten := by
    have h5 : vss.flatten.drop (l * z) = ((vss.take hh).drop l).flatten ++ (vss.drop hh).flatten := by
      rw [e2, ← h1]; exact List.drop_left
    rw [h5]; exact List.take_left
  rwa [h4] at h3
theorem q_slice (TO : TabOK P T) (He : EnvR (PAll w0) ρ e e') {t : TypeId} {x : Operand} {lo hi mx : Option Operand} (hq : qop T (.slice t x lo hi mx) e h = some a) : QS P w0 ρ e' w (.slice t x lo hi mx) a := by
  simp only [qop] at hq
  split at hq
  · rename_i et i hsl
    obtain ⟨hu, hok, _⟩ := slElem_sound TO hsl
    have hs := sizeOf_of hok w
    split at hq
    · rename_i v hx
      have Hx := ev1_sound He hx
      split at hq
      · rename_i lo' hlo
        obtain ⟨kl, Hlo⟩ := optVal He hlo
        split at hq
        · rename_i hi' hhi
          obtain ⟨kh, Hhi⟩ := optVal He hhi
          split at hq
          · rename_i mx' hmx
            obtain ⟨km, Hmx⟩ := optVal He hmx
            unfold sliceA at hq
            split at hq
            · -- nil
              cases mx' with
              | some _ => simp at hq
              | none =>
                simp only at hq
                split at hq
                · rename_i r hb
                  cases hq
                  obtain ⟨l, hh⟩ := r
                  have hv : evalE e' x = .slice none 0 0 := by simpa only [VR] using Hx
                  have h1 := bnds_le hb (.inl (Nat.le_refl 0))
                  have hrun := run_bnds (P := P) (lov := lo.map (evalE e')) (hiv := hi.map (evalE e')) hb Hlo Hhi w
                  have hmx0 : mx.map (evalE e') = none := Hmx
                  rw [← hmx0] at hrun
                  refine ⟨.slice none 0 0, fun ty => ?_, by simp only [VR]⟩
                  have := ran_slice hu hs hv hrun ty
                  have h2 : l = 0 := by omega
                  have h3 : hh = 0 := by omega
                  subst h2 h3
                  simpa using this
                · cases hq
            · -- own
              rename_i s off len cap
              simp only [VR] at Hx
              obtain ⟨y, c, hy, hv, hlc, hcm, hcap⟩ := Hx
              unfold slOsl at hq
              split at hq
              · have hmx0 : mx.map (evalE e') = none := Hmx
                split at hq
                · rename_i c2
                  have : c = c2 := hcap
                  subst this
                  split at hq
                  · rename_i l hh hb
                    cases hq
                    have h1 := bnds_le hb (.inl hlc)
                    have hrun := run_bnds (P := P) (lov := lo.map (evalE e')) (hiv := hi.map (evalE e')) hb Hlo Hhi w
                    rw [← hmx0] at hrun
                    refine ⟨_, fun ty => ran_slice hu hs hv hrun ty, ?_⟩
                    simp only [VR]
                    refine ⟨y, c - l, hy, ?_, by omega, by omega, rfl⟩
                    by_cases hcl : c = l
                    · subst hcl; simp
                    · have : Nat.beq c l = false := by cases hb : Nat.beq c l with | false => rfl | true => exact absurd (Nat.eq_of_beq_eq_true hb) hcl
                      simp [hcl, this, addr_add]
                  · cases hq
                · rename_i z
                  cases hz : Nat.beq z i.z.length with
                  | false => rw [hz] at hq; cases hq
                  | true =>
                    rw [hz] at hq
                    have := Nat.eq_of_beq_eq_true hz
                    subst this
                    obtain ⟨hcN, hz0⟩ : off + c * i.z.length = y.2 ∧ 0 < i.z.length := hcap
                    simp only [cond_true] at hq
                    split at hq
                    · rename_i l hh hb
                      have h1 := bnds_le hb (.inl (Nat.le_refl _))
                      have hb' := bnds_up hb hlc
                      have hrun := run_bnds (P := P) (lov := lo.map (evalE e')) (hiv := hi.map (evalE e')) hb' Hlo Hhi w
                      rw [← hmx0] at hrun
                      refine ⟨_, fun ty => ran_slice hu hs hv hrun ty, ?_⟩
                      cases hll : Nat.beq l len with
                      | true =>
                        rw [hll] at hq; cases hq
                        have := Nat.eq_of_beq_eq_true hll
                        subst this
                        simp only [VR]
                        refine ⟨_, c - l, [], 0, by rw [show hh - l = 0 by omega]; rfl, by simp, by omega, by simp, fun _ => ?_, fun hn => ?_, by simp [VRss], by simp, by simp⟩
                        · split <;> simp
                        · split at hn <;> simp at hn
                      | false =>
                        rw [hll] at hq; cases hq
                        have hne : ¬ c = l := by
                          have : l ≠ len := fun hh => by subst hh; rw [Nat.beq_refl] at hll; cases hll
                          omega
                        simp only [VR]
                        refine ⟨y, c - l, hy, by simp [hne, addr_add], by omega, by omega, ?_, hz0⟩
                        show off + l * i.z.length + (c - l) * i.z.length = y.2
                        rw [← hcN, Nat.add_assoc, ← Nat.add_mul]
                        congr 2; omega
                    · cases hq
              · rename_i m
                split at hq
                · rename_i n
                  cases hmc : Nat.ble m (capOf cap len) with
                  | false => rw [hmc] at hq; cases hq
                  | true =>
                    rw [hmc] at hq
                    simp only [cond_true] at hq
                    have hm1 := Nat.le_of_ble_eq_true hmc
                    have hm : m ≤ c := by
                      cases cap with
                      | is k => have : c = k := hcap; subst this; exact hm1
                      | un k => have : m ≤ len := hm1; omega
                    split at hq
                    · rename_i l hh hb
                      cases hq
                      have h1 := bnds_le hb (.inr ⟨n, rfl⟩)
                      have hrun := run_bnds3 (P := P) (lov := lo.map (evalE e')) (kh := kh) (km := km) hm hb Hlo w
                      have e1 : hi.map (evalE e') = some (.int kh n) := Hhi
                      have e2 : mx.map (evalE e') = some (.int km (m : Int)) := Hmx
                      rw [← e1, ← e2] at hrun
                      refine ⟨_, fun ty => ran_slice hu hs hv hrun ty, ?_⟩
                      simp only [VR]
                      refine ⟨y, m - l, hy, ?_, by omega, by omega, rfl⟩
                      by_cases hcl : m = l
                      · subst hcl; simp
                      · have : Nat.beq m l = false := by cases hb : Nat.beq m l with | false => rfl | true => exact absurd (Nat.eq_of_beq_eq_true hb) hcl
                        simp [hcl, this, addr_add]
                    · cases hq
                · cases hq
              · cases hq
            · -- read alone
              rename_i nn xs cap
              simp only [VR] at Hx
              obtain ⟨ad, c, vss, z, hv, g1, g2, g3, g4, g5, g6, g7, g8⟩ := Hx
              have fin : ∀ (l hh m : Nat) (cap' : Option Nat), l ≤ hh → hh ≤ xs.length → hh ≤ m → m ≤ c → szOK i.z.length xs l = true → (∀ k, cap' = some k → m - l = k) →
                  VR (PAll w0) (.rsl nn ((xs.take hh).drop l) cap') ρ (.slice (if m = l then ad else ad.map (·.add (l * i.z.length))) (hh - l) (m - l)) := by
                intro l hh m cap' h1 h2 h3 h4 h5 h6
                simp only [VR]
                have hlen : ((xs.take hh).drop l).length = hh - l := by simp; omega
                refine ⟨_, m - l, (vss.take hh).drop l, z, by rw [hlen], by omega, by omega, fun k hk => h6 k hk, fun hnn => ?_, fun hn => ?_, (g6.take hh).drop l, fun vs hvs => g7 vs (List.mem_of_mem_take (List.mem_of_mem_drop hvs)), ?_⟩
                · have := g4 hnn
                  cases ad with
                  | none => exact absurd rfl this
                  | some p => split <;> simp
                · split at hn
                  · omega
                  · have : ad = none := by simpa using hn
                    have := g5 this
                    omega
                · by_cases h0 : (xs.take hh).drop l = []
                  · exact .inl h0
                  · right
                    have hlt : l < hh := by
                      rcases Nat.lt_or_ge l hh with h | h
                      · exact h
                      · exact absurd (List.drop_eq_nil_of_le (by simp; omega)) h0
                    have hml : ¬ m = l := by omega
                    rcases g8 with g8 | ⟨p, rfl, hr⟩
                    · subst g8; simp at h0
                    · refine ⟨p.add (l * i.z.length), by simp [hml], ?_⟩
                      have hr' := sub_flat (fun v hv => (g7 v hv).1) hr l hh h1 (by rw [g6.length]; exact h2)
                      unfold szOK at h5
                      simp only [Bool.or_eq_true] at h5
                      rcases h5 with h5 | h5
                      · have := Nat.eq_of_beq_eq_true h5
                        subst this
                        simpa using hr'
                      · cases xs with
                        | nil => simp at h0
                        | cons x0 xr =>
                          have hx0 := Nat.eq_of_beq_eq_true h5
                          simp only [VRss] at g6
                          obtain ⟨v0, ws, rfl, hv0, _⟩ := g6
                          have hz : z = i.z.length := by rw [← hx0, ← hv0.length]; exact ((g7 v0 (by simp)).1).symm
                          rw [← hz]; exact hr'
              unfold slRsl at hq
              split at hq
              · have hmx0 : mx.map (evalE e') = none := Hmx
                split at hq
                · rename_i l hh hb
                  cases hso : szOK i.z.length xs l with
                  | false => rw [hso] at hq; cases hq
                  | true =>
                    rw [hso] at hq; cases hq
                    have h1 := bnds_le hb (.inl (Nat.le_refl _))
                    have hrun := run_bnds (P := P) (lov := lo.map (evalE e')) (hiv := hi.map (evalE e')) (bnds_up hb g1) Hlo Hhi w
                    rw [← hmx0] at hrun
                    refine ⟨_, fun ty => ran_slice hu hs hv hrun ty, fin l hh c _ h1.1 h1.2 (by omega) (Nat.le_refl _) hso fun k hk => ?_⟩
                    cases cap with
                    | none => simp at hk
                    | some c2 => simp at hk; rw [g3 c2 rfl]; exact hk
                · cases hq
              · rename_i m
                split at hq
                · rename_i n
                  cases hmc : Nat.ble m xs.length with
                  | false => rw [hmc] at hq; cases hq
                  | true =>
                    rw [hmc] at hq
                    simp only [cond_true] at hq
                    have hm1 := Nat.le_of_ble_eq_true hmc
                    split at hq
                    · rename_i l hh hb
                      cases hso : szOK i.z.length xs l with
                      | false => rw [hso] at hq; cases hq
                      | true =>
                        rw [hso] at hq; cases hq
                        have h1 := bnds_le hb (.inr ⟨n, rfl⟩)
                        have hrun := run_bnds3 (P := P) (lov := lo.map (evalE e')) (kh := kh) (km := km) (show m ≤ c by omega) hb Hlo w
                        have e1 : hi.map (evalE e') = some (.int kh n) := Hhi
                        have e2 : mx.map (evalE e') = some (.int km (m : Int)) := Hmx
                        rw [← e1, ← e2] at hrun
                        exact ⟨_, fun ty => ran_slice hu hs hv hrun ty, fin l hh m _ h1.1 (by omega) h1.2 (by omega) hso fun k hk => by simpa using hk⟩
                    · cases hq
                · cases hq
              · cases hq
            · cases hq
          · cases hq
        · cases hq
      · cases hq
    · cases hq
  · cases hq
theorem q_index (TO : TabOK P T) (He : EnvR (PAll w0) ρ e e') {t : TypeId} {x y : Operand} (hq : qop T (.index t x y) e h = some a) : QS P w0 ρ e' w (.index t x y) a := by
  simp only [qop] at hq
  split at hq
  · rename_i i hi
    have ok := (TO.ty _ _ hi).sh
    split at hq
    · rename_i k n hsh hy
      rw [hsh] at ok
      have ok : P.underlying t = some .string := ok
      have Hy := VR_int (ev1_sound He hy)
      split at hq
      · rename_i s hx
        have Hx := VR_str (ev1_sound He hx)
        split at hq
        · rename_i b hb
          cases hq
          refine ⟨_, fun ty d pos af g => ?_, int_VR⟩
          have hlt : n < s.length := (List.getElem?_eq_some_iff.1 hb).1
          have h1 : (⟨s.toArray⟩ : ByteArray)[n]? = some b := by
            have h2 : n < (⟨s.toArray⟩ : ByteArray).size := by simpa [ByteArray.size] using hlt
            rw [getElem?_pos _ n h2]
            congr 1
            have h3 : s[n] = b := (List.getElem?_eq_some_iff.1 hb).2
            rw [← h3]
            rfl
          simp [execOp, Instr.index, Hx, Hy, asIntOf, run_underlying ok, h1]
        · cases hq
      · cases hq
    · cases hq
  · cases hq
/-- One argument, one type. -/
theorem one_arg (He : EnvR (PAll w0) ρ e e') {args : Array Operand} {v : AV} (hv : evs e args.toList = some [v]) : ∃ x, args = #[x] ∧ VR (PAll w0) v ρ (evalE e' x) := by
  have Hv := evs_sound He hv
  have hl := Hv.length
  obtain ⟨args⟩ := args
  match args, hl, Hv with
  | [x], _, Hv =>
    simp only [List.map_cons, List.map_nil, VRs, List.cons.injEq] at Hv
    obtain ⟨v1, _, ⟨rfl, rfl⟩, h1, -⟩ := Hv
    exact ⟨x, rfl, h1⟩
  | [], hl, Hv => simp at hl
  | _ :: _ :: _, hl, Hv => simp at hl
theorem two_args (He : EnvR (PAll w0) ρ e e') {args : Array Operand} {v u : AV} (hv : evs e args.toList = some [v, u]) : ∃ x y, args = #[x, y] ∧ VR (PAll w0) v ρ (evalE e' x) ∧ VR (PAll w0) u ρ (evalE e' y) := by
  have Hv := evs_sound He hv
  have hl := Hv.length
  obtain ⟨args⟩ := args
  match args, hl, Hv with
  | [x, y], _, Hv =>
    simp only [List.map_cons, List.map_nil, VRs, List.cons.injEq] at Hv
    obtain ⟨v1, _, ⟨rfl, rfl⟩, h1, v2, _, ⟨rfl, rfl⟩, h2, -⟩ := Hv
    exact ⟨x, y, rfl, h1, h2⟩
  | [], hl, Hv => simp at hl
  | [_], hl, Hv => simp at hl
  | _ :: _ :: _ :: _, hl, Hv => simp at hl
theorem q_min (He : EnvR (PAll w0) ρ e e') {args : Array Operand} {ats : Array TypeId} (hq : qop T (.call { callee := .builtin .min, args := args, argTypes := ats }) e h = some a) : QS P w0 ρ e' w (.call { callee := .builtin .min, args := args, argTypes := ats }) a := by
  simp only [qop] at hq
  split at hq
  · rename_i k m k' n hv
    cases hk : kEq k k' with
    | false => rw [hk] at hq; cases hq
    | true =>
      rw [hk] at hq; cases hq
      cases kEq_eq hk
      obtain ⟨x, y, rfl, h1, h2⟩ := two_args He hv
      have h1 := VR_int h1
      have h2 := VR_int h2
      refine ⟨_, fun ty d pos af g => ?_, int_VR⟩
      simp [execOp, resolve, invoke, builtin, Builtin.min_, Builtin.min2, h1, h2]
  · cases hq
theorem q_max (He : EnvR (PAll w0) ρ e e') {args : Array Operand} {ats : Array TypeId} (hq : qop T (.call { callee := .builtin .max, args := args, argTypes := ats }) e h = some a) : QS P w0 ρ e' w (.call { callee := .builtin .max, args := args, argTypes := ats }) a := by
  simp only [qop] at hq
  split at hq
  · rename_i k m k' n hv
    cases hk : kEq k k' with
    | false => rw [hk] at hq; cases hq
    | true =>
      rw [hk] at hq; cases hq
      cases kEq_eq hk
      obtain ⟨x, y, rfl, h1, h2⟩ := two_args He hv
      have h1 := VR_int h1
      have h2 := VR_int h2
      refine ⟨_, fun ty d pos af g => ?_, int_VR⟩
      simp [execOp, resolve, invoke, builtin, Builtin.max_, Builtin.max2, h1, h2]
  · cases hq
theorem arr_of {α : Type} {x : Array α} {l : List α} (h : x.toList = l) : x = l.toArray := by apply Array.ext'; simpa using h
theorem ERs.length {σ : PHeap} : ∀ {l : List AEnt} {es : List MapEntry}, ERs σ ρ l es → es.length = l.length
  | [], _, h => by have : _ = [] := h; subst this; rfl
  | _ :: _, _, ⟨y, ys, h1, _, _, _, h5⟩ => by subst h1; simp [ERs.length h5]
theorem q_len (TO : TabOK P T) (He : EnvR (PAll w0) ρ e e') (H : HR w0 ρ h w) {args : Array Operand} {ats : Array TypeId} (hq : qop T (.call { callee := .builtin .len, args := args, argTypes := ats }) e h = some a) : QS P w0 ρ e' w (.call { callee := .builtin .len, args := args, argTypes := ats }) a := by
  simp only [qop] at hq
  split at hq
  · rename_i t v ht hv
    obtain ⟨x, rfl, Hx⟩ := one_arg He hv
    have := arr_of ht
    subst this
    split at hq
    · rename_i i hi
      have ok := (TO.ty _ _ hi).sh
      cases hf : lenFits i.sh v with
      | false => rw [hf] at hq; cases hq
      | true =>
        rw [hf] at hq
        simp only [cond_true] at hq
        split at hq
        · rename_i n hn
          cases hq
          refine ⟨.int .i64 n, fun ty d pos af g => ?_, int_VR⟩
          cases hsh : i.sh <;> rw [hsh] at hf ok <;> cases v <;> first | (simp [lenFits, shFits] at hf; done) | (simp [lenA] at hn; done) | skip
          all_goals simp only [VR] at Hx
          · -- text
            have ok : P.underlying t = some .string := ok
            simp only [lenA, Option.some.injEq] at hn
            subst hn
            rename_i s
            have hsz : (ByteArray.mk s.toArray).size = s.length := by show s.toArray.size = _; simp
            simp [execOp, resolve, invoke, builtin, Hx, Builtin.len_, goInt, run_underlying ok, hsz]
          · have ok : P.underlying t = some (.slice _) := ok
            simp only [lenA, Option.some.injEq] at hn
            subst hn
            simp [execOp, resolve, invoke, builtin, Hx, Builtin.len_, goInt, run_underlying ok]
          · have ok : P.underlying t = some (.slice _) := ok
            simp only [lenA, Option.some.injEq] at hn
            subst hn
            obtain ⟨z, c, _, hx, _⟩ := Hx
            simp [execOp, resolve, invoke, builtin, hx, Builtin.len_, goInt, run_underlying ok]
          · have ok : P.underlying t = some (.slice _) := ok
            simp only [lenA, Option.some.injEq] at hn
            subst hn
            obtain ⟨z, c, _, _, hx, _⟩ := Hx
            simp [execOp, resolve, invoke, builtin, hx, Builtin.len_, goInt, run_underlying ok]
          · have ok : P.underlying t = some (.map _ _) := ok
            simp only [lenA, Option.some.injEq] at hn
            subst hn
            simp [execOp, resolve, invoke, builtin, Hx, Builtin.len_, goInt, run_underlying ok]
          · have ok : P.underlying t = some (.map _ _) := ok
            obtain ⟨z, hz, hx⟩ := Hx
            simp only [lenA] at hn
            split at hn
            · rename_i es c hg
              cases hn
              obtain ⟨es', hb, her⟩ := H.obj _ _ _ hz hg
              have hl := her.length
              simp [execOp, resolve, invoke, builtin, hx, Builtin.len_, goInt, run_underlying ok, getObj, Sem.run, hb, hl]
            · cases hn
        · cases hq
    · cases hq
  · cases hq
theorem q_cap (TO : TabOK P T) (He : EnvR (PAll w0) ρ e e') {args : Array Operand} {ats : Array TypeId} (hq : qop T (.call { callee := .builtin .cap, args := args, argTypes := ats }) e h = some a) : QS P w0 ρ e' w (.call { callee := .builtin .cap, args := args, argTypes := ats }) a := by
  simp only [qop] at hq
  split at hq
  · rename_i t v ht hv
    obtain ⟨x, rfl, Hx⟩ := one_arg He hv
    have := arr_of ht
    subst this
    split at hq
    · rename_i r hsl
      obtain ⟨et, i⟩ := r
      obtain ⟨hu, _, _⟩ := slElem_sound TO hsl
      split at hq
      · cases hq
        simp only [VR] at Hx
        exact ⟨.int .i64 0, fun ty d pos af g => by simp [execOp, resolve, invoke, builtin, Hx, Builtin.cap_, goInt, run_underlying hu], int_VR⟩
      · rename_i s off len c
        cases hq
        simp only [VR] at Hx
        obtain ⟨y, c', hy, hvv, _, _, hc⟩ := Hx
        have : c' = c := hc
        subst this
        exact ⟨.int .i64 c', fun ty d pos af g => by simp [execOp, resolve, invoke, builtin, hvv, Builtin.cap_, goInt, run_underlying hu], int_VR⟩
      · rename_i nn xs c
        cases hq
        simp only [VR] at Hx
        obtain ⟨ad, c', _, _, hvv, _, _, hc, _⟩ := Hx
        have : c' = c := hc _ rfl
        subst this
        exact ⟨.int .i64 c', fun ty d pos af g => by simp [execOp, resolve, invoke, builtin, hvv, Builtin.cap_, goInt, run_underlying hu], int_VR⟩
      · cases hq
    · cases hq
  · cases hq
end ops
end Go.Proofs.YtjpkccofeafkbaaGreat.Pvx
