/- Operations that leave the memory as it is: what the machine tells of them is so. Over any program. -/
import Derived.Test.YtjpkccofeafkbaaGreatPvxQ2
namespace Go.Proofs.YtjpkccofeafkbaaGreat.Pvx
open Go.RowKit
set_option linter.unusedVariables false
set_option linter.unusedSimpArgs false
section ops
variable {P : Program} {T : Tab} {w0 : World} {ρ : Rho} {e : AEnv} {e' : Env} {h : Hp} {w : World} {a : AV}
theorem slElem_sound (TO : TabOK P T) {t et : TypeId} {i : TyI} (h : slElem T t = some (et, i)) : P.underlying t = some (.slice et) ∧ TyOK P et i ∧ T.ty et = some i := by
  unfold slElem at h
  split at h
  · rename_i j hj
    split at h
    · rename_i el hsh
      split at h
      · rename_i q hq
        cases h
        have := (TO.ty _ _ hj).sh
        rw [hsh] at this
        exact ⟨this, TO.ty _ _ hq, hq⟩
      · cases h
    · cases h
  · cases h
theorem sizeOf_of {t : TypeId} {i : TyI} (h : TyOK P t i) (w : World) : (sizeOf t).run P w = .ok i.z.length w := by
  obtain ⟨zs, h1, h2⟩ := h.ti
  rw [h1.size, (h2 (PAll w) rnone).length]
theorem under_some (TO : TabOK P T) {t : TypeId} {i : TyI} (h : T.ty t = some i) : ∃ d, P.underlying t = some d := by
  obtain ⟨zs, h1, _⟩ := (TO.ty _ _ h).ti
  cases hu : P.underlying t with
  | some d => exact ⟨d, rfl⟩
  | none =>
    have := h1.run_agg default
    simp [isAgg, underlying, hu] at this
theorem q_convert (TO : TabOK P T) (He : EnvR (PAll w0) ρ e e') (H : HR w0 ρ h w) {src dst : TypeId} {x : Operand} (hq : qop T (.convert src dst x) e h = some a) : QS P w0 ρ e' w (.convert src dst x) a := by
  simp only [qop] at hq
  split at hq
  · rename_i j hj
    split at hq
    · rename_i i hi
      split at hq
      · rename_i k k0 n hsh hx
        cases hq
        obtain ⟨d, hd⟩ := under_some TO hj
        have := (TO.ty _ _ hi).sh
        rw [hsh] at this
        exact ⟨_, fun _ => r_conv hd this (VR_int (ev1_sound He hx)) rfl, int_VR⟩
      · rename_i s off n c hsh hx
        split at hq
        · rename_i el hsl
          split at hq
          · rename_i q hel
            split at hq
            · rename_i hu8
              split at hq
              · rename_i cs hcs
                split at hq
                · rename_i r hr
                  cases hq
                  have Hx := ev1_sound He hx
                  have h1 := (TO.ty _ _ hi).sh
                  have h2 := (TO.ty _ _ hj).sh
                  have h3 := (TO.ty _ _ hel).sh
                  rw [hsh] at h1; rw [hsl] at h2; rw [hu8] at h3
                  obtain ⟨vs, h4, h5, h6⟩ := elems_sound (P := P) H Hx hcs (by decide)
                  obtain ⟨ns, rfl, rfl⟩ := bytes_sound hr h4
                  have h0 := Hx
                  simp only [VR] at Hx
                  obtain ⟨y, c', hy, hv, _⟩ := Hx
                  have hload := h6 w (fun _ _ => rfl)
                  rw [hv] at hload
                  have hload : (loadCells ⟨y.1, off, none⟩ (n * 1)).run P w = .ok (ns.map fun n => Value.int .u8 n).toArray w := hload
                  rw [Nat.mul_one] at hload
                  refine ⟨_, fun ty d pos af g => ?_, by simp only [VR]; rfl⟩
                  have h1 : P.underlying dst = some .string := h1
                  have h2 : P.underlying src = some (.slice el) := h2
                  have h3 : P.underlying el = some (.int .u8) := h3
                  simp only [execOp, convert, Sem.run_bind, run_underlying h1, run_underlying h2, run_underlying h3, Result.andThen_ok, hv, run_bytesToString w _ n c' ns hload, Sem.run_pure]
                  congr 3
                  have hfold : ∀ (l : List Int) (r : ByteArray), (l.foldl (fun r n => r.push (UInt8.ofNat n.toNat)) r) = ⟨r.data ++ (l.map fun n => UInt8.ofNat n.toNat).toArray⟩ := by
                    intro l
                    induction l with
                    | nil => intro r; simp
                    | cons n l ih =>
                      intro r
                      simp only [List.foldl_cons, ih, List.map_cons]
                      congr 1
                      apply Array.ext'
                      simp [ByteArray.push]
                  rw [hfold]
                  simp [ByteArray.empty, ByteArray.emptyWithCapacity]
                  try rfl
                · cases hq
              · cases hq
            · cases hq
          · cases hq
        · cases hq
      · cases hq
    · cases hq
  · cases hq
theorem q_makeInterface (TO : TabOK P T) (He : EnvR (PAll w0) ρ e e') {t : TypeId} {x : Operand} (hq : qop T (.makeInterface t x) e h = some a) : QS P w0 ρ e' w (.makeInterface t x) a := by
  simp only [qop] at hq
  split at hq
  · rename_i i hi
    have ok := (TO.ty _ _ hi).sh
    split at hq
    · cases hq
    · cases hq
    · rename_i hn1 hn2
      split at hq
      · rename_i v hx
        cases hq
        have Hx := ev1_sound He hx
        refine ⟨.iface t (evalE e' x), fun ty d pos af g => ?_, by simp only [VR]; exact ⟨_, rfl, Hx⟩⟩
        have key : ∀ d, P.underlying t = some d → (∀ m, d ≠ .interface m) → (execOp (evalE e') ⟨‹_›, .makeInterface t x, ty, pos, af, g⟩).run P w = .ok (.value (.iface t (evalE e' x))) w := by
          intro d hd hne
          simp only [execOp, Instr.makeInterface, Sem.run_bind, run_underlying hd, Result.andThen_ok]
          cases d <;> first | rfl | exact absurd rfl (hne _)
        cases hsh : i.sh <;> rw [hsh] at ok
        all_goals first
          | exact absurd hsh hn1
          | exact absurd hsh hn2
          | exact key _ ok (by intro m h; cases h)
          | (obtain ⟨el, hu⟩ := ok; first | exact key _ hu (by intro m h; cases h) | exact key _ hu.under (by intro m h; cases h))
          | (obtain ⟨f1, f2, f3, hu⟩ := ok; exact key _ hu (by intro m h; cases h))
      · cases hq
  · cases hq
theorem q_typeAssert (TO : TabOK P T) (He : EnvR (PAll w0) ρ e e') {xt t : TypeId} {x : Operand} (hq : qop T (.typeAssert x xt t false) e h = some a) : QS P w0 ρ e' w (.typeAssert x xt t false) a := by
  simp only [qop] at hq
  split at hq
  · rename_i i hi
    have ok := (TO.ty _ _ hi).sh
    split at hq
    · rename_i k el hsh
      split at hq
      · rename_i u v hx
        cases hb : Nat.beq u t with
        | false => rw [hb] at hq; cases hq
        | true =>
          rw [hb] at hq; cases hq
          have := Nat.eq_of_beq_eq_true hb
          subst this
          rw [hsh] at ok
          have Hx := ev1_sound He hx
          simp only [VR] at Hx
          obtain ⟨z, hz, Hz⟩ := Hx
          refine ⟨z, fun ty d pos af g => ?_, Hz⟩
          have ok : P.underlying u = some (.map k el) := ok
          simp [execOp, Instr.typeAssert, run_underlying ok, hz]
      · cases hq
    · cases hq
  · cases hq
theorem q_makeFunc (He : EnvR (PAll w0) ρ e e') {f : FuncId} {first cap : Array Operand} (hq : qop T (.makeFunc (.func f) first cap) e h = some a) : QS P w0 ρ e' w (.makeFunc (.func f) first cap) a := by
  simp only [qop] at hq
  split at hq
  · rename_i vs hf hv
    cases hq
    have : first = #[] := by apply Array.ext'; simpa using hf
    subst this
    exact ⟨_, fun _ => r_makeFunc _ rfl, by simp only [VR]; exact ⟨_, rfl, evs_sound He hv⟩⟩
  · cases hq
theorem q_extract (He : EnvR (PAll w0) ρ e e') {x : Operand} {n : Nat} (hq : qop T (.extract x n) e h = some a) : QS P w0 ρ e' w (.extract x n) a := by
  simp only [qop] at hq
  split at hq
  · rename_i vs hx
    have Hx := ev1_sound He hx
    simp only [VR] at Hx
    obtain ⟨us, hv, hr⟩ := Hx
    obtain ⟨u, h1, h2⟩ := hr.get hq
    exact ⟨u, fun _ => r_extract hv h1, h2⟩
  · cases hq
theorem q_fieldAddr (TO : TabOK P T) (He : EnvR (PAll w0) ρ e e') {t : TypeId} {x : Operand} {f : Nat} (hq : qop T (.fieldAddr t x f) e h = some a) : QS P w0 ρ e' w (.fieldAddr t x f) a := by
  simp only [qop] at hq
  split at hq
  · rename_i i hi
    have ok := (TO.ty _ _ hi).sh
    split at hq
    · rename_i fs ft fl hsh
      rw [hsh] at ok
      obtain ⟨fields, hS⟩ := ok
      split at hq
      · rename_i off n hf
        obtain ⟨fld, agg, z, by_, g1, g2, g3, g4, g5, g6⟩ := hS.field _ _ _ hf
        have hfi : FI P t f off := FI.of hS.under g1 g2 g4 (by omega)
        split at hq
        · rename_i s o hx
          cases hq
          have Hx := ev1_sound He hx
          simp only [VR] at Hx
          obtain ⟨y, hy, hv⟩ := Hx
          refine ⟨_, fun _ => r_field hfi hv rfl, ?_⟩
          rw [addr_add _ rfl]
          simp only [VR]
          exact ⟨y, hy, rfl⟩
        · rename_i cs hx
          cases hq
          have Hx := ev1_sound He hx
          simp only [VR] at Hx
          obtain ⟨ad, vs, hv, hr, h1, h2⟩ := Hx
          refine ⟨_, fun _ => r_field hfi hv rfl, ?_⟩
          simp only [VR]
          refine ⟨_, vs.drop off, rfl, ?_, h1.drop off, fun u hu => h2 u (List.mem_of_mem_drop hu)⟩
          by_cases hle : off ≤ vs.length
          · have := hr.part off (vs.length - off) (by omega)
            rwa [List.take_of_length_le (by simp)] at this
          · rw [List.drop_eq_nil_of_le (by omega)]
            obtain ⟨h0, c, tt, fr, hb, _⟩ := hr
            rw [addr_add _ h0]
            exact ⟨rfl, c, tt, fr, hb, by simp⟩
        · cases hq
      · cases hq
    · cases hq
  · cases hq
theorem q_field (TO : TabOK P T) (He : EnvR (PAll w0) ρ e e') {t : TypeId} {x : Operand} {f : Nat} (hq : qop T (.field t x f) e h = some a) : QS P w0 ρ e' w (.field t x f) a := by
  simp only [qop] at hq
  split at hq
  · rename_i i hi
    have ok := (TO.ty _ _ hi).sh
    split at hq
    · rename_i fs ft fl hsh
      rw [hsh] at ok
      obtain ⟨fields, hS⟩ := ok
      split at hq
      · rename_i off n u hf hu
        split at hq
        · rename_i j hj
          split at hq
          · rename_i cs hx
            split at hq
            · rename_i r hr
              obtain ⟨fld, agg, z, by_, g1, g2, g3, g4, g5, g6⟩ := hS.field _ _ _ hf
              have : fld.type = u := by rw [hu] at g3; exact (Option.some.inj g3).symm
              subst this
              obtain ⟨zs, hti, hz⟩ := (TO.ty _ _ hj).ti
              have hzl := (hz (PAll w0) ρ).length
              obtain ⟨h3, h4⟩ := cut_sound hr
              subst h3
              have Hx := ev1_sound He hx
              simp only [VR] at Hx
              obtain ⟨vs, hv, h1, h2⟩ := Hx
              have hd := (h1.drop off).take j.z.length
              refine ⟨_, fun ty d pos af g => ?_, VR.ofCells hq hd (fun u hu => h2 u (List.mem_of_mem_drop (List.mem_of_mem_take hu)))⟩
              have hlen : ((vs.drop off).take j.z.length).length = j.z.length := hd.length.trans h4
              have hle : Nat.ble (off + zs.length) vs.length = true := by
                rw [Nat.ble_eq, hzl]
                have := (TO.ty _ _ hj).pos
                simp only [List.length_take, List.length_drop] at hlen
                omega
              have := part_TI (w := w) hti hle
              rw [← hzl]
              simp [execOp, Instr.field, run_underlying hS.under, g1, hv, asAgg, g2, this]
            · cases hq
          · cases hq
        · cases hq
      · cases hq
    · cases hq
  · cases hq
theorem q_indexAddr (TO : TabOK P T) (He : EnvR (PAll w0) ρ e e') {t : TypeId} {x y : Operand} (hq : qop T (.indexAddr t x y) e h = some a) : QS P w0 ρ e' w (.indexAddr t x y) a := by
  simp only [qop] at hq
  split at hq
  · rename_i et i hsl
    obtain ⟨hu, hok, _⟩ := slElem_sound TO hsl
    split at hq
    · rename_i k n hy
      have Hy := VR_int (ev1_sound He hy)
      split at hq
      · rename_i s off len cap hx
        cases hb : Nat.blt n len with
        | false => rw [hb] at hq; cases hq
        | true =>
          rw [hb] at hq; cases hq
          have hlt : n < len := by simpa using hb
          have Hx := ev1_sound He hx
          simp only [VR] at Hx
          obtain ⟨z, c, hz, hv, _⟩ := Hx
          refine ⟨.pointer (some ⟨z.1, off + n * i.z.length, none⟩), fun ty d pos af g => ?_, by simp only [VR]; exact ⟨z, hz, rfl⟩⟩
          simp [execOp, hv, Hy, Instr.indexAt, asIntOf, run_underlying hu, sizeOf_of hok, hlt, addr_add]
      · rename_i nn xs cap hx
        split at hq
        · rename_i cs hcs
          cases hb : Nat.beq cs.length i.z.length with
          | false => rw [hb] at hq; cases hq
          | true =>
            rw [hb] at hq; cases hq
            have hl := Nat.eq_of_beq_eq_true hb
            have Hx := ev1_sound He hx
            simp only [VR] at Hx
            obtain ⟨ad, c, vss, z, hv, h1, h2, h3, h4, h5, h6, h7, h8⟩ := Hx
            obtain ⟨vs, hvs, hrep⟩ := h6.get hcs
            have hlt : n < xs.length := (List.getElem?_eq_some_iff.1 hcs).1
            have hz : z = i.z.length := by
              have := (h7 vs (List.mem_of_getElem? hvs)).1
              rw [← this, hrep.length, hl]
            subst hz
            rcases h8 with h8 | ⟨p, rfl, hr⟩
            · subst h8; simp at hlt
            · have hflat : ∀ (l : List (List Value)) (j : Nat) (v : List Value), (∀ v ∈ l, v.length = i.z.length) → l[j]? = some v → (l.flatten.drop (j * i.z.length)).take i.z.length = v ∧ (j + 1) * i.z.length ≤ l.flatten.length := by
                intro l
                induction l with
                | nil => intro j v _ hj; simp at hj
                | cons u l ih =>
                  intro j v hall hj
                  have hul := hall u (by simp)
                  cases j with
                  | zero =>
                    simp at hj; subst hj
                    simp [← hul]
                  | succ j =>
                    obtain ⟨g1, g2⟩ := ih j v (fun v hv => hall v (by simp [hv])) (by simpa using hj)
                    refine ⟨?_, ?_⟩
                    · rw [List.flatten_cons, show (j + 1) * i.z.length = i.z.length + j * i.z.length by rw [Nat.add_mul]; omega, ← List.drop_drop, show (u ++ l.flatten).drop i.z.length = l.flatten by rw [← hul]; exact List.drop_left]
                      exact g1
                    · simp only [List.flatten_cons, List.length_append, hul, Nat.add_mul] at g2 ⊢
                      omega
              obtain ⟨g1, g2⟩ := hflat vss n vs (fun v hv => (h7 v hv).1) hvs
              have hp := hr.part (n * i.z.length) i.z.length (by rw [Nat.add_mul] at g2; omega)
              rw [g1] at hp
              refine ⟨.pointer (some (p.add (n * i.z.length))), fun ty d pos af g => ?_, by simp only [VR]; exact ⟨_, vs, rfl, hp, hrep, (h7 vs (List.mem_of_getElem? hvs)).2⟩⟩
              simp [execOp, hv, Hy, Instr.indexAt, asIntOf, run_underlying hu, sizeOf_of hok, hlt]
        · cases hq
      · cases hq
    · cases hq
  · cases hq
theorem optInt_sound (He : EnvR (PAll w0) ρ e e') {x : Option Operand} {r : Option Int} (hq : optInt e x = some r) : (x = none ∧ r = none) ∨ ∃ y k n, x = some y ∧ r = some n ∧ evalE e' y = .int k n := by
  cases x with
  | none => simp only [optInt, Option.some.injEq] at hq; exact .inl ⟨rfl, hq.symm⟩
  | some y =>
    simp only [optInt] at hq
    split at hq
    · rename_i k n hx
      cases hq
      exact .inr ⟨y, k, n, rfl, rfl, VR_int (ev1_sound He hx)⟩
    · cases hq
/-- The bounds of a slice expression. -/
theorem bnds_sound {len c l hh : Nat} {lo hi : Option Int} (hq : bnds len c lo hi = some (l, hh)) : (hi = none ∧ hh = len ∨ hi = some (hh : Int) ∧ hh ≤ c) ∧ (lo = none ∧ l = 0 ∨ lo = some (l : Int) ∧ l ≤ hh) := by
  unfold bnds at hq
  cases h1 : bndHi len c hi with
  | none => simp [h1] at hq
  | some q =>
    simp only [h1] at hq
    have h2 : q = hh ∧ (lo = none ∧ l = 0 ∨ lo = some (l : Int) ∧ l ≤ hh) := by
      cases lo with
      | none => simp [bndLo] at hq; obtain ⟨rfl, rfl⟩ := hq; exact ⟨rfl, .inl ⟨rfl, rfl⟩⟩
      | some z =>
        cases z with
        | negSucc n => simp [bndLo] at hq
        | ofNat l1 =>
          simp only [bndLo] at hq
          cases hb : Nat.ble l1 q with
          | false => rw [hb] at hq; cases hq
          | true => rw [hb] at hq; cases hq; exact ⟨rfl, .inr ⟨rfl, Nat.le_of_ble_eq_true hb⟩⟩
    obtain ⟨rfl, h2⟩ := h2
    refine ⟨?_, h2⟩
    cases hi with
    | none => simp only [bndHi, Option.some.injEq] at h1; exact .inl ⟨rfl, h1.symm⟩
    | some z =>
      cases z with
      | ofNat n =>
        simp only [bndHi] at h1
        cases hb : Nat.ble n c with
        | false => rw [hb] at h1; cases h1
        | true => rw [hb] at h1; cases h1; exact .inr ⟨rfl, Nat.le_of_ble_eq_true hb⟩
      | negSucc n => simp [bndHi] at h1
theorem run_bnds {len c l hh : Nat} {lo hi : Option Int} {lov hiv : Option Value} {kl kh : IntKind} (hq : bnds len c lo hi = some (l, hh)) (h1 : lov = lo.map (.int kl)) (h2 : hiv = hi.map (.int kh)) (w : World) :
    (Instr.sliceBounds true len c lov hiv none).run P w = .ok (l, hh, c) w := by
  obtain ⟨g1, g2⟩ := bnds_sound hq
  subst h1 h2
  unfold Instr.sliceBounds
  rcases g1 with ⟨rfl, rfl⟩ | ⟨rfl, g1⟩ <;> rcases g2 with ⟨rfl, rfl⟩ | ⟨rfl, g2⟩ <;> simp [Instr.sliceBound, asIntOf, *]
theorem run_bnds3 {len c m l hh : Nat} {lo : Option Int} {n : Int} {lov : Option Value} {kl kh km : IntKind} (hm : m ≤ c) (hq : bnds len m lo (some n) = some (l, hh)) (h1 : lov = lo.map (.int kl)) (w : World) :
    (Instr.sliceBounds true len c lov (some (.int kh n)) (some (.int km (m : Int)))).run P w = .ok (l, hh, m) w := by
  obtain ⟨g1, g2⟩ := bnds_sound hq
  subst h1
  unfold Instr.sliceBounds
  rcases g1 with ⟨h, _⟩ | ⟨h, g1⟩
  · cases h
  · cases h
    rcases g2 with ⟨rfl, rfl⟩ | ⟨rfl, g2⟩ <;> simp [Instr.sliceBound, asIntOf, *]
end ops
end Go.Proofs.YtjpkccofeafkbaaGreat.Pvx
