/- append, copy, clear. Over any program. -/
import Derived.Test.YtjpkccofeafkbaaGreatPvxK4
namespace Go.Proofs.YtjpkccofeafkbaaGreat.Pvx
open Go.RowKit
set_option linter.unusedVariables false
set_option linter.unusedSimpArgs false
section ops
variable {P : Program} {T : Tab} {w0 : World} {ρ : Rho} {e : AEnv} {e' : Env} {h : Hp} {w : World} {K : AV → Hp → Bool}
/-- The heap of one world goes on in another one. -/
def Same (w w' : World) : Prop := ∀ k, k < w.heap.size → w'.heap[k]? = w.heap[k]?
/-- What is appended: how many, which cells, in any world in which the heap goes on. -/
structure SrcR (P : Program) (u et : TypeId) (sz n : Nat) (zs : List Value) (w : World) (xv : Value) (news : List Value) : Prop where
  len : news.length = n * sz
  ones : ∀ v ∈ news, v.oneCell' = true
  kind : (∃ k, P.underlying u = some (.int k) ∧ xv = .int .i64 (n : Int) ∧ news = (List.replicate n zs).flatten) ∨
    (∃ d, P.underlying u = some d ∧ (∀ k, d ≠ .int k) ∧ (∀ w, (Builtin.lenOf xv).run P w = .ok n w) ∧ ∀ w', Same w w' → (Builtin.firstCells sz n xv).run P w' = .ok news.toArray w')
theorem zeroCells_eq (zs : List Value) (hz : 0 < zs.length) (n : Nat) : Builtin.zeroCells zs.toArray n = (List.replicate n zs).flatten.toArray := by
  unfold Builtin.zeroCells
  rw [← rep_range zs hz n]
  apply Array.ext'; simp
theorem elems_len {a : AV} {sz n : Nat} {cs : List AV} (hh : elemsA h sz a n = some cs) : cs.length = n * sz := by
  unfold elemsA at hh
  split at hh
  · cases hb : Nat.beq n 0 with
    | false => rw [hb] at hh; cases hh
    | true => rw [hb] at hh; cases hh; rw [Nat.eq_of_beq_eq_true hb]; simp
  · rename_i s off len cap
    cases hb : Nat.ble n len with
    | false => rw [hb] at hh; cases hh
    | true =>
      rw [hb] at hh
      simp only [cond_true] at hh
      split at hh
      · exact (cut_sound hh).2
      · cases hh
  · rename_i nn xs cap
    cases hb : Nat.ble n xs.length with
    | false => rw [hb] at hh; cases hh
    | true =>
      rw [hb] at hh
      simp only [cond_true] at hh
      cases hq : Nat.beq (xs.take n).flatten.length (n * sz) with
      | false => rw [hq] at hh; cases hh
      | true => rw [hq] at hh; cases hh; exact Nat.eq_of_beq_eq_true hq
  · rename_i s
    cases hb : (Nat.ble n s.length && Nat.beq sz 1) with
    | false => rw [hb] at hh; cases hh
    | true =>
      rw [hb] at hh; cases hh
      simp only [Bool.and_eq_true] at hb
      have h1 := Nat.le_of_ble_eq_true hb.1
      have h2 := Nat.eq_of_beq_eq_true hb.2
      subst h2
      simp; omega
  · cases hh
theorem src_sound (TO : TabOK P T) (H : HR w0 ρ h w) {u et : TypeId} {i : TyI} {x : AV} {xv : Value} {n : Nat} {vs : List AV} {zs : List Value} (hok : TyOK P et i) (hti : TI P et i.agg zs i.bytes) (hz : ∀ σ ρ, VRs σ i.z ρ zs) (Hx : VR (PAll w0) x ρ xv) (hs : srcA T h i u x = some (n, vs)) :
    ∃ news, SrcR P u et i.z.length n zs w xv news ∧ VRs (PAll w0) vs ρ news := by
  unfold srcA at hs
  have hel : ∀ (d : TypeDesc), P.underlying u = some d → (∀ k, d ≠ .int k) → (match lenA h x with
      | some n => (match elemsA h i.z.length x n with
        | some vs => some (n, vs)
        | none => none)
      | none => none) = some (n, vs) → ∃ news, SrcR P u et i.z.length n zs w xv news ∧ VRs (PAll w0) vs ρ news := by
    intro d hd hne hs
    split at hs
    · rename_i m hm
      split at hs
      · rename_i vs' hvs
        cases hs
        obtain ⟨news, h1, h2, h3⟩ := elems_sound (P := P) H Hx hvs hok.pos
        refine ⟨news, ⟨h1.length.trans (elems_len hvs), h2, .inr ⟨d, hd, hne, fun w => ?_, h3⟩⟩, h1⟩
        cases x <;> simp only [lenA] at hm <;> simp only [elemsA] at hvs <;> first | (cases hm; done) | (cases hvs; done) | skip
        all_goals simp only [VR] at Hx
        · cases hm; subst Hx
          rename_i s
          have hsz : (ByteArray.mk s.toArray).size = s.length := by show s.toArray.size = _; simp
          simp [Builtin.lenOf, hsz]
        · cases hm; subst Hx; simp [Builtin.lenOf]
        · cases hm; obtain ⟨q, c, _, rfl, _⟩ := Hx; simp [Builtin.lenOf]
        · cases hm; obtain ⟨q, c, _, _, rfl, _⟩ := Hx; simp [Builtin.lenOf]
      · cases hs
    · cases hs
  split at hs
  · rename_i j hj
    have ok := (TO.ty _ _ hj).sh
    split at hs
    · rename_i k hsh
      rw [hsh] at ok
      split at hs
      · rename_i m
        cases hs
        refine ⟨(List.replicate n zs).flatten, ⟨?_, ?_, .inl ⟨k, ok, VR_int Hx, rfl⟩⟩, VRs.rep (hz _ _) n⟩
        · have := (VRs.rep (hz (PAll w0) ρ) n).length
          rw [this, repA_length]
        · intro v hv
          obtain ⟨l, hl, hv⟩ := List.mem_flatten.1 hv
          rw [List.mem_replicate] at hl
          rw [hl.2] at hv
          exact hti.cells v hv
      · cases hs
    · rename_i el hsh
      rw [hsh] at ok
      exact hel _ ok (by intro k hk; cases hk) hs
    · rename_i hsh
      rw [hsh] at ok
      exact hel _ ok (by intro k hk; cases hk) hs
    · cases hs
  · cases hs
section run
variable {t u et : TypeId} {i : TyI} {zs : List Value} {n len cap : Nat} {news : List Value} {xv : Value} {ty : TypeId}
/-- One way or the other. -/
noncomputable def appRest (et sz bytes len n cap : Nat) (zs : List Value) (base : Option Addr) (app : Sem (Array Value)) : Sem Value :=
  if len + n ≤ cap then do
    let new ← app
    if let some a := base then storeCells (a.add (len * sz)) new.toList
    pure (.slice base (len + n) cap)
  else do
    let newCap ← choose (.appendCap (len + n) cap et)
    askRoom (newCap * bytes)
    let old ← Builtin.firstCells sz len (.slice base len cap)
    let new ← app
    pure (.slice (some (← newRow et (old ++ new ++ Builtin.zeroCells zs.toArray (newCap - (len + n))))) (len + n) newCap)
/-- Up to the choice between the two ways. -/
theorem append_head (hu : P.underlying t = some (.slice et)) (hti : TI P et i.agg zs i.bytes) (hzl : zs.length = i.z.length) (hpos : 0 < i.z.length) (S : SrcR P u et i.z.length n zs w xv news) (base : Option Addr) (hlc : len ≤ cap) (hroom : (len + n) * i.bytes ≤ 140737488355328) (hby : 0 < i.bytes) :
    ∃ app : Sem (Array Value), (∀ w', Same w w' → app.run P w' = .ok news.toArray w') ∧
      (Builtin.append_ #[t, u] ty #[.slice base len cap, xv]).run P w = (appRest et i.z.length i.bytes len n cap zs base app).run P w := by
  obtain ⟨inf, hinf, hs1, hs2, hs3⟩ := hti.info
  have hn : len + n ≤ 140737488355328 := Nat.le_trans (Nat.le_mul_of_pos_right _ hby) hroom
  have c1 : ¬ (((len + n : Nat) : Int) > IntKind.i64.max) := by
    have : IntKind.i64.max = 9223372036854775807 := rfl
    rw [this]; omega
  have hT : ∀ w, (typeInfo et).run P w = .ok inf w := fun w => by simp [typeInfo, hinf]
  have hZ : ∀ w, (zeroValue et).run P w = .ok (valOf i.agg zs) w := fun w => hti.zero
  have hcl : (valOf i.agg zs).cells = zs.toArray := cells_valOf hti.one hti.cells
  have hfit : ¬ len + n ≤ cap → ¬ (Builtin.nextslicecap (len + n) cap * i.bytes > 2 ^ 48) := fun hc => by
    have := growslice_fits (need := len + n) (old := cap) (bytes := i.bytes) (by omega) hroom
    omega
  rcases S.kind with ⟨k, hk, rfl, hnews⟩ | ⟨d, hd, hne, hlen, hfc⟩
  · have w1 : IntKind.i64.wrap (n : Int) = n := i64w (by omega) (by omega)
    have hA : ∀ w, (asInt (.int .i64 (n : Int))).run P w = .ok (n : Int) w := fun w => by simp [asInt, asIntOf]
    have c2 : ¬ ((n : Int) < 0) := by omega
    have c3 : ¬ ((n : Int) * (i.bytes : Int) > 2 ^ 48) := by
      have h1 : n * i.bytes ≤ (len + n) * i.bytes := Nat.mul_le_mul_right _ (by omega)
      have h2 : ((n : Int) * (i.bytes : Int)) = ((n * i.bytes : Nat) : Int) := by simp
      rw [h2]; omega
    by_cases hn0 : n * i.z.length = 0
    · refine ⟨pure #[], fun w' _ => ?_, ?_⟩
      · rw [hnews]
        have : n = 0 := by
          rcases Nat.mul_eq_zero.1 hn0 with h | h
          · exact h
          · omega
        subst this; simp
      · unfold Builtin.append_ appRest
        simp only [List.getElem?_toArray, List.getElem?_cons_zero, List.getElem?_cons_succ, Sem.run_bind, run_underlying hu, Result.andThen_ok, hti.size, hzl, run_underlying hk, Sem.run_pure, if_true, hA, w1, if_neg c2, if_neg c3, hT, hs3, Int.toNat_natCast, Bool.not_true, Bool.false_eq_true, if_false, hn0]
        by_cases hc : len + n ≤ cap
        · simp only [hc, if_true]
          cases base <;> rfl
        · simp only [hc, if_false, Sem.run_bind, hT, hs3, Result.andThen_ok, c1, false_and, if_neg (hfit hc), hZ, hcl]
    · refine ⟨pure (Builtin.zeroCells zs.toArray n), fun w' _ => ?_, ?_⟩
      · rw [hnews, zeroCells_eq zs (by omega)]; simp
      · unfold Builtin.append_ appRest
        simp only [List.getElem?_toArray, List.getElem?_cons_zero, List.getElem?_cons_succ, Sem.run_bind, run_underlying hu, Result.andThen_ok, hti.size, hzl, run_underlying hk, Sem.run_pure, if_true, hA, w1, if_neg c2, if_neg c3, hT, hs3, Int.toNat_natCast, Bool.not_true, Bool.false_eq_true, if_false, hn0]
        by_cases hc : len + n ≤ cap
        · simp only [hc, if_true, Sem.run_bind, hZ, hcl, Result.andThen_ok, Sem.run_pure]
          cases base <;> rfl
        · simp only [hc, if_false, Sem.run_bind, hT, hs3, Result.andThen_ok, c1, false_and, if_neg (hfit hc), hZ, hcl, Sem.run_pure]
  · refine ⟨Builtin.firstCells i.z.length n xv, hfc, ?_⟩
    unfold Builtin.append_ appRest
    simp only [List.getElem?_toArray, List.getElem?_cons_zero, List.getElem?_cons_succ, Sem.run_bind, run_underlying hu, Result.andThen_ok, hti.size, hzl, run_underlying hd, Sem.run_pure, Bool.false_eq_true, if_false, hlen, Bool.not_false, if_true]
    by_cases hc : len + n ≤ cap
    · simp only [hc, if_true]
      cases base <;> rfl
    · simp only [hc, if_false, Sem.run_bind, hT, hs3, Result.andThen_ok, c1, false_and, if_neg (hfit hc), hZ, hcl]
variable {sz bytes : Nat} {base : Option Addr} {app : Sem (Array Value)}
theorem run_app_nop (happ : ∀ w', Same w w' → app.run P w' = .ok news.toArray w') (hn : news = []) (hc : len + n ≤ cap) : (appRest et sz bytes len n cap zs base app).run P w = .ok (.slice base (len + n) cap) w := by
  subst hn
  have := happ w (fun _ _ => rfl)
  unfold appRest
  rw [if_pos hc, Sem.run_bind, this, Result.andThen_ok]
  cases base <;> simp [storeCells]
theorem run_app_in {b off : Nat} {c : Array Value} {ty' : TypeId} (happ : ∀ w', Same w w' → app.run P w' = .ok news.toArray w') (h1 : ∀ v ∈ news, v.oneCell' = true) (hc : len + n ≤ cap) (hb : w.heap[b]? = some (.cells c ty' (0, 0))) (hl : off + len * sz + news.length ≤ c.size) :
    (appRest et sz bytes len n cap zs (some ⟨b, off, none⟩) app).run P w = .ok (.slice (some ⟨b, off, none⟩) (len + n) cap) (w.putObj b (.cells (c.toList.take (off + len * sz) ++ news ++ c.toList.drop (off + len * sz + news.length)).toArray ty' (0, 0))) := by
  have := happ w (fun _ _ => rfl)
  unfold appRest
  rw [if_pos hc, Sem.run_bind, this, Result.andThen_ok]
  have hs := run_storeCells (P := P) news w b (off + len * sz) 0 c ty' h1 hb (by omega)
  simp only [Nat.add_zero] at hs
  simp only [addr_add ⟨b, off, none⟩ rfl, Sem.run_bind, List.toList_toArray, hs, Result.andThen_ok, Sem.run_pure]
theorem run_app_grow {olds : List Value} (happ : ∀ w', Same w w' → app.run P w' = .ok news.toArray w') (hold : ∀ w', Same w w' → (Builtin.firstCells sz len (.slice base len cap)).run P w' = .ok olds.toArray w') (hc : ¬ len + n ≤ cap) (hz : 0 < zs.length) (hzs : zs.length = sz) (h63 : len + n ≤ maxLen) (hzo : ∀ v ∈ zs, v.oneCell' = true) :
    ∃ nc junk, len + n ≤ nc ∧ nc ≤ maxLen ∧ junk.length = (nc - (len + n)) * sz ∧ (∀ v ∈ junk, v.oneCell' = true) ∧
      (appRest et sz bytes len n cap zs base app).run P w = .ok (.slice (some ⟨w.heap.size, 0, none⟩) (len + n) nc) (w.drew.alloc (.cells (olds ++ news ++ junk).toArray et)) := by
  refine ⟨grownCap w (len + n) cap et, (List.replicate (grownCap w (len + n) cap et - (len + n)) zs).flatten, grownCap_ge w (len + n) cap et, grownCap_le_maxLen w (len + n) cap et h63, ?_, ?_, ?_⟩
  · simp [hzs]
  · intro v hv
    obtain ⟨l, hl, hv⟩ := List.mem_flatten.1 hv
    rw [List.mem_replicate] at hl
    rw [hl.2] at hv
    exact hzo v hv
  · have hs : Same w w.drew := fun _ _ => rfl
    have hch : (choose (.appendCap (len + n) cap et)).run P w = .ok (grownCap w (len + n) cap et) w.drew := by
      simp [choose, Sem.run, Question.forced, grownCap]
    unfold appRest
    rw [if_neg hc]
    simp only [Sem.run_bind, hch, Result.andThen_ok, run_askRoom, hold _ hs, happ _ hs, zeroCells_eq zs hz, newRow, run_newObj, World.alloc_eq, Sem.run_pure]
    simp
end run
/-- A new row. -/
theorem grow_good (H : HR w0 ρ h w) {et : TypeId} {olds news junk : List Value} {old vs : List AV} {sz m nc : Nat} (ho : VRs (PAll w0) old ρ olds) (hn : VRs (PAll w0) vs ρ news) (h1 : ∀ v ∈ olds, v.oneCell' = true) (h2 : ∀ v ∈ news, v.oneCell' = true) (hlen : (olds ++ news).length = m * sz) (hj : junk.length = (nc - m) * sz) (hm : m ≤ nc) (hmax : nc ≤ maxLen) (hsz : 0 < sz)
    (hK : K (.osl h.next 0 m (.un sz)) (h.add (.row (old ++ vs) et)) = true) : Good w0 ρ h K (.slice (some ⟨w.heap.size, 0, none⟩) m nc) (w.drew.alloc (.cells (olds ++ news ++ junk).toArray et)) := by
  have hN : (olds ++ news ++ junk).length = nc * sz := by
    rw [List.length_append, hlen, hj, ← Nat.add_mul]; congr 1; omega
  obtain ⟨hHR, hKp⟩ := H.drew.add (N := nc * sz) (r := .cells (olds ++ news ++ junk).toArray et) (o := .row (old ++ vs) et) ⟨olds ++ news, junk, rfl, (ho.append hn).mono (radd_le H.fresh), fun v hv => by rcases List.mem_append.1 hv with hv | hv; exact h1 v hv; exact h2 v hv, hN⟩
  refine ⟨_, _, _, hKp, ?_, hHR, hK⟩
  simp only [VR]
  exact ⟨(w.heap.size, nc * sz), nc, if_pos rfl, rfl, hm, hmax, by show 0 + nc * sz = nc * sz; omega, hsz⟩
theorem append_sound (H : HR w0 ρ h w) {et t : TypeId} {u : TypeId} {i : TyI} {zs : List Value} {n : Nat} {v : AV} {vv xv : Value} {vs : List AV} {news : List Value} {ty : TypeId} (hok : TyOK P et i) (hti : TI P et i.agg zs i.bytes) (hz : ∀ σ ρ, VRs σ i.z ρ zs) (hu : P.underlying t = some (.slice et))
    (S : SrcR P u et i.z.length n zs w xv news) (hn : VRs (PAll w0) vs ρ news) (Hv : VR (PAll w0) v ρ vv) (hroom : roomA h v n i.bytes = true) (hq : appendA i.z.length et h v vs n K = true) :
    ∃ r w', (Builtin.append_ #[t, u] ty #[vv, xv]).run P w = .ok r w' ∧ Good w0 ρ h K r w' := by
  have hpos := hok.pos
  have hzl := (hz (PAll w0) ρ).length
  have room : ∀ len, lenA h v = some len → (len + n) * i.bytes ≤ 140737488355328 ∧ 0 < i.bytes := by
    intro len hl
    unfold roomA at hroom
    rw [hl] at hroom
    simp only [Bool.and_eq_true] at hroom
    exact ⟨Nat.le_of_ble_eq_true hroom.1, by simpa using hroom.2⟩
  have hnlen : vs.length = n * i.z.length := by rw [← hn.length]; exact S.len
  have n0 : n = 0 → news = [] := fun h0 => List.eq_nil_of_length_eq_zero (by rw [S.len, h0]; simp)
  unfold appendA at hq
  split at hq
  · -- nil
    simp only [VR] at Hv
    subst Hv
    obtain ⟨hr1, hr2⟩ := room 0 rfl
    obtain ⟨app, happ, hrun⟩ := append_head (ty := ty) (len := 0) (cap := 0) hu hti hzl hpos S none (Nat.le_refl _) hr1 hr2
    cases hb : Nat.beq n 0 with
    | true =>
      rw [hb] at hq
      have h0 := Nat.eq_of_beq_eq_true hb
      subst h0
      exact ⟨_, _, hrun.trans (run_app_nop happ (n0 rfl) (Nat.le_refl _)), ρ, .nsl, _, Keep.refl _ _, by simp only [VR], H, hq⟩
    | false =>
      rw [hb] at hq
      have h0 : n ≠ 0 := fun h => by subst h; cases hb
      have hn63 : 0 + n ≤ maxLen := by
        have := Nat.le_mul_of_pos_right (0 + n) hr2
        simp only [maxLen]; omega
      obtain ⟨nc, junk, g1, g2, g3, g4, g5⟩ := run_app_grow (base := none) (cap := 0) (len := 0) (olds := []) (bytes := i.bytes) happ (fun w' _ => by simp [Builtin.firstCells]) (by omega) (by omega) hzl hn63 hti.cells
      have := grow_good (K := K) H (et := et) (old := []) (olds := []) VRs.nil hn (by simp) S.ones (m := 0 + n) (by simpa using S.len) g3 g1 g2 hpos (by simpa using hq)
      exact ⟨_, _, hrun.trans g5, this⟩
  · -- own
    rename_i s off len cap
    have Hv0 := Hv
    simp only [VR] at Hv
    obtain ⟨x, c, hx, rfl, hlc, hcm, hcap⟩ := Hv
    obtain ⟨hr1, hr2⟩ := room len rfl
    obtain ⟨app, happ, hrun⟩ := append_head (ty := ty) (len := len) (cap := c) hu hti hzl hpos S (some ⟨x.1, off, none⟩) hlc hr1 hr2
    have hn63 : len + n ≤ maxLen := by
      have := Nat.le_mul_of_pos_right (len + n) hr2
      simp only [maxLen]; omega
    cases hb : Nat.beq n 0 with
    | true =>
      rw [hb] at hq
      have h0 := Nat.eq_of_beq_eq_true hb
      subst h0
      exact ⟨_, _, hrun.trans (run_app_nop happ (n0 rfl) hlc), ρ, .osl s off len cap, _, Keep.refl _ _, Hv0, H, hq⟩
    | false =>
      rw [hb] at hq
      simp only [cond_false] at hq
      split at hq
      · rename_i cs t' hg
        have inplace : ∀ (cap' : Cp), CapR cap' c off x.2 → len + n ≤ c → off + (len + n) * i.z.length ≤ cs.length → h.put s (.row (over cs (off + len * i.z.length) vs) t') (K (.osl s off (len + n) cap')) = true →
            ∃ r w', (Builtin.append_ #[t, u] ty #[.slice (some ⟨x.1, off, none⟩) len c, xv]).run P w = .ok r w' ∧ Good w0 ρ h K r w' := by
          intro cap' hcap' hc hle hput
          obtain ⟨hl, hK⟩ := put_true hput
          have e1 : off + len * i.z.length + vs.length = off + (len + n) * i.z.length := by rw [hnlen, Nat.add_mul]; omega
          obtain ⟨ca, hbk, hsz, hHR, hKp⟩ := row_over H hx hg hn S.ones (off := off + len * i.z.length) (by rw [e1]; exact hle) hl
          refine ⟨_, _, hrun.trans (run_app_in happ S.ones hc hbk (by rw [hn.length] at hsz; rw [hn.length]; exact hsz)), ρ, _, _, hKp, ?_, hHR, hK⟩
          simp only [VR]
          exact ⟨x, c, hx, rfl, hc, hcm, hcap'⟩
        have olds : ∀ {old : List AV}, cut cs off (len * i.z.length) = some old → ∃ ol, VRs (PAll w0) old ρ ol ∧ (∀ v ∈ ol, v.oneCell' = true) ∧ ol.length = len * i.z.length ∧ ∀ w', Same w w' → (Builtin.firstCells i.z.length len (.slice (some ⟨x.1, off, none⟩) len c)).run P w' = .ok ol.toArray w' := by
          intro old hcut
          have hel : elemsA h i.z.length (.osl s off len cap) len = some old := by
            unfold elemsA
            have : Nat.ble len len = true := by simp
            simp only [this, cond_true, hg, hcut]
          obtain ⟨ol, g1, g2, g3⟩ := elems_sound (P := P) H Hv0 hel hpos
          exact ⟨ol, g1, g2, g1.length.trans (elems_len hel), g3⟩
        split at hq
        · -- known capacity
          rename_i k
          have : c = k := hcap
          subst this
          cases hc : Nat.ble (len + n) c with
          | true =>
            rw [hc] at hq
            cases hfit : Nat.ble (off + (len + n) * i.z.length) cs.length with
            | false => rw [hfit] at hq; cases hq
            | true =>
              rw [hfit] at hq
              exact inplace (.is c) rfl (Nat.le_of_ble_eq_true hc) (Nat.le_of_ble_eq_true hfit) hq
          | false =>
            rw [hc] at hq
            simp only [cond_false] at hq
            split at hq
            · rename_i old hcut
              obtain ⟨ol, o1, o2, o3, o4⟩ := olds hcut
              have hnc : ¬ len + n ≤ c := fun hh => by rw [← Nat.ble_eq] at hh; rw [hh] at hc; cases hc
              obtain ⟨nc, junk, g1, g2, g3, g4, g5⟩ := run_app_grow (bytes := i.bytes) happ o4 hnc (by omega) hzl hn63 hti.cells
              exact ⟨_, _, hrun.trans g5, grow_good H o1 hn o2 S.ones (by rw [List.length_append, o3, S.len, ← Nat.add_mul]) g3 g1 g2 hpos hq⟩
            · cases hq
        · rename_i k
          obtain ⟨hcN, hk0⟩ : off + c * k = x.2 ∧ 0 < k := hcap
          cases hk : Nat.beq k i.z.length with
          | false => rw [hk] at hq; cases hq
          | true =>
            rw [hk] at hq
            have := Nat.eq_of_beq_eq_true hk
            subst this
            simp only [cond_true] at hq
            obtain ⟨vs0, junk0, hbk0, hv0, ho0, hlen0⟩ := H.row hx hg
            cases hfit : Nat.ble (off + (len + n) * i.z.length) cs.length with
            | true =>
              rw [hfit] at hq
              have hfit := Nat.le_of_ble_eq_true hfit
              have hc : len + n ≤ c := by
                have h5 : cs.length ≤ x.2 := by rw [← hlen0, ← hv0.length]; simp
                have h6 : (len + n) * i.z.length ≤ c * i.z.length := by omega
                exact Nat.le_of_mul_le_mul_right h6 hpos
              exact inplace (.un i.z.length) ⟨hcN, hk0⟩ hc hfit hq
            | false =>
              rw [hfit] at hq
              simp only [cond_false] at hq
              cases hot : (Nat.beq off 0 && Nat.beq t' et) with
              | false => rw [hot] at hq; cases hq
              | true =>
                rw [hot] at hq
                simp only [Bool.and_eq_true] at hot
                have hoff := Nat.eq_of_beq_eq_true hot.1
                have htt := Nat.eq_of_beq_eq_true hot.2
                subst hoff htt
                simp only [cond_true] at hq
                split at hq
                · rename_i old hcut
                  obtain ⟨ol, o1, o2, o3, o4⟩ := olds hcut
                  obtain ⟨hl, hK⟩ := put_true hq
                  obtain ⟨hold, hol⟩ := cut_sound hcut
                  by_cases hc : len + n ≤ c
                  · -- in place
                    have hsz : (vs0 ++ junk0).toArray.size = x.2 := by simpa using hlen0
                    have hle : 0 + len * i.z.length + news.length ≤ (vs0 ++ junk0).toArray.size := by
                      rw [hsz, ← hcN, S.len]
                      have : (len + n) * i.z.length ≤ c * i.z.length := Nat.mul_le_mul_right _ hc
                      rw [Nat.add_mul] at this
                      omega
                    have hr := hrun.trans (run_app_in happ S.ones hc hbk0 hle)
                    have hvs0 : ol = vs0.take (len * i.z.length) := by
                      have h7 : VRs (PAll w0) old ρ (vs0.take (len * i.z.length)) := by
                        rw [hold]; simpa using hv0.take (len * i.z.length)
                      -- both are what the first cells read
                      have h8 := o4 w (fun _ _ => rfl)
                      have h9 : RowAt (PAll w) ⟨x.1, 0, none⟩ (vs0.take (len * i.z.length)) := by
                        refine ⟨rfl, _, _, _, hbk0, ?_⟩
                        have h10 : (vs0.take (len * i.z.length)).length = len * i.z.length := by rw [h7.length, hol]
                        rw [h10]
                        simp only [List.toList_toArray, List.drop_zero]
                        rw [List.take_append_of_le_length]
                        simp only [List.length_take] at h10
                        omega
                      have h11 := run_firstCells_some (P := P) w i.z.length len ⟨x.1, 0, none⟩ len c (vs0.take (len * i.z.length)) (by rw [h7.length, hol]) (fun j u hj => by
                        rw [addr_add _ rfl]
                        exact h9.cell (PAll.on w) j u hj)
                      rw [h8] at h11
                      simpa using h11
                    obtain ⟨hHR, hKp⟩ := H.move (o := .row (old ++ vs) t') hx hg rfl (r := .cells ((vs0 ++ junk0).toArray.toList.take (0 + len * i.z.length) ++ news ++ (vs0 ++ junk0).toArray.toList.drop (0 + len * i.z.length + news.length)).toArray t' (0, 0))
                      ⟨ol ++ news, (vs0 ++ junk0).drop (len * i.z.length + news.length), by
                        congr 2
                        simp only [List.toList_toArray, Nat.zero_add]
                        congr 2
                        rw [hvs0, List.take_append_of_le_length]
                        have : (vs0.take (len * i.z.length)).length = len * i.z.length := by rw [← hvs0, o3]
                        simp only [List.length_take] at this
                        omega, (o1.append hn).mono (radd_le H.fresh), fun v hv => by rcases List.mem_append.1 hv with hv | hv; exact o2 v hv; exact S.ones v hv, by
                        simp only [List.length_append, List.length_drop, o3, S.len] at hle ⊢
                        simp only [List.size_toArray, List.length_append] at hsz hle
                        omega⟩ hl
                    refine ⟨_, _, hr, _, .osl h.next 0 (len + n) (.un i.z.length), _, hKp, ?_, hHR, hK⟩
                    simp only [VR]
                    exact ⟨x, c, if_pos rfl, rfl, hc, hcm, hcN, hpos⟩
                  · obtain ⟨nc, junk, g1, g2, g3, g4, g5⟩ := run_app_grow (bytes := i.bytes) happ o4 hc (by omega) hzl hn63 hti.cells
                    obtain ⟨hHR, hKp⟩ := H.kill hx hl
                    obtain ⟨ρ', a', h', k1, k2, k3, k4⟩ := grow_good (K := K) hHR o1 hn o2 S.ones (by rw [List.length_append, o3, S.len, ← Nat.add_mul]) g3 g1 g2 hpos hK
                    exact ⟨_, _, hrun.trans g5, ρ', a', h', hKp.trans k1, k2, k3, k4⟩
                · cases hq
      · cases hq
  · -- read alone
    rename_i nn xs c
    have Hv0 := Hv
    simp only [VR] at Hv
    obtain ⟨ad, c', vss, z, rfl, g1, g2, g3, g4, g5, g6, g7, g8⟩ := Hv
    have : c' = c := g3 _ rfl
    subst this
    obtain ⟨hr1, hr2⟩ := room xs.length rfl
    obtain ⟨app, happ, hrun⟩ := append_head (ty := ty) (len := xs.length) (cap := c') hu hti hzl hpos S ad g1 hr1 hr2
    have hn63 : xs.length + n ≤ maxLen := by
      have := Nat.le_mul_of_pos_right (xs.length + n) hr2
      simp only [maxLen]; omega
    cases hc : Nat.ble (xs.length + n) c' with
    | true =>
      rw [hc] at hq
      simp only [cond_true] at hq
      cases hb : Nat.beq n 0 with
      | false => rw [hb] at hq; cases hq
      | true =>
        rw [hb] at hq
        have h0 := Nat.eq_of_beq_eq_true hb
        subst h0
        exact ⟨_, _, hrun.trans (run_app_nop happ (n0 rfl) g1), ρ, _, _, Keep.refl _ _, Hv0, H, hq⟩
    | false =>
      rw [hc] at hq
      simp only [cond_false] at hq
      split at hq
      · rename_i old hel
        obtain ⟨ol, o1, o2, o4⟩ := elems_sound (P := P) H Hv0 hel hpos
        have o3 := o1.length.trans (elems_len hel)
        have hnc : ¬ xs.length + n ≤ c' := fun hh => by rw [← Nat.ble_eq] at hh; rw [hh] at hc; cases hc
        obtain ⟨nc, junk, g1, g2, g3, g4, g5⟩ := run_app_grow (bytes := i.bytes) happ o4 hnc (by omega) hzl hn63 hti.cells
        exact ⟨_, _, hrun.trans g5, grow_good H o1 hn o2 S.ones (by rw [List.length_append, o3, S.len, ← Nat.add_mul]) g3 g1 g2 hpos hq⟩
      · cases hq
  · cases hq
end ops
end Go.Proofs.YtjpkccofeafkbaaGreat.Pvx
