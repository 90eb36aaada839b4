/- What the table tells is so; operations that leave the memory as it is. Over any program. -/
import Derived.Test.YtjpkccofeafkbaaGreatPvxW
import Derived.Laws.Append
import Derived.Laws.CopyRow
set_option linter.unusedSimpArgs false
namespace Go.Proofs.YtjpkccofeafkbaaGreat.Pvx
open Go.RowKit
set_option linter.unusedVariables false

/-! ### The table -/
def scalar (P : Program) (t : TypeId) : Bool → Prop
  | true => P.underlying t = some .bool
  | false => ∃ k, P.underlying t = some (.int k)
structure StructOK (P : Program) (t : TypeId) (fs : List (Nat × Nat)) (ft : List Nat) (flat : List Bool) (fields : Array Field) : Prop where
  under : P.underlying t = some (.struct fields)
  build : BI P t fs
  size : fields.size = fs.length
  field : ∀ (j off n : Nat), fs[j]? = some (off, n) → ∃ fld agg z by_, fields[j]? = some fld ∧ fld.offset = off ∧ ft[j]? = some fld.type ∧ TI P fld.type agg z by_ ∧ z.length = n ∧ 0 < n
  flat : flat ≠ [] → P.eqGuardType P.depth t = false ∧ P.stoodInHeld t = false ∧ flat.length = fields.size ∧ ∀ (j : Nat) (fld : Field) (k : Bool), fields[j]? = some fld → flat[j]? = some k → fld.name ≠ "_" ∧ fld.offset = j ∧ scalar P fld.type k
def ShOK (P : Program) (t : TypeId) : Sh → Prop
  | .bool => P.underlying t = some .bool
  | .int k => P.underlying t = some (.int k)
  | .str => P.underlying t = some .string
  | .ptr => ∃ e, P.underlying t = some (.pointer e)
  | .sl e => P.underlying t = some (.slice e)
  | .map k e => P.underlying t = some (.map k e)
  | .struct fs ft flat => ∃ fields, StructOK P t fs ft flat fields
  | .func => ∃ a b c, P.underlying t = some (.func a b c)
  | .iface => ∃ m, P.underlying t = some (.interface m)
  | .other => True
structure TyOK (P : Program) (t : TypeId) (i : TyI) : Prop where
  ti : ∃ zs, TI P t i.agg zs i.bytes ∧ (∀ σ ρ, VRs σ i.z ρ zs)
  pos : 0 < i.z.length
  sh : ShOK P t i.sh
structure TabOK (P : Program) (T : Tab) : Prop where
  mixed : P.follows .mixedOrders = true
  fn : ∀ k f, T.fn k = some f → P.funcs[k]? = some f ∧ Enters P k ∧ (∀ c, f.body = some c → codeOK f.ntmps c = true) ∧ okRes f.ntmps f.results.toList = true
  ty : ∀ t i, T.ty t = some i → TyOK P t i
  yes : ∀ k, assoc T.exts k = some 2 → Enters P k ∧ ∀ w, Fn P k [] w fun v w' => v = .bool true ∧ Below w.heap.size w w'
  ext : ∀ k, assoc T.exts k = some 0 → ∀ (args : Array Value) (w : World), (callFunc k args).run P w = ((do pure (.value (← Extern.MapsClone.clone args))) : Sem Next).run P w

section ops
variable {P : Program} {T : Tab} {w0 : World} {ρ : Rho} {e : AEnv} {e' : Env} {h : Hp} {w : World}
theorem ev1_sound (He : EnvR (PAll w0) ρ e e') {x : Operand} {a : AV} (h : ev1 e x = some a) : VR (PAll w0) a ρ (evalE e' x) := by
  cases x with
  | tmp t => exact He t a h
  | func f => simp only [ev1, Option.some.injEq] at h; subst h; simp only [VR, evalE]; exact ⟨[], rfl, VRs.nil⟩
  | global g => simp [ev1] at h
  | const v =>
    simp only [ev1] at h
    unfold constA at h
    split at h <;> first | (simp only [Option.some.injEq] at h; subst h; simp [VR, evalE]; done) | (cases h; done) | (rename_i hh; cases hh; done) | (rename_i hh; injection hh with hh; subst hh; simp only [Option.some.injEq] at h; subst h; simp [VR, evalE]; done) | skip
theorem evs_sound (He : EnvR (PAll w0) ρ e e') : ∀ {l : List Operand} {vs : List AV}, evs e l = some vs → VRs (PAll w0) vs ρ (l.map (evalE e'))
  | [], vs, h => by simp only [evs, Option.some.injEq] at h; subst h; exact VRs.nil
  | x :: l, vs, h => by
    unfold evs at h
    cases h1 : ev1 e x with
    | none => simp [h1] at h
    | some v =>
      cases h2 : evs e l with
      | none => simp [h1, h2] at h
      | some r => simp only [h1, h2, Option.some.injEq] at h; subst h; exact VRs.cons (ev1_sound He h1) (evs_sound He h2)
/-- Parts, by their places. -/
def PRs (σ : PHeap) (ρ : Rho) : List (Nat × AV) → List (Nat × Value) → Prop
  | [], vs => vs = []
  | (i, a) :: l, vs => ∃ v ws, vs = (i, v) :: ws ∧ VR σ a ρ v ∧ PRs σ ρ l ws
theorem evps_sound (He : EnvR (PAll w0) ρ e e') : ∀ {l : List (Nat × Operand)} {vs : List (Nat × AV)}, evps e l = some vs → PRs (PAll w0) ρ vs (l.map fun (i, x) => (i, evalE e' x))
  | [], vs, h => by simp only [evps, Option.some.injEq] at h; subst h; rfl
  | (i, x) :: l, vs, h => by
    unfold evps at h
    cases h1 : ev1 e x with
    | none => simp [h1] at h
    | some v =>
      cases h2 : evps e l with
      | none => simp [h1, h2] at h
      | some r => simp only [h1, h2, Option.some.injEq] at h; subst h; exact ⟨_, _, rfl, ev1_sound He h1, evps_sound He h2⟩
theorem over_R {σ : PHeap} {cs vs : List AV} {xs ys : List Value} (off : Nat) (h : VRs σ cs ρ xs) (k : VRs σ vs ρ ys) : VRs σ (over cs off vs) ρ (xs.take off ++ ys ++ xs.drop (off + ys.length)) := by
  unfold over
  rw [k.length]
  exact ((h.take off).append k).append (h.drop _)
theorem ones_over {xs ys : List Value} (off : Nat) (h : ∀ u ∈ xs, u.oneCell' = true) (k : ∀ u ∈ ys, u.oneCell' = true) : ∀ u ∈ xs.take off ++ ys ++ xs.drop (off + ys.length), u.oneCell' = true := by
  intro u hu
  simp only [List.mem_append] at hu
  rcases hu with (hu | hu) | hu
  · exact h u (List.mem_of_mem_take hu)
  · exact k u hu
  · exact h u (List.mem_of_mem_drop hu)
theorem fillA_sound {σ : PHeap} {place : Nat → Option (Nat × Nat)} (hp : ∀ i off n, place i = some (off, n) → 0 < n) : ∀ {vs : List (Nat × AV)} {us : List (Nat × Value)} {cs ds : List AV} {xs : List Value}, fillA place cs vs = some ds → PRs σ ρ vs us → VRs σ cs ρ xs → (∀ u ∈ xs, u.oneCell' = true) →
    ∃ ys, fillL place xs us = some ys ∧ VRs σ ds ρ ys ∧ ∀ u ∈ ys, u.oneCell' = true
  | [], us, cs, ds, xs, h, hu, hx, h1 => by
    simp only [fillA, Option.some.injEq] at h; subst h
    have : us = [] := hu
    subst this
    exact ⟨xs, rfl, hx, h1⟩
  | (i, v) :: rest, us, cs, ds, xs, h, hu, hx, h1 => by
    obtain ⟨u, ws, rfl, hv, hr⟩ := hu
    unfold fillA at h
    cases hpi : place i with
    | none => simp [hpi] at h
    | some os =>
      obtain ⟨off, size⟩ := os
      simp only [hpi] at h
      cases hc : (Nat.beq (cellsOf v).length size && Nat.ble (off + size) cs.length) with
      | false => simp [hc] at h
      | true =>
        simp only [hc, cond_true] at h
        simp only [Bool.and_eq_true] at hc
        have hn := Nat.eq_of_beq_eq_true hc.1
        obtain ⟨g1, g2, g3⟩ := hv.cells hn (hp _ _ _ hpi)
        have hl : u.cells.toList.length = size := by simpa using g3
        obtain ⟨ys, k1, k2, k3⟩ := fillA_sound hp h hr (over_R off hx g1) (ones_over off h1 g2)
        refine ⟨ys, ?_, k2, k3⟩
        unfold fillL
        simp only [hpi]
        have e1 : Nat.beq u.cells.toList.length size = true := by rw [hl]; exact Nat.beq_refl size
        have e2 : Nat.ble (off + size) xs.length = true := by rw [hx.length]; exact hc.2
        rw [e1, e2]
        simp only [Bool.and_self, cond_true]
        rw [hl] at k1
        exact k1
theorem cut_sound {cs r : List AV} {off n : Nat} (h : cut cs off n = some r) : r = (cs.drop off).take n ∧ r.length = n := by
  unfold cut at h
  simp only at h
  cases hb : Nat.beq ((cs.drop off).take n).length n with
  | false => simp only [hb, cond_false] at h; cases h
  | true => simp only [hb, cond_true, Option.some.injEq] at h; subst h; exact ⟨rfl, Nat.eq_of_beq_eq_true hb⟩
theorem HR.row (H : HR w0 ρ h w) {s : Nat} {x : Nat × Nat} {cs : List AV} {t : TypeId} (hs : ρ s = some x) (hg : h.get s = some (.row cs t)) :
    ∃ vs junk, w.heap[x.1]? = some (.cells (vs ++ junk).toArray t (0, 0)) ∧ VRs (PAll w0) cs ρ vs ∧ (∀ v ∈ vs, v.oneCell' = true) ∧ (vs ++ junk).length = x.2 := H.obj s x _ hs hg
/-- So many cells at an address. -/
theorem ld_sound (H : HR w0 ρ h w) {p : AV} {n : Nat} {cs : List AV} {v : Value} (hv : VR (PAll w0) p ρ v) (hl : ldA h p n = some cs) :
    ∃ a vs, v = .pointer (some a) ∧ RowAt (PAll w) a vs ∧ vs.length = n ∧ VRs (PAll w0) cs ρ vs ∧ ∀ u ∈ vs, u.oneCell' = true := by
  unfold ldA at hl
  split at hl
  · rename_i s off
    simp only [VR] at hv
    obtain ⟨x, hx, rfl⟩ := hv
    split at hl
    · rename_i cs' t hg
      obtain ⟨vs, junk, hb, hvs, h1, hlen⟩ := H.row hx hg
      obtain ⟨rfl, hn⟩ := cut_sound hl
      have hd := (hvs.drop off).take n
      refine ⟨_, (vs.drop off).take n, rfl, ⟨rfl, _, _, _, hb, ?_⟩, ?_, hd, fun u hu => h1 u (List.mem_of_mem_drop (List.mem_of_mem_take hu))⟩
      · have hle : (vs.drop off).length = (cs'.drop off).length := (hvs.drop off).length
        have hlen2 : ((vs.drop off).take n).length = n := by rw [hd.length]; exact hn
        rw [hlen2]
        have : off ≤ vs.length ∨ n = 0 := by
          by_cases h0 : off ≤ vs.length
          · exact .inl h0
          · right
            have : (vs.drop off) = [] := List.drop_eq_nil_of_le (by omega)
            rw [this] at hlen2; simpa using hlen2.symm
        rcases this with h0 | h0
        · simp only [List.drop_append_of_le_length h0]
          rw [List.take_append_of_le_length]
          have := hlen2
          simp only [List.length_take] at this
          omega
        · subst h0; simp
      · rw [hd.length]; exact hn
    · cases hl
  · rename_i cs'
    simp only [VR] at hv
    obtain ⟨a, vs, rfl, hr, hvs, h1⟩ := hv
    obtain ⟨rfl, hn⟩ := cut_sound hl
    simp only [List.drop_zero] at hn ⊢
    have hd : VRs (PAll w0) (cs'.take n) ρ (vs.take n) := (hvs.take n).mono fun s x hx => by cases hx
    have hlen : (vs.take n).length = n := by rw [hd.length]; exact hn
    refine ⟨a, vs.take n, rfl, ?_, hlen, hd, fun u hu => h1 u (List.mem_of_mem_take hu)⟩
    have h2 := (hr.mono (H.on.all)).part 0 n (by simp only [List.length_take] at hlen; omega)
    have h0 : a.add 0 = a := by rw [addr_add _ hr.1]; have := hr.1; cases a; simp_all
    simpa [h0] using h2
  · cases hl
/-- The bytes of some cells. -/
theorem bytes_sound {σ : PHeap} : ∀ {cs : List AV} {vs : List Value} {r : List UInt8}, bytesOfInts cs = some r → VRs σ cs ρ vs → ∃ ns : List Int, vs = ns.map (fun n => Value.int .u8 n) ∧ r = ns.map fun n => UInt8.ofNat n.toNat
  | [], vs, r, h, hv => by simp only [bytesOfInts, Option.some.injEq] at h; simp only [VRs] at hv; subst h hv; exact ⟨[], rfl, rfl⟩
  | a :: l, vs, r, h, hv => by
    simp only [VRs] at hv
    obtain ⟨v, ws, rfl, h2, h3⟩ := hv
    unfold bytesOfInts at h
    split at h
    · rename_i heq; cases heq
    · rename_i n l' heq
      cases heq
      cases hb : bytesOfInts l with
      | none => simp [hb] at h
      | some q =>
        simp only [hb, Option.some.injEq] at h
        subst h
        obtain ⟨ns, rfl, rfl⟩ := bytes_sound hb h3
        simp only [VR] at h2
        subst h2
        exact ⟨n :: ns, rfl, rfl⟩
    · cases h
/-- The first elements of a slice. -/
theorem elems_sound (H : HR w0 ρ h w) {a : AV} {v : Value} {sz n : Nat} {cs : List AV} (hv : VR (PAll w0) a ρ v) (he : elemsA h sz a n = some cs) (hsz : 0 < sz) :
    ∃ vs, VRs (PAll w0) cs ρ vs ∧ (∀ u ∈ vs, u.oneCell' = true) ∧ (∀ w', (∀ k, k < w.heap.size → w'.heap[k]? = w.heap[k]?) → (Builtin.firstCells sz n v).run P w' = .ok vs.toArray w') := by
  unfold elemsA at he
  split at he
  · simp only [VR] at hv
    subst hv
    cases hb : Nat.beq n 0 with
    | false => rw [hb] at he; cases he
    | true =>
      rw [hb] at he; cases he
      exact ⟨[], VRs.nil, by simp, fun w' _ => by simp [Builtin.firstCells]⟩
  · rename_i s off len cap
    cases hb : Nat.ble n len with
    | false => rw [hb] at he; cases he
    | true =>
      rw [hb] at he
      simp only [cond_true] at he
      have hv0 := hv
      simp only [VR] at hv
      obtain ⟨x, c, hx, rfl, _⟩ := hv
      have hl : ldA h (.ptr s off) (n * sz) = some cs := by
        unfold ldA
        exact he
      have hp : VR (PAll w0) (.ptr s off) ρ (.pointer (some ⟨x.1, off, none⟩)) := by simp only [VR]; exact ⟨x, hx, rfl⟩
      obtain ⟨a, vs, ha, hr, hn, h2, h1⟩ := ld_sound H hp hl
      cases ha
      refine ⟨vs, h2, h1, fun w' hw => ?_⟩
      have hx1 : x.1 < w.heap.size := (H.dom _ _ hx).2.2
      refine run_firstCells_some w' sz n ⟨x.1, off, none⟩ len c vs hn fun j u hj => ?_
      have hc := hr.cell (PAll.on w) j u hj
      rw [addr_add _ rfl]
      unfold World.cell? at hc ⊢
      rw [hw _ hx1]; exact hc
  · rename_i nn xs cap
    cases hb : Nat.ble n xs.length with
    | false => rw [hb] at he; cases he
    | true =>
      rw [hb] at he
      simp only [cond_true] at he
      cases hq : Nat.beq (xs.take n).flatten.length (n * sz) with
      | false => rw [hq] at he; cases he
      | true =>
      rw [hq] at he
      simp only [cond_true, Option.some.injEq] at he
      subst he
      have h9 := Nat.eq_of_beq_eq_true hq
      simp only [VR] at hv
      obtain ⟨a, c, vss, z, rfl, h1, h2, h3, h4, h5, h6, h7, h8⟩ := hv
      have hle := Nat.le_of_ble_eq_true hb
      have hf : VRs (PAll w0) (xs.take n).flatten ρ (vss.take n).flatten := (VRss.flatten (h6.take n)).mono fun s x hx => by cases hx
      have hlen : ((vss.take n).flatten).length = n * sz := hf.length.trans h9
      refine ⟨(vss.take n).flatten, hf, ?_, fun w' hw => ?_⟩
      · intro u hu
        obtain ⟨vs, hvs, hu⟩ := List.mem_flatten.1 hu
        exact (h7 vs (List.mem_of_mem_take hvs)).2 u hu
      · cases a with
        | none =>
          rcases h8 with h8 | ⟨p, h8, _⟩
          · subst h8
            simp only [VRss] at h6; subst h6
            simp [Builtin.firstCells]
          · cases h8
        | some p =>
          refine run_firstCells_some w' sz n p xs.length c _ hlen fun j u hj => ?_
          rcases h8 with h8 | ⟨p', h8, hr⟩
          · subst h8; simp only [VRss] at h6; subst h6; simp at hj
          · cases h8
            have hr' : RowAt (PAll w) p vss.flatten := hr.mono H.on.all
            have hj' : vss.flatten[j]? = some u := by
              have : vss.flatten = (vss.take n).flatten ++ (vss.drop n).flatten := by rw [← List.flatten_append, List.take_append_drop]
              rw [this, List.getElem?_append_left (List.getElem?_eq_some_iff.1 hj).1]; exact hj
            have hc := hr'.cell (PAll.on w) j u hj'
            have hlt : p.block < w.heap.size := by
              obtain ⟨_, c', t', fr', hb', _⟩ := hr'
              exact (Array.getElem?_eq_some_iff.1 hb').1
            rw [addr_add _ hr'.1]
            unfold World.cell? at hc ⊢
            rw [hw _ hlt]; exact hc
  · rename_i s
    cases hb : (Nat.ble n s.length && Nat.beq sz 1) with
    | false => rw [hb] at he; cases he
    | true =>
      rw [hb] at he
      simp only [Bool.and_eq_true] at hb
      have hle := Nat.le_of_ble_eq_true hb.1
      simp only [cond_true, Option.some.injEq] at he
      subst he
      simp only [VR] at hv
      subst hv
      refine ⟨(s.take n).map fun b => .int .u8 b.toNat, ?_, ?_, fun w' hw => ?_⟩
      · generalize s.take n = l
        induction l with
        | nil => exact VRs.nil
        | cons b l ih => exact VRs.cons (by simp [VR]) ih
      · intro u hu
        obtain ⟨b, _, rfl⟩ := List.mem_map.1 hu
        rfl
      · simp [Builtin.firstCells, ByteArray.extract, ByteArray.copySlice]
  · cases he
end ops
end Go.Proofs.YtjpkccofeafkbaaGreat.Pvx
