/- Regions whose order is open: the proof. Over any program. -/
import Derived.Test.YtjpkccofeafkbaaGreatPvxF2
namespace Go.Proofs.YtjpkccofeafkbaaGreat.Pvx
open Go.RowKit
set_option linter.unusedVariables false
set_option linter.unusedSimpArgs false
section sem
variable {P : Program} {T : Tab} {w0 : World} {ih : EvT} {ops : List Oper}
theorem canon_cases {g : Nat} {D l : List Nat} (h : canon ops g D = some l) : (l = [] ∧ ∀ i, i < ops.length → i ∈ D) ∨ ∃ c l' g', l = c :: l' ∧ readyA ops D c = true ∧ (quickAt ops c = true ∨ ∀ i, i < ops.length → readyA ops D i = true → i = c) ∧ canon ops g' (c :: D) = some l' := by
  have done : allDone ops D = true → ∀ i, i < ops.length → i ∈ D := fun hd i hi => (memN_iff D i).1 (List.all_eq_true.1 hd i (List.mem_range.2 hi))
  cases g with
  | zero =>
    unfold canon at h
    cases hd : allDone ops D with
    | true => rw [hd] at h; cases h; exact .inl ⟨rfl, done hd⟩
    | false => rw [hd] at h; cases h
  | succ g =>
    unfold canon at h
    cases hd : allDone ops D with
    | true => rw [hd] at h; cases h; exact .inl ⟨rfl, done hd⟩
    | false =>
      rw [hd] at h
      simp only [cond_false] at h
      split at h
      · rename_i i hf
        obtain ⟨l', hl', rfl⟩ := Option.map_eq_some_iff.1 h
        have hm := List.mem_of_find?_eq_some hf
        exact .inr ⟨i, l', g, rfl, (List.mem_filter.1 hm).2, .inl (List.find?_some hf), hl'⟩
      · split at h
        · rename_i i hi
          obtain ⟨l', hl', rfl⟩ := Option.map_eq_some_iff.1 h
          have hrs : (List.range ops.length).filter (readyA ops D) = [i] := by
            generalize (List.range ops.length).filter (readyA ops D) = rs at hi
            unfold isOne at hi
            split at hi
            · cases hi; rfl
            · cases hi
          have hm : i ∈ (List.range ops.length).filter (readyA ops D) := by rw [hrs]; simp
          refine .inr ⟨i, l', g, rfl, (List.mem_filter.1 hm).2, .inr fun j hj hr => ?_, hl'⟩
          have : j ∈ (List.range ops.length).filter (readyA ops D) := List.mem_filter.2 ⟨List.mem_range.2 hj, hr⟩
          rw [hrs] at this
          simpa using this
        · cases h
theorem qlock_live {o : Op} {e : AEnv} {h : Hp} {v : AV} {s : Nat} (hq : qop T o e h = some v) (hl : qlock o e = some s) : ∃ ob, h.get s = some ob := by
  cases hg : h.get s with
  | some ob => exact ⟨ob, rfl⟩
  | none =>
    exfalso
    cases o <;> simp only [qlock] at hl <;> first | (cases hl; done) | skip
    · -- load
      rename_i t x
      split at hl
      · rename_i s' off hx
        cases hl
        simp only [qop, hx] at hq
        split at hq
        · simp [ldA, hg] at hq
        · cases hq
      · cases hl
    · rename_i src dst x
      split at hl
      · rename_i s' off n c hx
        cases hl
        simp only [qop, hx] at hq
        split at hq
        · split at hq
          · rename_i i _
            cases hsh : i.sh <;> rw [hsh] at hq <;> try (simp at hq; done)
            simp only at hq
            split at hq
            · split at hq
              · split at hq
                · simp [elemsA, hg] at hq
                · cases hq
              · cases hq
            · cases hq
          · cases hq
        · cases hq
      · cases hl
    · rename_i t x y ok
      split at hl
      · rename_i s' hx
        cases hl
        simp only [qop, hx] at hq
        split at hq
        · split at hq
          · split at hq
            · split at hq
              · rename_i k _
                revert hq
                cases keyFits T _ k <;> simp [hg]
              · cases hq
            · cases hq
          · cases hq
        · cases hq
      · cases hl
    · rename_i c
      obtain ⟨cl, args, ats⟩ := c
      cases cl with
      | builtin b =>
        cases b <;> simp only at hl <;> first | (cases hl; done) | skip
        split at hl
        · rename_i s' hx
          cases hl
          simp only [qop, hx] at hq
          split at hq
          · rename_i t v' _ hv'
            simp only [Option.some.injEq, List.cons.injEq, and_true] at hv'
            subst hv'
            split at hq
            · revert hq
              cases lenFits _ _ <;> simp [lenA, hg]
            · cases hq
          · cases hq
        · cases hl
      | _ => cases hl
structure DSt (T : Tab) (w0 : World) (ops : List Oper) (n0 : Nat) (base D : List Nat) (G : List (Nat × Option Nat)) (ls : List (Nat × Nat)) (e : AEnv) (h : Hp) (ρ : Rho) (listed : Array Bool) (e' : Env) (w : World) : Prop where
  locks : h.locks = base
  clo : Clo ops D
  bnd : ∀ i ∈ D, i < ops.length
  size : listed.size = ops.length
  down : Down ops listed
  list : ∀ i, listed.getD i false = true ↔ (i ∈ D ∧ ∀ g ∈ G, g.1 ≠ i)
  pend : ∀ g ∈ G, g.1 ∈ D ∧ (∀ s, g.2 = some s → s < h.next) ∧ ∃ o d, Pend T ops ls e h ρ g.1 g.2 o d
  ord : G.Pairwise fun a b => a.1 ≠ b.1 ∧ (∀ o x, ops[b.1]? = some o → x ∈ o.after → Region.binds .any x = true → x.on ≠ a.1) ∧ (a.2 = none ∨ a.2 ≠ b.2)
  self : ∀ g ∈ G, ∀ o x, ops[g.1]? = some o → x ∈ o.after → Region.binds .any x = true → x.on ≠ g.1
  env : ∀ t a, e.get t = some a → (∀ g ∈ G, ∀ o, ops[g.1]? = some o → o.dst ≠ some t) → VR (PAll w0) a ρ (e' t)
  heap : HR w0 ρ h w
  lsn : ∀ y ∈ ls, y.2 < h.next
  new : ∀ g ∈ G, ∀ s, g.2 = some s → n0 ≤ s
section st
variable {n0 : Nat} {base D : List Nat} {G : List (Nat × Option Nat)} {ls : List (Nat × Nat)} {e : AEnv} {h : Hp} {ρ : Rho} {listed : Array Bool} {e' : Env} {w : World}
/-- The temporaries that the model has, too. -/
def dsts (ops : List Oper) (G : List (Nat × Option Nat)) : List Nat := G.filterMap fun g => (ops[g.1]?).bind (·.dst)
theorem mem_dsts {t : Nat} : t ∈ dsts ops G ↔ ∃ g ∈ G, ∃ o, ops[g.1]? = some o ∧ o.dst = some t := by
  unfold dsts
  rw [List.mem_filterMap]
  constructor
  · rintro ⟨g, hg, hb⟩
    obtain ⟨o, ho, hd⟩ := Option.bind_eq_some_iff.1 hb
    exact ⟨g, hg, o, ho, hd⟩
  · rintro ⟨g, hg, o, ho, hd⟩
    exact ⟨g, hg, by rw [ho]; exact hd⟩
theorem DSt.wiped (S : DSt T w0 ops n0 base D G ls e h ρ listed e' w) : EnvR (PAll w0) ρ (wipe e (dsts ops G)) e' := fun t a ht => by
  rw [get_wipe] at ht
  split at ht
  · cases ht
  · rename_i hn
    exact S.env t a ht fun g hg o ho hd => hn (mem_dsts.2 ⟨g, hg, o, ho, hd⟩)
theorem DSt.gfalse (S : DSt T w0 ops n0 base D G ls e h ρ listed e' w) {g : Nat × Option Nat} (hg : g ∈ G) : listed.getD g.1 false = false := by
  cases hl : listed.getD g.1 false with
  | false => rfl
  | true => exact absurd rfl (((S.list g.1).1 hl).2 g hg)
/-- What comes up for the model looks at nothing that it lacks. -/
theorem DSt.looks (S : DSt T w0 ops n0 base D G ls e h ρ listed e' w) {i : Nat} {o : Oper} (hi : i ∈ Region.ready .any ops.toArray listed) (ho : ops[i]? = some o) (hown : ∀ g ∈ G, g.1 = i → ∀ d, o.dst = some d → looksA ops o d = false) :
    ∀ t, looksA ops o t = true → (wipe e (dsts ops G)).get t = e.get t := by
  intro t ht
  rw [get_wipe, if_neg]
  intro hm
  obtain ⟨g, hg, o', ho', hd'⟩ := mem_dsts.1 hm
  obtain ⟨_, _, o2, d2, hp⟩ := S.pend g hg
  have hq := hp.q
  have : o2 = o' := by have := hq.op; rw [ho'] at this; exact (Option.some.inj this).symm
  subst this
  have hd2 : d2 = t := by have := hq.dst; rw [hd'] at this; exact (Option.some.inj this).symm
  subst hd2
  by_cases hgi : g.1 = i
  · subst hgi
    rw [ho] at ho'; cases ho'
    rw [hown g hg rfl d2 hd'] at ht; cases ht
  · have hdep : depA ops ops.length i g.1 = false := by
      cases hdp : depA ops ops.length i g.1 with
      | false => rfl
      | true =>
        have := depA_down S.down _ _ _ hdp (.inr hi)
        rw [S.gfalse hg] at this; cases this
    have := (hq.pair i o (Ne.symm hgi) ho hdep).1
    rw [this] at ht; cases ht
theorem getD_set {a : Array Bool} {i j : Nat} (hi : i < a.size) : (a.setIfInBounds i true).getD j false = if j = i then true else a.getD j false := by
  by_cases hji : j = i
  · subst hji; simp [hi]
  · rw [if_neg hji, getD_set_ne false (Ne.symm hji)]
theorem ready_lt {i : Nat} (hi : i ∈ Region.ready .any ops.toArray listed) : i < ops.length := by
  obtain ⟨_, o, ho, _⟩ := mem_ready.1 hi
  simp only [List.getElem?_toArray] at ho
  exact (List.getElem?_eq_some_iff.1 ho).1
theorem ready_false {i : Nat} (hs : listed.size = ops.length) (hi : i ∈ Region.ready .any ops.toArray listed) : listed.getD i false = false := by
  have h1 := (mem_ready.1 hi).1
  have hlt : i < listed.size := by rw [hs]; exact ready_lt hi
  simpa [hlt] using h1
/-- The model carries out what the machine has carried out before. -/
theorem DSt.pending (TO : TabOK P T) {G1 G2 : List (Nat × Option Nat)} {g : Nat × Option Nat} (S : DSt T w0 ops n0 base D (G1 ++ g :: G2) ls e h ρ listed e' w) (hi : g.1 ∈ Region.ready .any ops.toArray listed) :
    opAt P ops g.1 e' w fun e1 w1 => ∃ ρ1, RLe ρ ρ1 ∧ (∀ s, s < n0 → ρ s = none → ρ1 s = none) ∧ DSt T w0 ops n0 base D (G1 ++ G2) ls e h ρ1 (listed.setIfInBounds g.1 true) e1 w1 := by
  have hg : g ∈ G1 ++ g :: G2 := by simp
  obtain ⟨hgD, hgs, o, d, hp⟩ := S.pend g hg
  have hq := hp.q
  have hlk := S.looks hi hq.op fun g' hg' he d' hd' => by have := hq.dst; rw [hd'] at this; cases this; exact hq.own
  have hag := agree_of (ops := ops) (o := o) hlk
  have hw := wantedA_congr (ops := ops) (o := o) hlk
  have He := S.wiped
  have hsub : ∀ x ∈ G1 ++ G2, x ∈ G1 ++ g :: G2 := fun x hx => by
    rcases List.mem_append.1 hx with hx | hx
    · exact List.mem_append.2 (.inl hx)
    · exact List.mem_append.2 (.inr (List.mem_cons_of_mem _ hx))
  have hpw := List.pairwise_append.1 S.ord
  have hpw2 := List.pairwise_cons.1 hpw.2.1
  have hne : ∀ x ∈ G1 ++ G2, x.1 ≠ g.1 ∧ (∀ s, g.2 = some s → x.2 ≠ some s) := fun x hx => by
    rcases List.mem_append.1 hx with hx | hx
    · obtain ⟨h1, _, h3⟩ := hpw.2.2 x hx g (by simp)
      refine ⟨h1, fun s hs hxs => ?_⟩
      rcases h3 with h3 | h3
      · rw [hxs] at h3; cases h3
      · exact h3 (hxs.trans hs.symm)
    · obtain ⟨h1, _, h3⟩ := hpw2.1 x hx
      refine ⟨Ne.symm h1, fun s hs hxs => ?_⟩
      rcases h3 with h3 | h3
      · rw [hs] at h3; cases h3
      · exact h3 (hs.trans hxs.symm)
  have hlt : g.1 < listed.size := by rw [S.size]; exact ready_lt hi
  have next : ∀ (ρ1 : Rho) (a : AV) (v : Value) (w1 : World), RLe ρ ρ1 → (∀ s, s < n0 → ρ s = none → ρ1 s = none) → e.get d = some a → VR (PAll w0) a ρ1 v → HR w0 ρ1 h w1 → (∀ s, s < h.next → ρ s = none → g.2 ≠ some s → ρ1 s = none) →
      ∃ ρ1, RLe ρ ρ1 ∧ (∀ s, s < n0 → ρ s = none → ρ1 s = none) ∧ DSt T w0 ops n0 base D (G1 ++ G2) ls e h ρ1 (listed.setIfInBounds g.1 true) (updO e' o.dst v) w1 := by
    intro ρ1 a v w1 kp kn hea hva H1 hgh
    refine ⟨ρ1, kp, kn, S.locks, S.clo, S.bnd, by simpa using S.size, down_set S.down hi, fun i => ?_, fun x hx => ?_, S.ord.sublist (List.Sublist.append (List.Sublist.refl _) (List.sublist_cons_self _ _)), fun x hx => S.self x (hsub x hx), fun t b ht hn => ?_, H1, S.lsn, fun x hx => S.new x (hsub x hx)⟩
    · rw [getD_set hlt]
      by_cases hig : i = g.1
      · subst hig
        simp only [if_true, true_iff]
        exact ⟨hgD, fun x hx => (hne x hx).1⟩
      · rw [if_neg hig, S.list]
        refine and_congr_right fun _ => ⟨fun hh x hx => hh x (hsub x hx), fun hh x hx => ?_⟩
        rcases List.mem_append.1 hx with hx | hx
        · exact hh x (List.mem_append.2 (.inl hx))
        · rcases List.mem_cons.1 hx with rfl | hx
          · exact Ne.symm hig
          · exact hh x (List.mem_append.2 (.inr hx))
    · obtain ⟨a1, a2, o', d', hp'⟩ := S.pend x (hsub x hx)
      refine ⟨a1, a2, o', d', hp'.step (fun _ h => h) (fun _ _ => rfl) (fun _ _ => rfl) (fun s hs hr hxs => ⟨hgh s hs hr fun hgs => (hne x hx).2 s hgs hxs, rfl⟩) (Nat.le_refl _)⟩
    · have hdt : o.dst = some d := hq.dst
      rw [hdt]
      by_cases htd : t = d
      · subst htd
        rw [hea] at ht; cases ht
        show VR _ _ _ (upd e' t v t)
        rw [upd_same]; exact hva
      · show VR _ _ _ (upd e' d v t)
        rw [upd_ne _ _ htd]
        refine (S.env t b ht fun x hx o2 ho2 hd2 => ?_).mono kp
        rcases List.mem_append.1 hx with hx | hx
        · exact hn x (List.mem_append.2 (.inl hx)) o2 ho2 hd2
        · rcases List.mem_cons.1 hx with rfl | hx
          · rw [hq.op] at ho2; cases ho2
            rw [hdt] at hd2; cases hd2
            exact htd rfl
          · exact hn x (List.mem_append.2 (.inr hx)) o2 ho2 hd2
  unfold opAt
  simp only [hq.op]
  unfold opE
  rcases hp.how with ⟨h1, h2⟩ | ⟨h1, v, h2, h3⟩ | ⟨h1, s, x, v, h2, h3, h4, h5, h6, h7⟩
  · rw [if_neg (by rw [wanted_sound He (hw.trans h1)]; simp)]
    exact next ρ _ undef w (RLe.refl _) (fun _ _ h => h) h2 undef_VR S.heap fun s _ hs _ => hs
  · rw [if_pos (wanted_sound He (hw.trans h1))]
    obtain ⟨u, hr, hu⟩ := qop_sound TO He S.heap ((qop_congr hag).trans h2)
    unfold stepE
    have := hr o.type o.dst o.pos o.after o.guard
    rw [this]
    exact next ρ v u w (RLe.refl _) (fun _ _ h => h) h3 hu S.heap fun s _ hs _ => hs
  · rw [if_pos (wanted_sound He (hw.trans h1))]
    obtain ⟨r, N, u, hr, hO⟩ := aop_sound (w := w) (w0 := w0) TO He ((aop_congr hag).trans h3)
    unfold stepE
    have := hr o.dst o.type o.pos o.after o.guard
    rw [this]
    obtain ⟨g1, g2⟩ := hO _ (radd_le (x := (w.heap.size, N)) h5) (if_pos rfl)
    refine next (radd ρ s (w.heap.size, N)) v u _ (radd_le h5) (fun k hk hn => ?_) h4 g2 (S.heap.fill h5 h7 h6 g1) fun k hk hn hgk => ?_
    · unfold radd
      rw [if_neg (by have := S.new g hg s h2; omega)]
      exact hn
    · unfold radd
      rw [if_neg (fun e => by subst e; exact hgk h2)]
      exact hn
end st
end sem
end Go.Proofs.YtjpkccofeafkbaaGreat.Pvx
