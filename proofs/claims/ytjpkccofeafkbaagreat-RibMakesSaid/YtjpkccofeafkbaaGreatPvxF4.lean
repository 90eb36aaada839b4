/- Regions whose order is open: all orders; the machine is right. Over any program. -/
import Derived.Test.YtjpkccofeafkbaaGreatPvxF3
namespace Go.Proofs.YtjpkccofeafkbaaGreat.Pvx
open Go.RowKit
set_option linter.unusedVariables false
set_option linter.unusedSimpArgs false
theorem anyE_mono {P : Program} {ops : List Oper} {S : World → Prop} {L : Nat → Bool} {K K' : Env → World → Prop} (hk : ∀ e w, K e w → K' e w) : ∀ {f : Nat} {listed : Array Bool} {e : Env} {w : World}, anyE P ops S L K f listed e w → anyE P ops S L K' f listed e w
  | 0, _, _, _, h => ⟨h.1, hk _ _ h.2⟩
  | f + 1, _, _, _, h => ⟨fun h0 => hk _ _ (h.1 h0), fun i hi => opAt_mono (h.2 i hi) fun e w hh => ⟨hh.1, anyE_mono hk hh.2⟩⟩
section sem
variable {P : Program} {T : Tab} {w0 : World} {ih : EvT} {ops : List Oper}
section st
variable {n0 : Nat} {base D : List Nat} {G : List (Nat × Option Nat)} {ls : List (Nat × Nat)} {e : AEnv} {h : Hp} {ρ : Rho} {listed : Array Bool} {e' : Env} {w : World}
theorem not_dep (S : DSt T w0 ops n0 base D G ls e h ρ listed e' w) {c : Nat} (hc : c ∉ D) {i : Nat} (hi : i ∈ D) : depA ops ops.length i c = false := by
  cases hd : depA ops ops.length i c with
  | false => rfl
  | true => exact absurd (depA_mem S.clo _ _ _ hd (.inl hi)) hc
/-- Where the model waits, nothing is pending. -/
theorem DSt.idle (S : DSt T w0 ops n0 base D G ls e h ρ listed e' w) (hr : Region.ready .any ops.toArray listed = []) : G = [] := by
  rcases List.eq_nil_or_concat G with hG | ⟨G1, b, hG⟩
  · exact hG
  · exfalso
    subst hG
    have hb : b ∈ G1.concat b := by simp
    have hord := S.ord
    rw [List.concat_eq_append] at hord
    have hpw := (List.pairwise_append.1 hord).2.2
    obtain ⟨hbD, _, o, d, hp⟩ := S.pend b hb
    have : b.1 ∈ Region.ready .any ops.toArray listed := by
      have hlt : b.1 < listed.size := by rw [S.size]; exact S.bnd _ hbD
      refine mem_ready.2 ⟨?_, o, by simpa using hp.q.op, fun x hx hbx => ?_⟩
      · have := S.gfalse hb
        simpa [hlt] using this
      · refine (S.list x.on).2 ⟨S.clo _ hbD o x hp.q.op hx hbx, fun g hg => ?_⟩
        rw [List.concat_eq_append] at hg
        rcases List.mem_append.1 hg with hg | hg
        · exact Ne.symm ((hpw g hg b (by simp)).2.1 o x hp.q.op hx hbx)
        · simp only [List.mem_singleton] at hg
          subst hg
          exact Ne.symm (S.self g hb o x hp.q.op hx hbx)
    rw [hr] at this
    cases this
theorem ready_A (S : DSt T w0 ops n0 base D G ls e h ρ listed e' w) {i : Nat} (hi : i ∈ Region.ready .any ops.toArray listed) (hn : ∀ g ∈ G, g.1 ≠ i) : readyA ops D i = true := by
  obtain ⟨h1, o, ho, hall⟩ := mem_ready.1 hi
  refine readyA_iff.2 ⟨fun hD => ?_, o, by simpa using ho, fun x hx hb => ((S.list x.on).1 (hall x hx hb)).1⟩
  have := (S.list i).2 ⟨hD, hn⟩
  rw [ready_false S.size hi] at this
  cases this
theorem ready_R (S : DSt T w0 ops n0 base D [] ls e h ρ listed e' w) {i : Nat} (hi : readyA ops D i = true) : i ∈ Region.ready .any ops.toArray listed := by
  obtain ⟨h1, o, ho, hall⟩ := readyA_iff.1 hi
  have hlt : i < ops.length := (List.getElem?_eq_some_iff.1 ho).1
  refine mem_ready.2 ⟨?_, o, by simpa using ho, fun x hx hb => (S.list x.on).2 ⟨hall x hx hb, by simp⟩⟩
  have : listed.getD i false = false := by
    cases hl : listed.getD i false with
    | false => rfl
    | true => exact absurd ((S.list i).1 hl).1 h1
  have hlt' : i < listed.size := by rw [S.size]; exact hlt
  simpa [hlt'] using this
/-- The machine goes ahead. -/
theorem DSt.ahead (S : DSt T w0 ops n0 base D G ls e h ρ listed e' w) (hn0 : n0 ≤ h.next) {c : Nat} {o : Oper} {d : Nat} (hQ : Quick ops c o d) (hr : readyA ops D c = true) {v : AV} {h2 : Hp} {ls2 : List (Nat × Nat)} {sl : Option Nat} (hls : ∀ y ∈ ls, y ∈ ls2)
    (hh : (h2 = h ∧ sl = none) ∨ ∃ x, h2 = h.add x ∧ sl = some h.next) (hlk : ∀ s, qlock o.op e = some s → (c, s) ∈ ls2 ∨ wantedA ops o e = some false) (hls2 : ∀ y ∈ ls2, y.2 < h2.next)
    (how : (wantedA ops o e = some false ∧ v = .tup []) ∨ (wantedA ops o e = some true ∧ qop T o.op e h = some v ∧ h2 = h) ∨ (wantedA ops o e = some true ∧ ∃ x, aop T o.op e h.next = some (x, v) ∧ h2 = h.add x ∧ sl = some h.next)) :
    Keep ρ h ρ h2 ∧ DSt T w0 ops n0 base (c :: D) ((c, sl) :: G) ls2 (setO e o.dst v) h2 ρ listed e' w := by
  obtain ⟨hcD, o', ho', hdeps⟩ := readyA_iff.1 hr
  rw [hQ.op] at ho'; cases ho'
  have hKp : Keep ρ h ρ h2 := by
    rcases hh with ⟨rfl, _⟩ | ⟨x, rfl, _⟩
    · exact Keep.refl _ _
    · exact Keep.ghost_add S.heap x
  have hget : ∀ s, s < h.next → h2.get s = h.get s := fun s hs => by
    rcases hh with ⟨rfl, _⟩ | ⟨x, rfl, _⟩
    · rfl
    · rw [Hp.get_add, if_neg (Nat.ne_of_lt hs)]
  have hge : ∀ t, t ≠ d → (setO e o.dst v).get t = e.get t := fun t ht => get_setO_ne (by rw [hQ.dst]; intro hh; cases hh; exact ht rfl)
  have hgd : (setO e o.dst v).get d = some v := by rw [hQ.dst]; exact get_setO_same
  have hown : ∀ t, looksA ops o t = true → (setO e o.dst v).get t = e.get t := fun t ht => hge t fun e => by subst e; rw [hQ.own] at ht; cases ht
  have hag := agree_of (ops := ops) (o := o) hown
  have hw := wantedA_congr (ops := ops) (o := o) hown
  have hsl : ∀ s, sl = some s → s = h.next ∧ s < h2.next := fun s hs => by
    rcases hh with ⟨_, rfl⟩ | ⟨x, rfl, rfl⟩
    · cases hs
    · cases hs; exact ⟨rfl, Nat.lt_succ_self _⟩
  refine ⟨hKp, ⟨hKp.locks.trans S.locks, ?_, ?_, S.size, S.down, fun i => ?_, fun g hg => ?_, ?_, fun g hg => ?_, fun t a ht hn => ?_, ?_, hls2, fun g hg s hs => ?_⟩⟩
  · intro i hi o2 x ho2 hx hb
    rcases List.mem_cons.1 hi with rfl | hi
    · rw [hQ.op] at ho2; cases ho2
      exact List.mem_cons_of_mem _ (hdeps x hx hb)
    · exact List.mem_cons_of_mem _ (S.clo i hi o2 x ho2 hx hb)
  · intro i hi
    rcases List.mem_cons.1 hi with rfl | hi
    · exact (List.getElem?_eq_some_iff.1 hQ.op).1
    · exact S.bnd i hi
  · rw [S.list]
    constructor
    · rintro ⟨h1, h2⟩
      refine ⟨List.mem_cons_of_mem _ h1, fun g hg => ?_⟩
      rcases List.mem_cons.1 hg with rfl | hg
      · exact fun e => hcD ((show c = i from e) ▸ h1)
      · exact h2 g hg
    · rintro ⟨h1, h2⟩
      rcases List.mem_cons.1 h1 with rfl | h1
      · exact absurd rfl (h2 _ List.mem_cons_self)
      · exact ⟨h1, fun g hg => h2 g (List.mem_cons_of_mem _ hg)⟩
  · rcases List.mem_cons.1 hg with rfl | hg
    · refine ⟨List.mem_cons_self, fun s hs => (hsl s hs).2, o, d, hQ, fun s hs => ?_, ?_⟩
      · rw [qlock_congr hag] at hs
        rw [hw]; exact hlk s hs
      · rw [hw, hgd]
        rcases how with ⟨h1, rfl⟩ | ⟨h1, h3, rfl⟩ | ⟨h1, x, h3, rfl, rfl⟩
        · exact .inl ⟨h1, rfl⟩
        · exact .inr (.inl ⟨h1, v, by rw [qop_congr hag]; exact h3, rfl⟩)
        · exact .inr (.inr ⟨h1, h.next, x, v, rfl, by rw [aop_congr hag]; exact h3, rfl, S.heap.fresh, by rw [Hp.get_add, if_pos rfl], Nat.lt_succ_self _⟩)
    · obtain ⟨a1, a2, og, dg, hp⟩ := S.pend g hg
      have hgc : g.1 ≠ c := fun e => hcD (e ▸ a1)
      obtain ⟨p1, p2⟩ := hQ.pair g.1 og hgc hp.q.op (not_dep S hcD a1)
      have hddg : d ≠ dg := (p2 dg hp.q.dst).1
      refine ⟨List.mem_cons_of_mem _ a1, fun s hs => Nat.lt_of_lt_of_le (a2 s hs) hKp.next, og, dg, hp.step hls (fun t ht => ?_) (fun s hs => hget s (S.lsn _ hs)) (fun s hs hr _ => ⟨hr, hget s hs⟩) hKp.next⟩
      refine hge t fun e => ?_
      subst e
      rcases ht with ht | ht
      · rw [p1] at ht; cases ht
      · exact hddg ht
  · refine List.pairwise_cons.2 ⟨fun g hg => ?_, S.ord⟩
    obtain ⟨a1, a2, og, dg, hp⟩ := S.pend g hg
    refine ⟨fun e => hcD ((show c = g.1 from e) ▸ a1), fun o2 x ho2 hx hb e => hcD ((show x.on = c from e) ▸ S.clo g.1 a1 o2 x ho2 hx hb), ?_⟩
    cases hsl2 : sl with
    | none => exact .inl rfl
    | some s =>
      refine .inr fun e => ?_
      have := (hsl s hsl2).1
      have := a2 s e.symm
      omega
  · rcases List.mem_cons.1 hg with rfl | hg
    · intro o2 x ho2 hx hb e
      rw [hQ.op] at ho2; cases ho2
      exact hcD ((show x.on = c from e) ▸ hdeps x hx hb)
    · exact S.self g hg
  · have htd : t ≠ d := fun e => by subst e; exact hn _ List.mem_cons_self o hQ.op hQ.dst
    rw [hge t htd] at ht
    exact S.env t a ht fun g hg => hn g (List.mem_cons_of_mem _ hg)
  · rcases hh with ⟨rfl, _⟩ | ⟨x, rfl, _⟩
    · exact S.heap
    · exact S.heap.ghost x
  · rcases List.mem_cons.1 hg with rfl | hg
    · rw [(hsl s hs).1]; exact hn0
    · exact S.new g hg s hs
/-- Both go on, by an operation that nothing else may come ahead of. -/
theorem DSt.both (S : DSt T w0 ops n0 base D G ls e h ρ listed e' w) {c : Nat} {o : Oper} (ho : ops[c]? = some o) (hcD : c ∉ D) (hrc : c ∈ Region.ready .any ops.toArray listed) (hdeps : ∀ x ∈ o.after, Region.binds .any x = true → x.on ∈ D) {a : AV} {v : Value} {h2 : Hp} {ρ2 : Rho} {w2 : World}
    (hlk : h2.locks = base) (hle : RLe ρ ρ2) (hnext : h.next ≤ h2.next) (hsame : ∀ s, s < h.next → (ρ s = none ∨ s ∈ locksFor ops c ls base) → h2.get s = h.get s) (hghost : ∀ s, s < h.next → ρ s = none → ρ2 s = none) (H2 : HR w0 ρ2 h2 w2) (hv : VR (PAll w0) a ρ2 v) :
    DSt T w0 ops n0 base (c :: D) G ls (setO e o.dst a) h2 ρ2 (listed.setIfInBounds c true) (updO e' o.dst v) w2 := by
  have hlt : c < listed.size := by rw [S.size]; exact ready_lt hrc
  have hcG : ∀ g ∈ G, g.1 ≠ c := fun g hg e => hcD (by rw [← e]; exact (S.pend g hg).1)
  have hdepc : ∀ g ∈ G, depA ops ops.length c g.1 = false := fun g hg => by
    cases hd : depA ops ops.length c g.1 with
    | false => rfl
    | true =>
      have := depA_down S.down _ _ _ hd (.inr hrc)
      rw [S.gfalse hg] at this; cases this
  have hdst : ∀ g ∈ G, ∀ og dg, Pend T ops ls e h ρ g.1 g.2 og dg → ∀ d', o.dst = some d' → looksA ops og d' = false ∧ d' ≠ dg := fun g hg og dg hp d' hd' => by
    obtain ⟨p1, p2⟩ := hp.q.pair c o (Ne.symm (hcG g hg)) ho (hdepc g hg)
    obtain ⟨q1, q2⟩ := p2 d' hd'
    refine ⟨?_, Ne.symm q1⟩
    rcases q2 with q2 | q2
    · exact q2
    · rw [not_dep S hcD (S.pend g hg).1] at q2; cases q2
  refine ⟨hlk, ?_, ?_, by simpa using S.size, down_set S.down hrc, fun i => ?_, fun g hg => ?_, S.ord, S.self, fun t b ht hn => ?_, H2, fun y hy => Nat.lt_of_lt_of_le (S.lsn y hy) hnext, S.new⟩
  · intro i hi o2 x ho2 hx hb
    rcases List.mem_cons.1 hi with rfl | hi
    · rw [ho] at ho2; cases ho2
      exact List.mem_cons_of_mem _ (hdeps x hx hb)
    · exact List.mem_cons_of_mem _ (S.clo i hi o2 x ho2 hx hb)
  · intro i hi
    rcases List.mem_cons.1 hi with rfl | hi
    · exact ready_lt hrc
    · exact S.bnd i hi
  · rw [getD_set hlt]
    by_cases hic : i = c
    · subst hic
      simp only [if_true, true_iff]
      exact ⟨List.mem_cons_self, hcG⟩
    · rw [if_neg hic, S.list]
      simp [hic]
  · obtain ⟨a1, a2, og, dg, hp⟩ := S.pend g hg
    refine ⟨List.mem_cons_of_mem _ a1, fun s hs => Nat.lt_of_lt_of_le (a2 s hs) hnext, og, dg, hp.step (fun _ h => h) (fun t ht => get_setO_ne fun hd => ?_) (fun s hs => hsame s (S.lsn _ hs) (.inr (locksFor_mem c ls base _ _ hs (hdepc g hg)))) (fun s hs hr _ => ⟨hghost s hs hr, hsame s hs (.inl hr)⟩) hnext⟩
    obtain ⟨q1, q2⟩ := hdst g hg og dg hp t hd
    rcases ht with ht | ht
    · rw [q1] at ht; cases ht
    · exact q2 ht
  · cases hd : o.dst with
    | none =>
      rw [hd] at ht
      exact (S.env t b ht hn).mono hle
    | some d =>
      rw [hd] at ht
      by_cases htd : t = d
      · subst htd
        rw [get_setO_same] at ht; cases ht
        show VR _ _ _ (upd e' t v t)
        rw [upd_same]; exact hv
      · rw [get_setO_ne (fun e => htd (by cases e; rfl))] at ht
        show VR _ _ _ (upd e' d v t)
        rw [upd_ne _ _ htd]
        exact (S.env t b ht hn).mono hle
end st
def AnyMain (P : Program) (T : Tab) (w0 : World) (ih : EvT) (ops : List Oper) (K : AEnv → Hp → Bool) (ρ0 : Rho) (hh0 : Hp) (f : Nat) : Prop :=
  ∀ (l : List Nat) (g : Nat) (base D : List Nat) (G : List (Nat × Option Nat)) (ls : List (Nat × Nat)) (e : AEnv) (h : Hp) (ρ : Rho) (listed : Array Bool) (e' : Env) (w : World),
    canon ops g D = some l → anyF T ih ops base l ls e h K = true → Keep ρ0 hh0 ρ h → DSt T w0 ops hh0.next base D G ls e h ρ listed e' w → listed.toList.count false = f →
    anyE P ops (fun _ => True) (fun _ => false) (GoodE w0 ρ0 hh0 K) f listed e' w
theorem any_wait (TO : TabOK P T) (IH : EvS P T ih) {K : AEnv → Hp → Bool} {ρ0 : Rho} {hh0 : Hp} {f : Nat} (IHf : ∀ f', f = f' + 1 → AnyMain P T w0 ih ops K ρ0 hh0 f') {l : List Nat} {g : Nat} {base D : List Nat} {G : List (Nat × Option Nat)} {ls : List (Nat × Nat)} {e : AEnv} {h : Hp} {ρ : Rho} {listed : Array Bool} {e' : Env} {w : World}
    (hl : l = [] ∨ ∃ c l', l = c :: l' ∧ quickAt ops c = false) (hc : canon ops g D = some l) (hq : anyF T ih ops base l ls e h K = true) (kp : Keep ρ0 hh0 ρ h) (S : DSt T w0 ops hh0.next base D G ls e h ρ listed e' w) (hf : listed.toList.count false = f) :
    anyE P ops (fun _ => True) (fun _ => false) (GoodE w0 ρ0 hh0 K) f listed e' w := by
  have A : Region.ready .any ops.toArray listed = [] → GoodE w0 ρ0 hh0 K e' w := by
    intro hr
    have hG := S.idle hr
    subst hG
    rcases canon_cases hc with ⟨rfl, _⟩ | ⟨c, l', g', rfl, hrc, _, _⟩
    · exact ⟨ρ, e, h, kp, fun t a ht => S.env t a ht (by simp), S.heap, hq⟩
    · have := ready_R S hrc
      rw [hr] at this; cases this
  have cnt : ∀ i ∈ Region.ready .any ops.toArray listed, (listed.setIfInBounds i true).toList.count false + 1 = listed.toList.count false := by
    intro i hi
    have h1 := ready_false S.size hi
    have hlt : i < listed.size := by rw [S.size]; exact ready_lt hi
    rw [Array.toList_setIfInBounds]
    refine count_set ?_
    simp only [hlt, Array.getD_eq_getD_getElem?, Array.getElem?_eq_getElem hlt, Option.getD_some] at h1
    simp [hlt, h1]
  cases f with
  | zero =>
    have hr : Region.ready .any ops.toArray listed = [] := by
      cases hr : Region.ready .any ops.toArray listed with
      | nil => rfl
      | cons i r =>
        have := cnt i (by rw [hr]; simp)
        omega
    exact ⟨hr, A hr⟩
  | succ f =>
    refine ⟨A, fun i hi => ?_⟩
    have hcnt : (listed.setIfInBounds i true).toList.count false = f := by have := cnt i hi; omega
    by_cases hg : ∃ g ∈ G, g.1 = i
    · obtain ⟨g1, hg1, rfl⟩ := hg
      obtain ⟨G1, G2, rfl⟩ := List.append_of_mem hg1
      refine opAt_mono (S.pending TO hi) fun e1 w1 ⟨ρ1, h1, h2, S1⟩ => ⟨fun hh => (by cases hh), ?_⟩
      exact IHf f rfl l g base D (G1 ++ G2) ls e h ρ1 _ e1 w1 hc hq ⟨kp.le.trans h1, kp.next, kp.locks, kp.same, fun s hs hn => h2 s hs (kp.ghost s hs hn)⟩ S1 hcnt
    · have hA := ready_A S hi fun g hg1 e => hg ⟨g, hg1, e⟩
      have hiD := (readyA_iff.1 hA).1
      rcases canon_cases hc with ⟨rfl, hall⟩ | ⟨c, l', g', rfl, hrc, hone, hc'⟩
      · exact absurd (hall i (ready_lt hi)) hiD
      · have hcq : quickAt ops c = false := by
          rcases hl with hl | ⟨c2, l2, hl, hcq⟩
          · cases hl
          · cases hl; exact hcq
        have hic : i = c := by
          rcases hone with h1 | h1
          · rw [hcq] at h1; cases h1
          · exact h1 i (ready_lt hi) hA
        subst hic
        obtain ⟨_, o, ho, hdeps⟩ := readyA_iff.1 hrc
        unfold opAt
        simp only [ho]
        unfold anyF at hq
        simp only [ho] at hq
        have hlk := S.looks hi ho fun g hg1 he => absurd ⟨g, hg1, he⟩ hg
        have hag := agree_of (ops := ops) (o := o) hlk
        have hw := wantedA_congr (ops := ops) (o := o) hlk
        have He := S.wiped
        unfold opE
        split at hq
        · rename_i hwt
          rw [if_pos (wanted_sound He (hw.trans hwt))]
          rw [hcq] at hq
          simp only [cond_false] at hq
          rw [← opF_congr hag] at hq
          refine stepE_mono (op_sound TO IH He (S.heap.relock _) hq) fun v w1 hG => ?_
          obtain ⟨ρ1, a, h1, kp1, hv, H1, hK⟩ := hG
          have hbase : base = h.locks := S.locks.symm
          have kp2 : Keep ρ h ρ1 (h1.relock base) := ⟨kp1.le, kp1.next, hbase, fun s hs hh => kp1.same s hs (hh.imp id fun hm => (memN_iff _ _).2 (locksFor_base i ls base s (by rw [hbase]; exact (memN_iff _ _).1 hm))), kp1.ghost⟩
          refine ⟨fun hh => (by cases hh), ?_⟩
          exact IHf f rfl l' g' base (i :: D) G ls (setO e o.dst a) (h1.relock base) ρ1 _ _ w1 hc' hK (kp.trans kp2)
            (S.both ho hiD hi hdeps rfl kp1.le kp1.next (fun s hs hh => kp1.same s hs (hh.imp id fun hm => (memN_iff _ _).2 hm)) kp1.ghost (H1.relock _) hv) hcnt
        · rename_i hwf
          rw [if_neg (by rw [wanted_sound He (hw.trans hwf)]; simp)]
          refine ⟨fun hh => (by cases hh), ?_⟩
          exact IHf f rfl l' g' base (i :: D) G ls (setO e o.dst (.tup [])) h ρ _ _ w hc' hq kp
            (S.both ho hiD hi hdeps S.locks (RLe.refl _) (Nat.le_refl _) (fun _ _ _ => rfl) (fun _ _ h => h) S.heap undef_VR) hcnt
        · cases hq
theorem any_step (TO : TabOK P T) (IH : EvS P T ih) {K : AEnv → Hp → Bool} {ρ0 : Rho} {hh0 : Hp} {f : Nat} (IHf : ∀ f', f = f' + 1 → AnyMain P T w0 ih ops K ρ0 hh0 f') : AnyMain P T w0 ih ops K ρ0 hh0 f := by
  intro l
  induction l with
  | nil => intro g base D G ls e h ρ listed e' w hc hq kp S hf; exact any_wait TO IH IHf (.inl rfl) hc hq kp S hf
  | cons c l ihl =>
    intro g base D G ls e h ρ listed e' w hc hq kp S hf
    cases hcq : quickAt ops c with
    | false => exact any_wait TO IH IHf (.inr ⟨c, l, rfl, hcq⟩) hc hq kp S hf
    | true =>
      rcases canon_cases hc with ⟨hl, _⟩ | ⟨c', l', g', hl, hrc, _, hc'⟩
      · cases hl
      · cases hl
        obtain ⟨o, d, hQ⟩ := quickAt_iff hcq
        have ho := hQ.op
        unfold anyF at hq
        simp only [ho] at hq
        split at hq
        · rename_i hwt
          rw [hcq] at hq
          simp only [cond_true] at hq
          rcases quick_cases hQ.kind hq with ⟨v, hv, hK⟩ | ⟨hn, x, v, hx, hK⟩
          · obtain ⟨k1, S1⟩ := S.ahead (v := v) (h2 := h) (ls2 := addLk c ls (qlock o.op e)) (sl := none) kp.next hQ hrc (fun y hy => by cases qlock o.op e <;> simp [addLk, hy]) (.inl ⟨rfl, rfl⟩)
              (fun s hs => .inl (by rw [hs]; simp [addLk])) (fun y hy => by
                cases hql : qlock o.op e with
                | none => rw [hql] at hy; exact S.lsn y hy
                | some s =>
                  rw [hql] at hy
                  rcases List.mem_cons.1 hy with rfl | hy
                  · obtain ⟨ob, hob⟩ := qlock_live hv hql
                    exact S.heap.live _ _ hob
                  · exact S.lsn y hy) (.inr (.inl ⟨hwt, hv, rfl⟩))
            exact ihl _ _ _ _ _ _ _ _ _ _ _ hc' hK (kp.trans k1) S1 hf
          · have hql : qlock o.op e = none := by
              cases hql : qlock o.op e with
              | none => rfl
              | some s =>
                exfalso
                cases hop : o.op <;> rw [hop] at hql hx <;> simp only [qlock] at hql <;> first | (cases hql; done) | (simp [aop] at hx; done) | (rename_i c; obtain ⟨cl, args, ats⟩ := c; cases cl <;> simp [aop] at hx; done)
            rw [hql] at hK
            obtain ⟨k1, S1⟩ := S.ahead (v := v) (h2 := h.add x) (ls2 := ls) (sl := some h.next) kp.next hQ hrc (fun y hy => hy) (.inr ⟨x, rfl, rfl⟩)
              (fun s hs => by rw [hql] at hs; cases hs) (fun y hy => Nat.lt_succ_of_lt (S.lsn y hy)) (.inr (.inr ⟨hwt, x, hx, rfl, rfl⟩))
            exact ihl _ _ _ _ _ _ _ _ _ _ _ hc' hK (kp.trans k1) S1 hf
        · rename_i hwf
          obtain ⟨k1, S1⟩ := S.ahead (v := .tup []) (h2 := h) (ls2 := ls) (sl := none) kp.next hQ hrc (fun y hy => hy) (.inl ⟨rfl, rfl⟩)
            (fun s hs => .inr hwf) S.lsn (.inl ⟨hwf, rfl⟩)
          exact ihl _ _ _ _ _ _ _ _ _ _ _ hc' hq (kp.trans k1) S1 hf
        · cases hq
theorem any_sound (TO : TabOK P T) (IH : EvS P T ih) {K : AEnv → Hp → Bool} {ρ0 : Rho} {hh0 : Hp} : ∀ f, AnyMain P T w0 ih ops K ρ0 hh0 f
  | 0 => any_step TO IH fun f' hf => by cases hf
  | f + 1 => any_step TO IH fun f' hf => by cases hf; exact any_sound TO IH f
end sem
theorem anyS_sound {P : Program} {T : Tab} {ih : EvT} (TO : TabOK P T) (IH : EvS P T ih) : AnyS' P T ih := by
  intro ops e h K hq n id w0 ρ e' m ro w hn He H
  simp only [regF, cond_true] at hq
  split at hq
  · rename_i l hl
    refine c_draw (fun _ => True) (fun _ => false) TO.mixed hn (anyE_mono (fun e1 w1 g => ?_) (any_sound (w0 := w0) TO IH ops.length l ops.length h.locks [] [] [] e h ρ (Array.replicate ops.length false) e' w.drew hl hq (Keep.refl _ _) ?_ ?_))
    · exact ⟨rfl, rfl, g⟩
    · refine ⟨rfl, fun i hi => by simp at hi, fun i hi => by simp at hi, by simp, ?_, fun i => ?_, fun g hg => by simp at hg, .nil, fun g hg => by simp at hg, fun t a ht _ => He t a ht, H.drew, fun y hy => by simp at hy, fun g hg => by simp at hg⟩
      · intro j o ho hl
        rcases Nat.lt_or_ge j ops.length with h' | h'
        · simp [h'] at hl
        · simp [Nat.not_lt.2 h'] at hl
      · constructor
        · intro hl
          rcases Nat.lt_or_ge i ops.length with h' | h'
          · simp [h'] at hl
          · simp [Nat.not_lt.2 h'] at hl
        · rintro ⟨h1, _⟩; simp at h1
    · simp
  · cases hq
theorem ev_sound {P : Program} {T : Tab} (TO : TabOK P T) : ∀ n, EvS P T (ev T n)
  | 0 => fun c ro e m h K hq => by cases hq
  | n + 1 => evF_sound TO (ev_sound TO n) (anyS_sound TO (ev_sound TO n))
/-- What the machine tells of a call, the model does. -/
theorem call_is {P : Program} {T : Tab} (TO : TabOK P T) {n k : Nat} {vs : List AV} {us : List Value} {w : World} {K : AV → Hp → Bool} (hv : VRs (PAll w) vs rnone us) (hq : call T n k vs h0 K = true) :
    Fn P k us w fun v w' => ∃ ρ a h, VR (PAll w) a ρ v ∧ HR w ρ h w' ∧ K a h = true := by
  refine Fn.mono (call_sound TO (ev_sound TO n) (HR.start w) hv hq).2 fun v w' ⟨ρ', a, h', _, h2, h3, h4⟩ => ⟨ρ', a, h', h2, h3, h4⟩
end Go.Proofs.YtjpkccofeafkbaaGreat.Pvx
