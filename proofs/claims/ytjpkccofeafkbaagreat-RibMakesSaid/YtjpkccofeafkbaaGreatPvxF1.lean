/- What an operation reads of the temporaries; temporaries taken away. -/
import Derived.Test.YtjpkccofeafkbaaGreatPvxE2
namespace Go.Proofs.YtjpkccofeafkbaaGreat.Pvx
open Go.RowKit
set_option linter.unusedVariables false
set_option linter.unusedSimpArgs false
def PT.del {α : Type} : PT α → Nat → PT α
  | nil, _ => nil
  | node v l r, k => bif Nat.beq k 0 then node none l r else bif Nat.beq ((k - 1) % 2) 0 then node v (del l ((k - 1) / 2)) r else node v l (del r ((k - 1) / 2))
theorem PT.get_del {α : Type} : ∀ (t : PT α) (k j : Nat), (t.del k).get j = if j = k then none else t.get j
  | nil, k, j => by simp [PT.del, PT.get]
  | node v l r, k, j => by
    have kb : ∀ n : Nat, Nat.beq n 0 = decide (n = 0) := fun n => by cases n <;> rfl
    simp only [PT.del, kb]
    by_cases hk : k = 0
    · subst hk
      by_cases hj : j = 0
      · subst hj; simp [PT.get]
      · simp [PT.get, kb, hj]
    · simp only [hk, decide_false, cond_false]
      by_cases hm : (k - 1) % 2 = 0
      · simp only [hm, decide_true, cond_true]
        by_cases hj : j = 0
        · subst hj; simp [PT.get, Ne.symm hk]
        · simp only [PT.get, kb, hj, decide_false, cond_false]
          by_cases hmj : (j - 1) % 2 = 0
          · simp only [hmj, decide_true, cond_true]
            rw [PT.get_del l]
            by_cases hjk : j = k
            · subst hjk; simp
            · rw [if_neg hjk, if_neg (by omega)]
          · simp only [hmj, decide_false, cond_false]
            rw [if_neg (fun hh => hmj (by rw [hh]; exact hm))]
      · simp only [hm, decide_false, cond_false]
        by_cases hj : j = 0
        · subst hj; simp [PT.get, Ne.symm hk]
        · simp only [PT.get, kb, hj, decide_false, cond_false]
          by_cases hmj : (j - 1) % 2 = 0
          · simp only [hmj, decide_true, cond_true]
            rw [if_neg (fun hh => hm (by rw [← hh]; exact hmj))]
          · simp only [hmj, decide_false, cond_false]
            rw [PT.get_del r]
            by_cases hjk : j = k
            · subst hjk; simp
            · rw [if_neg hjk, if_neg (by omega)]
def wipe (e : AEnv) : List Nat → AEnv
  | [] => e
  | d :: l => (wipe e l).del d
theorem get_wipe (e : AEnv) : ∀ (l : List Nat) (t : Nat), (wipe e l).get t = if t ∈ l then none else e.get t
  | [], t => by simp [wipe]
  | d :: l, t => by
    simp only [wipe, PT.get_del, get_wipe e l t, List.mem_cons]
    by_cases h1 : t = d
    · simp [h1]
    · simp [h1]

section congr
variable {T : Tab} {e e2 : AEnv} {h : Hp}
def AgreeOn (e e2 : AEnv) (l : List Operand) : Prop := ∀ x ∈ l, ev1 e x = ev1 e2 x
theorem evs_congr : ∀ {l : List Operand}, AgreeOn e e2 l → evs e l = evs e2 l
  | [], _ => rfl
  | x :: l, hc => by
    unfold evs
    rw [hc x (by simp), evs_congr (l := l) fun y hy => hc y (by simp [hy])]
theorem evps_congr : ∀ {l : List (Nat × Operand)}, AgreeOn e e2 (l.map (·.2)) → evps e l = evps e2 l
  | [], _ => rfl
  | (i, x) :: l, hc => by
    unfold evps
    rw [hc x (by simp), evps_congr (l := l) fun y hy => hc y (by simp only [List.map_cons, List.mem_cons]; exact .inr hy)]
theorem optInt_congr {x : Option Operand} (hc : AgreeOn e e2 x.toList) : optInt e x = optInt e2 x := by
  cases x with
  | none => rfl
  | some y => simp only [optInt]; rw [hc y (by simp)]
theorem qop_congr {o : Op} (hc : AgreeOn e e2 o.operands.toList) : qop T o e h = qop T o e2 h := by
  cases o with
  | call c =>
    obtain ⟨cl, args, ats⟩ := c
    cases cl with
    | builtin b =>
      have : evs e args.toList = evs e2 args.toList := evs_congr fun x hx => hc x (by simpa [Op.operands, Call.operands] using hx)
      cases b <;> simp only [qop, this]
    | _ => rfl
  | build t ps =>
    have : evps e ps.toList = evps e2 ps.toList := evps_congr fun x hx => hc x (by simpa [Op.operands] using hx)
    simp only [qop, this]
  | makeFunc fn f c =>
    have : evs e c.toList = evs e2 c.toList := evs_congr fun x hx => hc x (by simp only [Op.operands, Array.toList_append, List.mem_append]; exact .inr hx)
    cases fn <;> simp only [qop, this]
  | slice t x l hh m =>
    have h1 := hc x (by simp [Op.operands])
    have h2 : optInt e l = optInt e2 l := optInt_congr fun y hy => hc y (by simp [Op.operands]; simp at hy; simp [hy])
    have h3 : optInt e hh = optInt e2 hh := optInt_congr fun y hy => hc y (by simp [Op.operands]; simp at hy; simp [hy])
    have h4 : optInt e m = optInt e2 m := optInt_congr fun y hy => hc y (by simp [Op.operands]; simp at hy; simp [hy])
    simp only [qop, h1, h2, h3, h4]
  | move x => simp only [qop]; exact hc x (by simp [Op.operands])
  | assign x => simp only [qop]; exact hc x (by simp [Op.operands])
  | pick c x y => simp only [qop, hc c (by simp [Op.operands]), hc x (by simp [Op.operands]), hc y (by simp [Op.operands])]
  | load t x => simp only [qop, hc x (by simp [Op.operands])]
  | nilCheck x => simp only [qop, hc x (by simp [Op.operands])]
  | binOp op xt x y yt => simp only [qop, hc x (by simp [Op.operands]), hc y (by simp [Op.operands])]
  | unOp op t x => cases op <;> simp only [qop, hc x (by simp [Op.operands])]
  | convert s d x => simp only [qop, hc x (by simp [Op.operands])]
  | makeInterface t x => simp only [qop, hc x (by simp [Op.operands])]
  | typeAssert x xt t ok => cases ok <;> simp only [qop, hc x (by simp [Op.operands])]
  | fieldAddr t x f => simp only [qop, hc x (by simp [Op.operands])]
  | field t x f => simp only [qop, hc x (by simp [Op.operands])]
  | indexAddr t x y => simp only [qop, hc x (by simp [Op.operands]), hc y (by simp [Op.operands])]
  | index t x y => simp only [qop, hc x (by simp [Op.operands]), hc y (by simp [Op.operands])]
  | lookup t x y ok => simp only [qop, hc x (by simp [Op.operands]), hc y (by simp [Op.operands])]
  | extract x n => simp only [qop, hc x (by simp [Op.operands])]
  | _ => rfl
theorem aop_congr {o : Op} {s : Nat} (hc : AgreeOn e e2 o.operands.toList) : aop T o e s = aop T o e2 s := by
  cases o with
  | box t x => simp only [aop, hc x (by simp [Op.operands])]
  | buildSlice t n ps =>
    have : evps e ps.toList = evps e2 ps.toList := evps_congr fun x hx => hc x (by simpa [Op.operands] using hx)
    simp only [aop, this]
  | makeSlice t x y => simp only [aop, hc x (by simp [Op.operands]), hc y (by simp [Op.operands])]
  | makeMap t r => cases r <;> rfl
  | _ => rfl
theorem wop_congr {o : Op} {K : AV → Hp → Bool} (hc : AgreeOn e e2 o.operands.toList) : wop T o e h K = wop T o e2 h K := by
  cases o with
  | call c =>
    obtain ⟨cl, args, ats⟩ := c
    cases cl with
    | builtin b =>
      have : evs e args.toList = evs e2 args.toList := evs_congr fun x hx => hc x (by simpa [Op.operands, Call.operands] using hx)
      cases b <;> simp only [wop, this]
    | _ => rfl
  | store t x y => simp only [wop, hc x (by simp [Op.operands]), hc y (by simp [Op.operands])]
  | mapUpdate t x y z => simp only [wop, hc x (by simp [Op.operands]), hc y (by simp [Op.operands]), hc z (by simp [Op.operands])]
  | insert t x y z => simp only [wop, hc x (by simp [Op.operands]), hc y (by simp [Op.operands]), hc z (by simp [Op.operands])]
  | range t x => simp only [wop, hc x (by simp [Op.operands])]
  | next x b => cases b <;> simp only [wop, hc x (by simp [Op.operands])]
  | entry x => simp only [wop, hc x (by simp [Op.operands])]
  | _ => rfl
theorem opF_congr {o : Op} {ih : EvT} {K : AV → Hp → Bool} (hc : AgreeOn e e2 o.operands.toList) : opF T ih o e h K = opF T ih o e2 h K := by
  unfold opF
  rw [qop_congr hc, aop_congr hc]
  split
  · rfl
  · split
    · rfl
    · split
      · rename_i c args ats _ _
        have h1 := hc c (by simp [Op.operands, Call.operands])
        have : evs e args.toList = evs e2 args.toList := evs_congr fun x hx => hc x (by simp only [Op.operands, Call.operands, Array.toList_append, List.mem_append]; exact .inr hx)
        rw [h1, this]
      · exact wop_congr hc
theorem qlock_congr {o : Op} (hc : AgreeOn e e2 o.operands.toList) : qlock o e = qlock o e2 := by
  cases o with
  | call c =>
    obtain ⟨cl, args, ats⟩ := c
    cases cl with
    | builtin b =>
      have : evs e args.toList = evs e2 args.toList := evs_congr fun x hx => hc x (by simpa [Op.operands, Call.operands] using hx)
      cases b <;> simp only [qlock, this]
    | _ => rfl
  | load t x => simp only [qlock, hc x (by simp [Op.operands])]
  | lookup t x y ok => simp only [qlock, hc x (by simp [Op.operands])]
  | convert s d x => simp only [qlock, hc x (by simp [Op.operands])]
  | _ => rfl
/-- What of the memory such an operation reads. -/
theorem qop_heap {h2 : Hp} {o : Op} (hh : ∀ s, qlock o e = some s → h2.get s = h.get s) : qop T o e h2 = qop T o e h := by
  cases o with
  | load t x =>
    simp only [qop]
    cases hx : ev1 e x with
    | none => rfl
    | some p =>
      simp only
      cases T.ty t with
      | none => rfl
      | some i =>
        simp only
        have : ldA h2 p i.z.length = ldA h p i.z.length := by
          cases p <;> try rfl
          rename_i s off
          have := hh s (by simp [qlock, hx])
          simp only [ldA, this]
        rw [this]
  | lookup t x y ok =>
    simp only [qop]
    cases hx : ev1 e x with
    | none => rfl
    | some p =>
      cases p <;> try rfl
      rename_i s
      have := hh s (by simp [qlock, hx])
      simp only [this]
  | convert s d x =>
    simp only [qop]
    cases T.ty s with
    | none => rfl
    | some j =>
      cases T.ty d with
      | none => rfl
      | some i =>
        simp only
        cases hx : ev1 e x with
        | none => cases i.sh <;> rfl
        | some p =>
          cases p <;> cases i.sh <;> try rfl
          rename_i sl off n c
          have := hh sl (by simp [qlock, hx])
          simp only [elemsA, this]
  | call c =>
    obtain ⟨cl, args, ats⟩ := c
    cases cl with
    | builtin b =>
      cases b <;> try rfl
      simp only [qop]
      have key : ∀ v, evs e args.toList = some [v] → lenA h2 v = lenA h v := by
        intro v hx
        cases v <;> try rfl
        rename_i s
        have := hh s (by simp [qlock, hx])
        simp only [lenA, this]
      generalize evs e args.toList = q at key
      generalize ats.toList = tl
      rcases tl with _ | ⟨t, _ | ⟨t2, tl⟩⟩ <;> rcases q with _ | ⟨_ | ⟨v, _ | ⟨v2, l⟩⟩⟩ <;> try rfl
      simp only [key v rfl]
    | _ => rfl
  | unOp op t x => cases op <;> rfl
  | makeFunc fn f c => cases fn <;> rfl
  | typeAssert x xt t ok => cases ok <;> rfl
  | _ => rfl
end congr
end Go.Proofs.YtjpkccofeafkbaaGreat.Pvx
