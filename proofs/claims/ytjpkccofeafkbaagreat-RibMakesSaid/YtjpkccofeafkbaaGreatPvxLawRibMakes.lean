/- Every rib is made as the text says: the law RibMakes answers true for every argument, without conditions. -/
import Derived.Test.YtjpkccofeafkbaaGreatRows
import Derived.Test.YtjpkccofeafkbaaGreatPvxC3
import Derived.Test.YtjpkccofeafkbaaGreatPvxR3
import Derived.WalkKit
import Derived.ProofKit
import Derived.OpenShut
import Derived.ShutString
import Derived.ChangeOld
import Derived.Below
import Derived.SizedLaws
import Derived.Lib.SmallJoins
set_option linter.unusedSimpArgs false
namespace Go.Proofs.YtjpkccofeafkbaaGreat.Pvx.ribMakes
open Go.ChangeShapes Go.WideShapes Go.ChangeAt Go.RowKit Go.Joins
open Go.Proofs.YtjpkccofeafkbaaGreat
set_option linter.unusedVariables false
theorem cells24 : Tryz.prog.cellsOf 24 = 3 := by kernel_rfl
theorem own : ownKnob Tryz.prog.godebug = none := by kernel_rfl
theorem walk {a b c : Int} (wa : (Lit.int .u32 a).wf = true) (wb : (Lit.int .u32 b).wf = true) (wc : (Lit.int .u32 c).wf = true) (w : World) : Calls Tryz.prog 3 #[.agg #[.int .u32 a, .int .u32 b, .int .u32 c]] w fun e w' => e = .returned (.bool true) ∧ Below w.heap.size w w' := by
  have h : Fn Tryz.prog 3 [.agg #[.int .u32 a, .int .u32 b, .int .u32 c]] w fun v w' => v = .bool true ∧ Below w.heap.size w w' :=
    call_yes n3bOK (vs := [.agg [.int .u32 a, .int .u32 b, .int .u32 c]])
      (VRs.cons (by simp only [VR]; exact ⟨[.int .u32 a, .int .u32 b, .int .u32 c], rfl, VRs.cons (by simp [VR]) (VRs.cons (by simp [VR]) (VRs.cons (by simp [VR]) VRs.nil)), by intro u hu; simp at hu; rcases hu with rfl | rfl | rfl <;> rfl⟩) VRs.nil)
      (n3All (bounds_u32 wa).1 (bounds_u32 wb).1 (bounds_u32 wc).1)
  exact Calls.mono h fun e w' ⟨v, he, hv, hB⟩ => ⟨by rw [he, hv], hB⟩
theorem selfReads {H : Type} {enc : TypeId × Value → H} (W' : World) (b : Nat) (sp : Nat → Bool) (hd : Bool) (x y f : Int) (wx : (Lit.int .u32 x).wf = true) (wy : (Lit.int .u32 y).wf = true) (wf : (Lit.int .u32 f).wf = true) :
    DataW.Trod enc Tryz.prog W' b sp hd 24 (.agg #[.int .u32 x, .int .u32 y, .int .u32 f]) (.agg [.lit (.int .u32 x), .lit (.int .u32 y), .lit (.int .u32 f)]) [] := by
  simpa using shut_agg3 (enc := enc) (w := W') (base := b) (spare := sp) (held := hd) (y0 := (.lit (.int .u32 x), [])) (y1 := (.lit (.int .u32 y), [])) (y2 := (.lit (.int .u32 f), [])) Tryz.underlying24 (by kernel_rfl) cells24 ⟨1, by simp [DataW.trod, Tryz.underlying22, wx]⟩ ⟨1, by simp [DataW.trod, Tryz.underlying22, wy]⟩ ⟨1, by simp [DataW.trod, Tryz.underlying22, wf]⟩
set_option maxRecDepth 100000 in
theorem lifted (os : Os) (started : os.Started) (H : Type) (enc : TypeId × Value → H) :
    ReturnsInHanded {} Tryz.checked os 3 .any (Rows.ribMakesSpec.pre6 enc Tryz.prog Tryz.f3 Rows.ribMakesRow.domain false) (Rows.ribMakesSpec.post enc Tryz.prog Tryz.f3 false true false false) := by
  refine returnsInHanded_of_change_sized (C := Tryz.checked) own started (by kernel_rfl) Tryz.func3
    (ChangeSpec.witness6 (enc := enc) (C := Tryz.checked) false ⟨#[], #[.agg #[.int .u32 0, .int .u32 0, .int .u32 0]], []⟩ 8 (by kernel_rfl) (by kernel_rfl) (by kernel_rfl) (by kernel_rfl)) ?_
  intro W base args ds gs before hval0 hW hcnd hsz0 _
  have hval : ∀ (j : Nat) t v, Tryz.f3.params[j]? = some t → args[j]? = some v → Value.okWide Tryz.prog W .any base t v := hval0
  have hW' := hW
  obtain ⟨p, q, hA0, hV, rfl, hfz, hnd⟩ := hW
  have hA : DataW.TrodAll enc Tryz.prog W 0 (fun _ => true) true Tryz.f3.params.toList args.toList ds p := hA0
  rw [Tryz.params3] at hA hval
  obtain ⟨v0, vs0, d0, ds0, p0, q0, hargs, rfl, rfl, h0, r0⟩ := trodAll_cons hA
  obtain ⟨rfl, rfl, rfl⟩ := trodAll_nil r0
  obtain rfl : args = #[v0] := by cases args; simp_all
  obtain ⟨rfl, rfl⟩ := trodVars_none hV
  obtain ⟨c0, c1, c2, y0, y1, y2, m, rfl, rfl, rfl, hy0, hy1, hy2⟩ := open_agg3 Tryz.underlying24 (by kernel_rfl) cells24 (hval 0 24 v0 rfl rfl) h0
  obtain ⟨a, e0, rfl, wa⟩ := DataW.trod_int Tryz.underlying22 hy0
  obtain ⟨b, e1, rfl, wb⟩ := DataW.trod_int Tryz.underlying22 hy1
  obtain ⟨c, e2, rfl, wc⟩ := DataW.trod_int Tryz.underlying22 hy2
  simp at e0 e1 e2
  subst e0 e1 e2
  clear hA0 hval0 hsz0
  refine (walk wa wb wc W).mono fun e W' ⟨he, bel⟩ => ?_
  subst he
  exact ⟨_, rfl, _, _, _, [], _, [], hW', trodAll_mk1 (shut_bool Tryz.underlying4 _), (trodAll_cons_mk (selfReads _ _ _ _ a b c wa wb wc) trodAll_mk0), rfl, bel.frame _, fun h => by cases h⟩
theorem over : Rows.ribMakesRow.holds Tryz.pinned (OpenSpec.ofChange Rows.ribMakesSpec) :=
  OpenClaim.holds_of_wide 3 Tryz.f3 rfl rfl rfl rfl rfl rfl rfl ⟨rfl, rfl, rfl, rfl, rfl⟩ rfl rfl rfl rfl rfl n3Name Tryz.func3 n3Closed
    (of_decide_eq_true (by kernel_rfl)) (by unfold Func.isWrapper; first | (rw [if_pos (by decide +kernel)]; kernel_rfl) | (rw [if_neg (by decide +kernel)]; exact ⟨rfl, rfl⟩))
    (fun os started H enc _ => lifted os started H enc)
theorem proved : Rows.RibMakesSaid := over
#print axioms proved
end Go.Proofs.YtjpkccofeafkbaaGreat.Pvx.ribMakes
