/- Numbers: the operations on them, each at what it comes to. Over any program. -/
import Derived.Test.YtjpkccofeafkbaaGreatPvxU
set_option linter.unusedSimpArgs false
namespace Go.Proofs.YtjpkccofeafkbaaGreat.Pvx
open Go.RowKit
set_option linter.unusedVariables false
theorem TI.of {P : Program} {t : TypeId} {agg : Bool} {z : List Value} {by_ : Nat} (ha : ∀ w, (isAgg t).run P w = .ok agg w) (h : (P.info? t).map (fun i => (i.size, i.zero, i.bytes)) = some (z.length, some (valOf agg z), by_)) (h1 : agg = false → z.length = 1) (hc : z.all Value.oneCell' = true) : TI P t agg z by_ := by
  obtain ⟨i, hi, h⟩ := Option.map_eq_some_iff.1 h
  exact TI.mk' ha hi h h1 (fun v hv => List.all_eq_true.1 hc v hv)
theorem run_equalIn_bool {P : Program} {w : World} {t : TypeId} (hb : P.underlying t = some .bool) (a b : Bool) (n : Nat) : (Op.equalIn (n + 1) t (.bool a) (.bool b)).run P w = .ok (a == b) w := by
  simp [Op.equalIn, run_underlying hb]
theorem run_equal_bool {P : Program} {w : World} {t : TypeId} (hb : P.underlying t = some .bool) (a b : Bool) : (Op.equal t (.bool a) (.bool b)).run P w = .ok (a == b) w := run_equalIn_bool hb a b 9999
section
variable {P : Program} {e : Env} {w : World} {ty : TypeId} {xt yt : TypeId} {x y : Operand} {k : IntKind} {a b c : Int} {t : Bool}
theorem r_eq (hx : evalE e x = .int k a) (hy : evalE e y = .int k b) (hv : (a == b) = t) : Ran P (.binOp .eql xt x y yt) ty e w (.bool t) := fun _ _ _ _ => by
  subst hv; simp [execOp, eqGuard, binOp, hx, hy, Op.intCmp]
theorem r_ne (hx : evalE e x = .int k a) (hy : evalE e y = .int k b) (hv : (a != b) = t) : Ran P (.binOp .neq xt x y yt) ty e w (.bool t) := fun _ _ _ _ => by
  subst hv; simp [execOp, eqGuard, binOp, hx, hy, Op.intCmp]
theorem r_lt (hx : evalE e x = .int k a) (hy : evalE e y = .int k b) (hv : decide (a < b) = t) : Ran P (.binOp .lss xt x y yt) ty e w (.bool t) := fun _ _ _ _ => by
  subst hv; simp [execOp, eqGuard, binOp, hx, hy, Op.intCmp]
theorem r_le (hx : evalE e x = .int k a) (hy : evalE e y = .int k b) (hv : decide (a ≤ b) = t) : Ran P (.binOp .leq xt x y yt) ty e w (.bool t) := fun _ _ _ _ => by
  subst hv; simp [execOp, eqGuard, binOp, hx, hy, Op.intCmp]
theorem r_gt (hx : evalE e x = .int k a) (hy : evalE e y = .int k b) (hv : decide (a > b) = t) : Ran P (.binOp .gtr xt x y yt) ty e w (.bool t) := fun _ _ _ _ => by
  subst hv; simp [execOp, eqGuard, binOp, hx, hy, Op.intCmp]
theorem r_ge (hx : evalE e x = .int k a) (hy : evalE e y = .int k b) (hv : decide (a ≥ b) = t) : Ran P (.binOp .geq xt x y yt) ty e w (.bool t) := fun _ _ _ _ => by
  subst hv; simp [execOp, eqGuard, binOp, hx, hy, Op.intCmp]
theorem r_beq {a b : Bool} (hb : P.underlying xt = some .bool) (hx : evalE e x = .bool a) (hy : evalE e y = .bool b) (hv : (a == b) = t) : Ran P (.binOp .eql xt x y yt) ty e w (.bool t) := fun _ _ _ _ => by
  subst hv; simp [execOp, eqGuard, binOp, hx, hy, run_equal_bool hb]
theorem r_bne {a b : Bool} (hb : P.underlying xt = some .bool) (hx : evalE e x = .bool a) (hy : evalE e y = .bool b) (hv : (a != b) = t) : Ran P (.binOp .neq xt x y yt) ty e w (.bool t) := fun _ _ _ _ => by
  subst hv; simp only [execOp, eqGuard, binOp, hx, hy, Sem.run_bind, Sem.run_pure, run_equal_bool hb, Result.andThen_ok]; rfl
theorem r_add (hx : evalE e x = .int k a) (hy : evalE e y = .int k b) (hv : k.wrap (a + b) = c) : Ran P (.binOp .add xt x y yt) ty e w (.int k c) := fun _ _ _ _ => by
  subst hv; simp [execOp, eqGuard, binOp, hx, hy, Op.intArith]
theorem r_sub (hx : evalE e x = .int k a) (hy : evalE e y = .int k b) (hv : k.wrap (a - b) = c) : Ran P (.binOp .sub xt x y yt) ty e w (.int k c) := fun _ _ _ _ => by
  subst hv; simp [execOp, eqGuard, binOp, hx, hy, Op.intArith]
theorem r_mul (hx : evalE e x = .int k a) (hy : evalE e y = .int k b) (hv : k.wrap (a * b) = c) : Ran P (.binOp .mul xt x y yt) ty e w (.int k c) := fun _ _ _ _ => by
  subst hv; simp [execOp, eqGuard, binOp, hx, hy, Op.intArith]
theorem r_quo (hx : evalE e x = .int k a) (hy : evalE e y = .int k b) (hb : b ≠ 0) (hv : k.wrap (a.tdiv b) = c) : Ran P (.binOp .quo xt x y yt) ty e w (.int k c) := fun _ _ _ _ => by
  subst hv; simp [execOp, eqGuard, binOp, hx, hy, Op.intDiv, hb]
theorem r_rem (hx : evalE e x = .int k a) (hy : evalE e y = .int k b) (hb : b ≠ 0) (hv : a.tmod b = c) : Ran P (.binOp .rem xt x y yt) ty e w (.int k c) := fun _ _ _ _ => by
  subst hv; simp [execOp, eqGuard, binOp, hx, hy, Op.intDiv, hb]
theorem r_conv {src dst : TypeId} {k' : IntKind} {d : TypeDesc} (hs : P.underlying src = some d) (hd : P.underlying dst = some (.int k')) (hx : evalE e x = .int k a) (hv : k'.wrap a = c) : Ran P (.convert src dst x) ty e w (.int k' c) := fun _ _ _ _ => by
  subst hv; simp [execOp, convert, run_underlying hs, run_underlying hd, hx, Conv.intToInt]
end
theorem i64w {c : Int} (h1 : -9223372036854775808 ≤ c) (h2 : c ≤ 9223372036854775807) : IntKind.i64.wrap c = c := by
  simp only [IntKind.wrap, IntKind.bits, IntKind.signed]
  simp
  split <;> omega
theorem u32w {c : Int} (h1 : 0 ≤ c) (h2 : c < 4294967296) : IntKind.u32.wrap c = c := by
  simp only [IntKind.wrap, IntKind.bits, IntKind.signed]
  simp
  omega
theorem u8w {c : Int} (h1 : 0 ≤ c) (h2 : c < 256) : IntKind.u8.wrap c = c := by
  simp only [IntKind.wrap, IntKind.bits, IntKind.signed]
  simp
  omega
theorem eq_u32 (x y : UInt32) : ((x.toNat : Int) == (y.toNat : Int)) = (x == y) := by
  rw [Bool.eq_iff_iff, beq_iff_eq, beq_iff_eq, ← UInt32.toNat_inj]; omega
theorem ne_u32 (x y : UInt32) : ((x.toNat : Int) != (y.toNat : Int)) = (x != y) := by simp only [bne, eq_u32]
theorem lt_u32 (x y : UInt32) : decide ((x.toNat : Int) < (y.toNat : Int)) = decide (x < y) := by simp [UInt32.lt_iff_toNat_lt]
theorem le_u32 (x y : UInt32) : decide ((x.toNat : Int) ≤ (y.toNat : Int)) = decide (x ≤ y) := by simp [UInt32.le_iff_toNat_le]
theorem gt_u32 (x y : UInt32) : decide ((x.toNat : Int) > (y.toNat : Int)) = decide (x > y) := lt_u32 y x
theorem ge_u32 (x y : UInt32) : decide ((x.toNat : Int) ≥ (y.toNat : Int)) = decide (x ≥ y) := le_u32 y x
theorem eq_u16 (x y : UInt16) : ((x.toNat : Int) == (y.toNat : Int)) = (x == y) := by
  rw [Bool.eq_iff_iff, beq_iff_eq, beq_iff_eq, ← UInt16.toNat_inj]; omega
theorem ne_u16 (x y : UInt16) : ((x.toNat : Int) != (y.toNat : Int)) = (x != y) := by simp only [bne, eq_u16]
theorem lt_u16 (x y : UInt16) : decide ((x.toNat : Int) < (y.toNat : Int)) = decide (x < y) := by simp [UInt16.lt_iff_toNat_lt]
theorem le_u16 (x y : UInt16) : decide ((x.toNat : Int) ≤ (y.toNat : Int)) = decide (x ≤ y) := by simp [UInt16.le_iff_toNat_le]
theorem gt_u16 (x y : UInt16) : decide ((x.toNat : Int) > (y.toNat : Int)) = decide (x > y) := lt_u16 y x
theorem ge_u16 (x y : UInt16) : decide ((x.toNat : Int) ≥ (y.toNat : Int)) = decide (x ≥ y) := le_u16 y x
theorem eq_u8 (x y : UInt8) : ((x.toNat : Int) == (y.toNat : Int)) = (x == y) := by
  rw [Bool.eq_iff_iff, beq_iff_eq, beq_iff_eq, ← UInt8.toNat_inj]; omega
theorem ne_u8 (x y : UInt8) : ((x.toNat : Int) != (y.toNat : Int)) = (x != y) := by simp only [bne, eq_u8]
theorem lt_u8 (x y : UInt8) : decide ((x.toNat : Int) < (y.toNat : Int)) = decide (x < y) := by simp [UInt8.lt_iff_toNat_lt]
theorem le_u8 (x y : UInt8) : decide ((x.toNat : Int) ≤ (y.toNat : Int)) = decide (x ≤ y) := by simp [UInt8.le_iff_toNat_le]
theorem gt_u8 (x y : UInt8) : decide ((x.toNat : Int) > (y.toNat : Int)) = decide (x > y) := lt_u8 y x
theorem ge_u8 (x y : UInt8) : decide ((x.toNat : Int) ≥ (y.toNat : Int)) = decide (x ≥ y) := le_u8 y x
theorem eq_nat (x y : Nat) : ((x : Int) == (y : Int)) = (x == y) := by rw [Bool.eq_iff_iff]; simp; omega
theorem ne_nat (x y : Nat) : ((x : Int) != (y : Int)) = (x != y) := by simp only [bne, eq_nat]
theorem lt_nat (x y : Nat) : decide ((x : Int) < (y : Int)) = decide (x < y) := by simp
theorem le_nat (x y : Nat) : decide ((x : Int) ≤ (y : Int)) = decide (x ≤ y) := by simp
theorem gt_nat (x y : Nat) : decide ((x : Int) > (y : Int)) = decide (x > y) := lt_nat y x
theorem ge_nat (x y : Nat) : decide ((x : Int) ≥ (y : Int)) = decide (x ≥ y) := le_nat y x
theorem chk_some {x y : Int} (h : chk x = some y) : y = x ∧ IntKind.i64.wrap x = x := by
  unfold chk at h
  split at h
  · cases h; exact ⟨rfl, i64w (by omega) (by omega)⟩
  · cases h
theorem cond_some {α : Type} {c : Bool} {x y : Option α} {r : α} (h : (bif c then x else y) = some r) : (c = true ∧ x = some r) ∨ (c = false ∧ y = some r) := by
  cases c
  · exact .inr ⟨rfl, h⟩
  · exact .inl ⟨rfl, h⟩
end Go.Proofs.YtjpkccofeafkbaaGreat.Pvx
