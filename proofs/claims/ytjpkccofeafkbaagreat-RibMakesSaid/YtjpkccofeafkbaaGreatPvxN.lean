/- The unsigned kinds: sums, products, bits, shifts, conversions. Over any program. -/
import Derived.Test.YtjpkccofeafkbaaGreatPvxJ
set_option linter.unusedSimpArgs false
namespace Go.Proofs.YtjpkccofeafkbaaGreat.Pvx
open Go.RowKit
set_option linter.unusedVariables false
section
variable {P : Program} {e : Env} {w : World} {ty : TypeId} {xt yt : TypeId} {x y : Operand} {k k2 : IntKind} {a b c : Int}
theorem r_and (hx : evalE e x = .int k a) (hy : evalE e y = .int k b) (hv : k.wrap ((BitVec.ofInt k.bits a &&& BitVec.ofInt k.bits b).toNat : Int) = c) : Ran P (.binOp .and xt x y yt) ty e w (.int k c) := fun _ _ _ _ => by
  subst hv; simp [execOp, eqGuard, binOp, hx, hy, Op.intBits]
theorem r_or (hx : evalE e x = .int k a) (hy : evalE e y = .int k b) (hv : k.wrap ((BitVec.ofInt k.bits a ||| BitVec.ofInt k.bits b).toNat : Int) = c) : Ran P (.binOp .or xt x y yt) ty e w (.int k c) := fun _ _ _ _ => by
  subst hv; simp [execOp, eqGuard, binOp, hx, hy, Op.intBits]
theorem r_xor (hx : evalE e x = .int k a) (hy : evalE e y = .int k b) (hv : k.wrap ((BitVec.ofInt k.bits a ^^^ BitVec.ofInt k.bits b).toNat : Int) = c) : Ran P (.binOp .xor xt x y yt) ty e w (.int k c) := fun _ _ _ _ => by
  subst hv; simp [execOp, eqGuard, binOp, hx, hy, Op.intBits]
theorem r_andNot (hx : evalE e x = .int k a) (hy : evalE e y = .int k b) (hv : k.wrap ((BitVec.ofInt k.bits a &&& ~~~ BitVec.ofInt k.bits b).toNat : Int) = c) : Ran P (.binOp .andNot xt x y yt) ty e w (.int k c) := fun _ _ _ _ => by
  subst hv; simp [execOp, eqGuard, binOp, hx, hy, Op.intBits]
theorem r_shl (hx : evalE e x = .int k a) (hy : evalE e y = .int k2 b) (h0 : 0 ≤ b) (hv : k.wrap (a * 2 ^ (min b.toNat k.bits)) = c) : Ran P (.binOp .shl xt x y yt) ty e w (.int k c) := fun _ _ _ _ => by
  have : ¬ b < 0 := by omega
  subst hv; simp [execOp, eqGuard, binOp, hx, hy, Op.shift, this]
theorem r_shr (hx : evalE e x = .int k a) (hy : evalE e y = .int k2 b) (h0 : 0 ≤ b) (hv : a.fdiv (2 ^ (min b.toNat k.bits)) = c) : Ran P (.binOp .shr xt x y yt) ty e w (.int k c) := fun _ _ _ _ => by
  have : ¬ b < 0 := by omega
  subst hv; simp [execOp, eqGuard, binOp, hx, hy, Op.shift, this]
end
theorem u8wrap (c : Int) : IntKind.u8.wrap c = c % 256 := by
  simp only [IntKind.wrap, IntKind.bits, IntKind.signed]
  simp
theorem add_u8 (x y : UInt8) : IntKind.u8.wrap ((x.toNat : Int) + (y.toNat : Int)) = ((x + y).toNat : Int) := by rw [u8wrap, UInt8.toNat_add]; omega
theorem sub_u8 (x y : UInt8) : IntKind.u8.wrap ((x.toNat : Int) - (y.toNat : Int)) = ((x - y).toNat : Int) := by have := x.toNat_lt; have := y.toNat_lt; rw [u8wrap, UInt8.toNat_sub]; omega
theorem mul_u8 (x y : UInt8) : IntKind.u8.wrap ((x.toNat : Int) * (y.toNat : Int)) = ((x * y).toNat : Int) := by rw [u8wrap, UInt8.toNat_mul]; simp
theorem and_u8 (x y : UInt8) : IntKind.u8.wrap ((BitVec.ofInt IntKind.u8.bits (x.toNat : Int) &&& BitVec.ofInt IntKind.u8.bits (y.toNat : Int)).toNat : Int) = ((x &&& y).toNat : Int) := by
  have h1 : BitVec.ofInt IntKind.u8.bits (x.toNat : Int) = x.toBitVec := by apply BitVec.eq_of_toNat_eq; have := x.toNat_lt; simp [IntKind.bits]
  have h2 : BitVec.ofInt IntKind.u8.bits (y.toNat : Int) = y.toBitVec := by apply BitVec.eq_of_toNat_eq; have := y.toNat_lt; simp [IntKind.bits]
  rw [h1, h2]
  have h3 : (x.toBitVec &&& y.toBitVec).toNat = (x &&& y).toNat := rfl
  have h4 := (x &&& y).toNat_lt
  rw [u8wrap]
  exact (congrArg (fun (n : Nat) => (n : Int) % 256) h3).trans (by omega)
theorem or_u8 (x y : UInt8) : IntKind.u8.wrap ((BitVec.ofInt IntKind.u8.bits (x.toNat : Int) ||| BitVec.ofInt IntKind.u8.bits (y.toNat : Int)).toNat : Int) = ((x ||| y).toNat : Int) := by
  have h1 : BitVec.ofInt IntKind.u8.bits (x.toNat : Int) = x.toBitVec := by apply BitVec.eq_of_toNat_eq; have := x.toNat_lt; simp [IntKind.bits]
  have h2 : BitVec.ofInt IntKind.u8.bits (y.toNat : Int) = y.toBitVec := by apply BitVec.eq_of_toNat_eq; have := y.toNat_lt; simp [IntKind.bits]
  rw [h1, h2]
  have h3 : (x.toBitVec ||| y.toBitVec).toNat = (x ||| y).toNat := rfl
  have h4 := (x ||| y).toNat_lt
  rw [u8wrap]
  exact (congrArg (fun (n : Nat) => (n : Int) % 256) h3).trans (by omega)
theorem xor_u8 (x y : UInt8) : IntKind.u8.wrap ((BitVec.ofInt IntKind.u8.bits (x.toNat : Int) ^^^ BitVec.ofInt IntKind.u8.bits (y.toNat : Int)).toNat : Int) = ((x ^^^ y).toNat : Int) := by
  have h1 : BitVec.ofInt IntKind.u8.bits (x.toNat : Int) = x.toBitVec := by apply BitVec.eq_of_toNat_eq; have := x.toNat_lt; simp [IntKind.bits]
  have h2 : BitVec.ofInt IntKind.u8.bits (y.toNat : Int) = y.toBitVec := by apply BitVec.eq_of_toNat_eq; have := y.toNat_lt; simp [IntKind.bits]
  rw [h1, h2]
  have h3 : (x.toBitVec ^^^ y.toBitVec).toNat = (x ^^^ y).toNat := rfl
  have h4 := (x ^^^ y).toNat_lt
  rw [u8wrap]
  exact (congrArg (fun (n : Nat) => (n : Int) % 256) h3).trans (by omega)
theorem u16wrap (c : Int) : IntKind.u16.wrap c = c % 65536 := by
  simp only [IntKind.wrap, IntKind.bits, IntKind.signed]
  simp
theorem add_u16 (x y : UInt16) : IntKind.u16.wrap ((x.toNat : Int) + (y.toNat : Int)) = ((x + y).toNat : Int) := by rw [u16wrap, UInt16.toNat_add]; omega
theorem sub_u16 (x y : UInt16) : IntKind.u16.wrap ((x.toNat : Int) - (y.toNat : Int)) = ((x - y).toNat : Int) := by have := x.toNat_lt; have := y.toNat_lt; rw [u16wrap, UInt16.toNat_sub]; omega
theorem mul_u16 (x y : UInt16) : IntKind.u16.wrap ((x.toNat : Int) * (y.toNat : Int)) = ((x * y).toNat : Int) := by rw [u16wrap, UInt16.toNat_mul]; simp
theorem and_u16 (x y : UInt16) : IntKind.u16.wrap ((BitVec.ofInt IntKind.u16.bits (x.toNat : Int) &&& BitVec.ofInt IntKind.u16.bits (y.toNat : Int)).toNat : Int) = ((x &&& y).toNat : Int) := by
  have h1 : BitVec.ofInt IntKind.u16.bits (x.toNat : Int) = x.toBitVec := by apply BitVec.eq_of_toNat_eq; have := x.toNat_lt; simp [IntKind.bits]
  have h2 : BitVec.ofInt IntKind.u16.bits (y.toNat : Int) = y.toBitVec := by apply BitVec.eq_of_toNat_eq; have := y.toNat_lt; simp [IntKind.bits]
  rw [h1, h2]
  have h3 : (x.toBitVec &&& y.toBitVec).toNat = (x &&& y).toNat := rfl
  have h4 := (x &&& y).toNat_lt
  rw [u16wrap]
  exact (congrArg (fun (n : Nat) => (n : Int) % 65536) h3).trans (by omega)
theorem or_u16 (x y : UInt16) : IntKind.u16.wrap ((BitVec.ofInt IntKind.u16.bits (x.toNat : Int) ||| BitVec.ofInt IntKind.u16.bits (y.toNat : Int)).toNat : Int) = ((x ||| y).toNat : Int) := by
  have h1 : BitVec.ofInt IntKind.u16.bits (x.toNat : Int) = x.toBitVec := by apply BitVec.eq_of_toNat_eq; have := x.toNat_lt; simp [IntKind.bits]
  have h2 : BitVec.ofInt IntKind.u16.bits (y.toNat : Int) = y.toBitVec := by apply BitVec.eq_of_toNat_eq; have := y.toNat_lt; simp [IntKind.bits]
  rw [h1, h2]
  have h3 : (x.toBitVec ||| y.toBitVec).toNat = (x ||| y).toNat := rfl
  have h4 := (x ||| y).toNat_lt
  rw [u16wrap]
  exact (congrArg (fun (n : Nat) => (n : Int) % 65536) h3).trans (by omega)
theorem xor_u16 (x y : UInt16) : IntKind.u16.wrap ((BitVec.ofInt IntKind.u16.bits (x.toNat : Int) ^^^ BitVec.ofInt IntKind.u16.bits (y.toNat : Int)).toNat : Int) = ((x ^^^ y).toNat : Int) := by
  have h1 : BitVec.ofInt IntKind.u16.bits (x.toNat : Int) = x.toBitVec := by apply BitVec.eq_of_toNat_eq; have := x.toNat_lt; simp [IntKind.bits]
  have h2 : BitVec.ofInt IntKind.u16.bits (y.toNat : Int) = y.toBitVec := by apply BitVec.eq_of_toNat_eq; have := y.toNat_lt; simp [IntKind.bits]
  rw [h1, h2]
  have h3 : (x.toBitVec ^^^ y.toBitVec).toNat = (x ^^^ y).toNat := rfl
  have h4 := (x ^^^ y).toNat_lt
  rw [u16wrap]
  exact (congrArg (fun (n : Nat) => (n : Int) % 65536) h3).trans (by omega)
theorem u32wrap (c : Int) : IntKind.u32.wrap c = c % 4294967296 := by
  simp only [IntKind.wrap, IntKind.bits, IntKind.signed]
  simp
theorem add_u32 (x y : UInt32) : IntKind.u32.wrap ((x.toNat : Int) + (y.toNat : Int)) = ((x + y).toNat : Int) := by rw [u32wrap, UInt32.toNat_add]; omega
theorem sub_u32 (x y : UInt32) : IntKind.u32.wrap ((x.toNat : Int) - (y.toNat : Int)) = ((x - y).toNat : Int) := by have := x.toNat_lt; have := y.toNat_lt; rw [u32wrap, UInt32.toNat_sub]; omega
theorem mul_u32 (x y : UInt32) : IntKind.u32.wrap ((x.toNat : Int) * (y.toNat : Int)) = ((x * y).toNat : Int) := by rw [u32wrap, UInt32.toNat_mul]; simp
theorem and_u32 (x y : UInt32) : IntKind.u32.wrap ((BitVec.ofInt IntKind.u32.bits (x.toNat : Int) &&& BitVec.ofInt IntKind.u32.bits (y.toNat : Int)).toNat : Int) = ((x &&& y).toNat : Int) := by
  have h1 : BitVec.ofInt IntKind.u32.bits (x.toNat : Int) = x.toBitVec := by apply BitVec.eq_of_toNat_eq; have := x.toNat_lt; simp [IntKind.bits]
  have h2 : BitVec.ofInt IntKind.u32.bits (y.toNat : Int) = y.toBitVec := by apply BitVec.eq_of_toNat_eq; have := y.toNat_lt; simp [IntKind.bits]
  rw [h1, h2]
  have h3 : (x.toBitVec &&& y.toBitVec).toNat = (x &&& y).toNat := rfl
  have h4 := (x &&& y).toNat_lt
  rw [u32wrap]
  exact (congrArg (fun (n : Nat) => (n : Int) % 4294967296) h3).trans (by omega)
theorem or_u32 (x y : UInt32) : IntKind.u32.wrap ((BitVec.ofInt IntKind.u32.bits (x.toNat : Int) ||| BitVec.ofInt IntKind.u32.bits (y.toNat : Int)).toNat : Int) = ((x ||| y).toNat : Int) := by
  have h1 : BitVec.ofInt IntKind.u32.bits (x.toNat : Int) = x.toBitVec := by apply BitVec.eq_of_toNat_eq; have := x.toNat_lt; simp [IntKind.bits]
  have h2 : BitVec.ofInt IntKind.u32.bits (y.toNat : Int) = y.toBitVec := by apply BitVec.eq_of_toNat_eq; have := y.toNat_lt; simp [IntKind.bits]
  rw [h1, h2]
  have h3 : (x.toBitVec ||| y.toBitVec).toNat = (x ||| y).toNat := rfl
  have h4 := (x ||| y).toNat_lt
  rw [u32wrap]
  exact (congrArg (fun (n : Nat) => (n : Int) % 4294967296) h3).trans (by omega)
theorem xor_u32 (x y : UInt32) : IntKind.u32.wrap ((BitVec.ofInt IntKind.u32.bits (x.toNat : Int) ^^^ BitVec.ofInt IntKind.u32.bits (y.toNat : Int)).toNat : Int) = ((x ^^^ y).toNat : Int) := by
  have h1 : BitVec.ofInt IntKind.u32.bits (x.toNat : Int) = x.toBitVec := by apply BitVec.eq_of_toNat_eq; have := x.toNat_lt; simp [IntKind.bits]
  have h2 : BitVec.ofInt IntKind.u32.bits (y.toNat : Int) = y.toBitVec := by apply BitVec.eq_of_toNat_eq; have := y.toNat_lt; simp [IntKind.bits]
  rw [h1, h2]
  have h3 : (x.toBitVec ^^^ y.toBitVec).toNat = (x ^^^ y).toNat := rfl
  have h4 := (x ^^^ y).toNat_lt
  rw [u32wrap]
  exact (congrArg (fun (n : Nat) => (n : Int) % 4294967296) h3).trans (by omega)
theorem u64wrap (c : Int) : IntKind.u64.wrap c = c % 18446744073709551616 := by
  simp only [IntKind.wrap, IntKind.bits, IntKind.signed]
  simp
theorem add_u64 (x y : UInt64) : IntKind.u64.wrap ((x.toNat : Int) + (y.toNat : Int)) = ((x + y).toNat : Int) := by rw [u64wrap, UInt64.toNat_add]; omega
theorem sub_u64 (x y : UInt64) : IntKind.u64.wrap ((x.toNat : Int) - (y.toNat : Int)) = ((x - y).toNat : Int) := by have := x.toNat_lt; have := y.toNat_lt; rw [u64wrap, UInt64.toNat_sub]; omega
theorem mul_u64 (x y : UInt64) : IntKind.u64.wrap ((x.toNat : Int) * (y.toNat : Int)) = ((x * y).toNat : Int) := by rw [u64wrap, UInt64.toNat_mul]; simp
theorem and_u64 (x y : UInt64) : IntKind.u64.wrap ((BitVec.ofInt IntKind.u64.bits (x.toNat : Int) &&& BitVec.ofInt IntKind.u64.bits (y.toNat : Int)).toNat : Int) = ((x &&& y).toNat : Int) := by
  have h1 : BitVec.ofInt IntKind.u64.bits (x.toNat : Int) = x.toBitVec := by apply BitVec.eq_of_toNat_eq; have := x.toNat_lt; simp [IntKind.bits]
  have h2 : BitVec.ofInt IntKind.u64.bits (y.toNat : Int) = y.toBitVec := by apply BitVec.eq_of_toNat_eq; have := y.toNat_lt; simp [IntKind.bits]
  rw [h1, h2]
  have h3 : (x.toBitVec &&& y.toBitVec).toNat = (x &&& y).toNat := rfl
  have h4 := (x &&& y).toNat_lt
  rw [u64wrap]
  exact (congrArg (fun (n : Nat) => (n : Int) % 18446744073709551616) h3).trans (by omega)
theorem or_u64 (x y : UInt64) : IntKind.u64.wrap ((BitVec.ofInt IntKind.u64.bits (x.toNat : Int) ||| BitVec.ofInt IntKind.u64.bits (y.toNat : Int)).toNat : Int) = ((x ||| y).toNat : Int) := by
  have h1 : BitVec.ofInt IntKind.u64.bits (x.toNat : Int) = x.toBitVec := by apply BitVec.eq_of_toNat_eq; have := x.toNat_lt; simp [IntKind.bits]
  have h2 : BitVec.ofInt IntKind.u64.bits (y.toNat : Int) = y.toBitVec := by apply BitVec.eq_of_toNat_eq; have := y.toNat_lt; simp [IntKind.bits]
  rw [h1, h2]
  have h3 : (x.toBitVec ||| y.toBitVec).toNat = (x ||| y).toNat := rfl
  have h4 := (x ||| y).toNat_lt
  rw [u64wrap]
  exact (congrArg (fun (n : Nat) => (n : Int) % 18446744073709551616) h3).trans (by omega)
theorem xor_u64 (x y : UInt64) : IntKind.u64.wrap ((BitVec.ofInt IntKind.u64.bits (x.toNat : Int) ^^^ BitVec.ofInt IntKind.u64.bits (y.toNat : Int)).toNat : Int) = ((x ^^^ y).toNat : Int) := by
  have h1 : BitVec.ofInt IntKind.u64.bits (x.toNat : Int) = x.toBitVec := by apply BitVec.eq_of_toNat_eq; have := x.toNat_lt; simp [IntKind.bits]
  have h2 : BitVec.ofInt IntKind.u64.bits (y.toNat : Int) = y.toBitVec := by apply BitVec.eq_of_toNat_eq; have := y.toNat_lt; simp [IntKind.bits]
  rw [h1, h2]
  have h3 : (x.toBitVec ^^^ y.toBitVec).toNat = (x ^^^ y).toNat := rfl
  have h4 := (x ^^^ y).toNat_lt
  rw [u64wrap]
  exact (congrArg (fun (n : Nat) => (n : Int) % 18446744073709551616) h3).trans (by omega)
theorem shr_nat (x n M : Nat) (h : 2 ^ n = M) (hn : n ≤ 64 := by decide) : ((x : Nat) : Int).fdiv (2 ^ (min (n : Int).toNat IntKind.i64.bits)) = ((x / M : Nat) : Int) := by
  subst h
  have h1 : min (n : Int).toNat IntKind.i64.bits = n := by simp [IntKind.bits]; omega
  rw [h1, Int.fdiv_eq_ediv_of_nonneg _ (by have := Int.pow_pos (n := 2) (m := n) (by decide); omega)]
  simp
theorem shl_nat (x n M : Nat) (h : 2 ^ n = M) (hk : decide (x * M ≤ 9223372036854775807) = true) (hn : n ≤ 64 := by decide) : IntKind.i64.wrap ((x : Int) * 2 ^ (min (n : Int).toNat IntKind.i64.bits)) = ((x * M : Nat) : Int) := by
  subst h
  have h1 : min (n : Int).toNat IntKind.i64.bits = n := by simp [IntKind.bits]; omega
  have h2 := of_decide_eq_true hk
  have h3 : ((x : Int) * 2 ^ n) = ((x * 2 ^ n : Nat) : Int) := by simp
  rw [h1, h3, i64w (by omega) (by omega)]
theorem bv64 {x : Nat} (h : x ≤ 9223372036854775807) : (BitVec.ofInt IntKind.i64.bits (x : Int)).toNat = x := by
  simp [IntKind.bits]; omega
theorem or_nat {x y : Nat} (h : (decide (x ≤ 9223372036854775807) && decide (y ≤ 9223372036854775807)) = true) : IntKind.i64.wrap ((BitVec.ofInt IntKind.i64.bits (x : Int) ||| BitVec.ofInt IntKind.i64.bits (y : Int)).toNat : Int) = ((x ||| y : Nat) : Int) := by
  simp only [Bool.and_eq_true, decide_eq_true_eq] at h
  rw [BitVec.toNat_or, bv64 h.1, bv64 h.2]
  have : x ||| y < 2 ^ 63 := Nat.or_lt_two_pow (by omega) (by omega)
  exact i64w (by omega) (by omega)
theorem and_nat {x y : Nat} (h : (decide (x ≤ 9223372036854775807) && decide (y ≤ 9223372036854775807)) = true) : IntKind.i64.wrap ((BitVec.ofInt IntKind.i64.bits (x : Int) &&& BitVec.ofInt IntKind.i64.bits (y : Int)).toNat : Int) = ((x &&& y : Nat) : Int) := by
  simp only [Bool.and_eq_true, decide_eq_true_eq] at h
  rw [BitVec.toNat_and, bv64 h.1, bv64 h.2]
  have : x &&& y < 2 ^ 63 := Nat.and_lt_two_pow _ (by omega)
  exact i64w (by omega) (by omega)
theorem xor_nat {x y : Nat} (h : (decide (x ≤ 9223372036854775807) && decide (y ≤ 9223372036854775807)) = true) : IntKind.i64.wrap ((BitVec.ofInt IntKind.i64.bits (x : Int) ^^^ BitVec.ofInt IntKind.i64.bits (y : Int)).toNat : Int) = ((x ^^^ y : Nat) : Int) := by
  simp only [Bool.and_eq_true, decide_eq_true_eq] at h
  rw [BitVec.toNat_xor, bv64 h.1, bv64 h.2]
  have : x ^^^ y < 2 ^ 63 := Nat.xor_lt_two_pow (by omega) (by omega)
  exact i64w (by omega) (by omega)
end Go.Proofs.YtjpkccofeafkbaaGreat.Pvx
