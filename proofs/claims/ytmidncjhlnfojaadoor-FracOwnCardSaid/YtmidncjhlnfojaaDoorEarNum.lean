/- About package frac: EarNum. -/
import Derived.Test.YtmidncjhlnfojaaDoorEarFn
set_option linter.all false
namespace Go.Ear
variable {P : Program}
theorem in_i64 {a : Int} (h : -9223372036854775808 ≤ a ∧ a ≤ 9223372036854775807) : IntKind.i64.wrap a = a := IntWalk.i64_in _ h
theorem in_u64 {a : Int} (h : 0 ≤ a ∧ a ≤ 18446744073709551615) : IntKind.u64.wrap a = a := IntWalk.u64_in _ h
theorem in_u32 {a : Int} (h : 0 ≤ a ∧ a ≤ 4294967295) : IntKind.u32.wrap a = a := IntWalk.u32_in _ h
theorem in_u8 {a : Int} (h : 0 ≤ a ∧ a ≤ 255) : IntKind.u8.wrap a = a := IntWalk.u8_in _ h
theorem in_i32 {a : Int} (h : -2147483648 ≤ a ∧ a ≤ 2147483647) : IntKind.i32.wrap a = a := IntWalk.i32_in _ h
theorem add_i64 {a b : Nat} (h : a + b ≤ 9223372036854775807) : IntKind.i64.wrap ((a : Int) + (b : Int)) = ((a + b : Nat) : Int) := (in_i64 (by omega)).trans (by omega)
theorem add_u64 {a b : Nat} (h : a + b ≤ 18446744073709551615) : IntKind.u64.wrap ((a : Int) + (b : Int)) = ((a + b : Nat) : Int) := (in_u64 (by omega)).trans (by omega)
theorem add_u32 {a b : Nat} (h : a + b ≤ 4294967295) : IntKind.u32.wrap ((a : Int) + (b : Int)) = ((a + b : Nat) : Int) := (in_u32 (by omega)).trans (by omega)
theorem sub_i64 {a b : Nat} (h : b ≤ a) (h2 : a ≤ 9223372036854775807) : IntKind.i64.wrap ((a : Int) - (b : Int)) = ((a - b : Nat) : Int) := (in_i64 (by omega)).trans (by omega)
theorem sub_u64 {a b : Nat} (h : b ≤ a) (h2 : a ≤ 18446744073709551615) : IntKind.u64.wrap ((a : Int) - (b : Int)) = ((a - b : Nat) : Int) := (in_u64 (by omega)).trans (by omega)
theorem sub_u32 {a b : Nat} (h : b ≤ a) (h2 : a ≤ 4294967295) : IntKind.u32.wrap ((a : Int) - (b : Int)) = ((a - b : Nat) : Int) := (in_u32 (by omega)).trans (by omega)
theorem mul_i64 {a b : Nat} (h : a * b ≤ 9223372036854775807) : IntKind.i64.wrap ((a : Int) * (b : Int)) = ((a * b : Nat) : Int) := by
  rw [← Int.natCast_mul]; exact in_i64 (by omega)
theorem mul_u64 {a b : Nat} (h : a * b ≤ 18446744073709551615) : IntKind.u64.wrap ((a : Int) * (b : Int)) = ((a * b : Nat) : Int) := by
  rw [← Int.natCast_mul]; exact in_u64 (by omega)
theorem quo_u64 {a b : Nat} (h : a ≤ 18446744073709551615) : IntKind.u64.wrap ((a : Int).tdiv (b : Int)) = ((a / b : Nat) : Int) := by
  have : (a : Int).tdiv (b : Int) = ((a / b : Nat) : Int) := rfl
  rw [this]
  have h2 := Nat.div_le_self a b
  generalize a / b = q at *
  exact in_u64 (by omega)
theorem quo_i64 {a b : Nat} (h : a ≤ 9223372036854775807) : IntKind.i64.wrap ((a : Int).tdiv (b : Int)) = ((a / b : Nat) : Int) := by
  have : (a : Int).tdiv (b : Int) = ((a / b : Nat) : Int) := rfl
  rw [this]
  have h2 := Nat.div_le_self a b
  generalize a / b = q at *
  exact in_i64 (by omega)
theorem rem_nat {a b : Nat} : (a : Int).tmod (b : Int) = ((a % b : Nat) : Int) := rfl
theorem conv_u32 {a : Nat} : IntKind.u32.wrap (a : Int) = ((a % 4294967296 : Nat) : Int) := by rw [IntKind.wrap_u32]; omega
theorem conv_u32' {a : Nat} (h : a < 4294967296) : IntKind.u32.wrap (a : Int) = (a : Int) := in_u32 (by omega)
theorem conv_u8' {a : Nat} (h : a < 256) : IntKind.u8.wrap (a : Int) = (a : Int) := in_u8 (by omega)
theorem conv_u64 {a : Nat} (h : a ≤ 18446744073709551615) : IntKind.u64.wrap (a : Int) = (a : Int) := in_u64 (by omega)
theorem conv_i64 {a : Nat} (h : a ≤ 9223372036854775807) : IntKind.i64.wrap (a : Int) = (a : Int) := in_i64 (by omega)
theorem conv_i32 {a : Nat} (h : a ≤ 2147483647) : IntKind.i32.wrap (a : Int) = (a : Int) := in_i32 (by omega)
theorem bits_pos (k : IntKind) : k.bits ≤ 64 := by cases k <;> decide
theorem shr_nat {k yk : IntKind} {a s : Nat} (hs : s ≤ k.bits) (w : World) : (Op.shift .shr k (a : Int) yk (s : Int)).run P w = .ok (.int k ((a / 2 ^ s : Nat) : Int)) w := by
  unfold Op.shift
  rw [if_neg (by omega)]
  simp only [Int.toNat_natCast, Nat.min_eq_left hs]
  have : ((a : Int).fdiv (2 ^ s)) = ((a / 2 ^ s : Nat) : Int) := by
    rw [show ((2 : Int) ^ s) = ((2 ^ s : Nat) : Int) by simp, Int.fdiv_eq_ediv_of_nonneg _ (Int.natCast_nonneg _)]
    exact (Int.natCast_ediv a (2 ^ s)).symm
  rw [this]; rfl
theorem shl_nat {k yk : IntKind} {a s : Nat} {r : Int} (hs : s ≤ k.bits) (hr : k.wrap ((a * 2 ^ s : Nat) : Int) = r) (w : World) : (Op.shift .shl k (a : Int) yk (s : Int)).run P w = .ok (.int k r) w := by
  unfold Op.shift
  rw [if_neg (by omega)]
  simp only [Int.toNat_natCast, Nat.min_eq_left hs]
  have : ((a : Int) * (2 ^ s)) = ((a * 2 ^ s : Nat) : Int) := by simp
  rw [this, hr]; rfl
theorem or_u64 {a b : Nat} (ha : a < 18446744073709551616) (hb : b < 18446744073709551616) (w : World) : (Op.intBits .or .u64 (a : Int) (b : Int)).run P w = .ok (.int .u64 ((a ||| b : Nat) : Int)) w := by
  have h := Nat.or_lt_two_pow (x := a) (y := b) (n := 64) ha hb
  have e : IntKind.u64.wrap ((BitVec.ofInt 64 (a : Int) ||| BitVec.ofInt 64 (b : Int)).toNat : Int) = ((a ||| b : Nat) : Int) := by
    have ea : (BitVec.ofInt 64 (a : Int)).toNat = a := by simp; omega
    have eb : (BitVec.ofInt 64 (b : Int)).toNat = b := by simp; omega
    rw [BitVec.toNat_or, ea, eb]
    exact conv_u64 (by omega)
  show Result.ok (Value.int .u64 (IntKind.u64.wrap ((BitVec.ofInt 64 (a : Int) ||| BitVec.ofInt 64 (b : Int)).toNat : Int))) w = _
  rw [e]
theorem and_u64 {a b : Nat} (ha : a < 18446744073709551616) (hb : b < 18446744073709551616) (w : World) : (Op.intBits .and .u64 (a : Int) (b : Int)).run P w = .ok (.int .u64 ((a &&& b : Nat) : Int)) w := by
  have h := Nat.and_lt_two_pow (n := 64) a (y := b) hb
  have e : IntKind.u64.wrap ((BitVec.ofInt 64 (a : Int) &&& BitVec.ofInt 64 (b : Int)).toNat : Int) = ((a &&& b : Nat) : Int) := by
    have ea : (BitVec.ofInt 64 (a : Int)).toNat = a := by simp; omega
    have eb : (BitVec.ofInt 64 (b : Int)).toNat = b := by simp; omega
    rw [BitVec.toNat_and, ea, eb]
    exact conv_u64 (by omega)
  show Result.ok (Value.int .u64 (IntKind.u64.wrap ((BitVec.ofInt 64 (a : Int) &&& BitVec.ofInt 64 (b : Int)).toNat : Int))) w = _
  rw [e]
theorem or_u32 {a b : Nat} (ha : a < 4294967296) (hb : b < 4294967296) (w : World) : (Op.intBits .or .u32 (a : Int) (b : Int)).run P w = .ok (.int .u32 ((a ||| b : Nat) : Int)) w := by
  have h := Nat.or_lt_two_pow (x := a) (y := b) (n := 32) ha hb
  have e : IntKind.u32.wrap ((BitVec.ofInt 32 (a : Int) ||| BitVec.ofInt 32 (b : Int)).toNat : Int) = ((a ||| b : Nat) : Int) := by
    have ea : (BitVec.ofInt 32 (a : Int)).toNat = a := by simp; omega
    have eb : (BitVec.ofInt 32 (b : Int)).toNat = b := by simp; omega
    rw [BitVec.toNat_or, ea, eb]
    exact conv_u32' (by omega)
  show Result.ok (Value.int .u32 (IntKind.u32.wrap ((BitVec.ofInt 32 (a : Int) ||| BitVec.ofInt 32 (b : Int)).toNat : Int))) w = _
  rw [e]
theorem and_u32 {a b : Nat} (ha : a < 4294967296) (hb : b < 4294967296) (w : World) : (Op.intBits .and .u32 (a : Int) (b : Int)).run P w = .ok (.int .u32 ((a &&& b : Nat) : Int)) w := by
  have h := Nat.and_lt_two_pow (n := 32) a (y := b) hb
  have e : IntKind.u32.wrap ((BitVec.ofInt 32 (a : Int) &&& BitVec.ofInt 32 (b : Int)).toNat : Int) = ((a &&& b : Nat) : Int) := by
    have ea : (BitVec.ofInt 32 (a : Int)).toNat = a := by simp; omega
    have eb : (BitVec.ofInt 32 (b : Int)).toNat = b := by simp; omega
    rw [BitVec.toNat_and, ea, eb]
    exact conv_u32' (by omega)
  show Result.ok (Value.int .u32 (IntKind.u32.wrap ((BitVec.ofInt 32 (a : Int) &&& BitVec.ofInt 32 (b : Int)).toNat : Int))) w = _
  rw [e]
theorem and_i64 {a b : Nat} (ha : a < 9223372036854775808) (hb : b < 9223372036854775808) (w : World) : (Op.intBits .and .i64 (a : Int) (b : Int)).run P w = .ok (.int .i64 ((a &&& b : Nat) : Int)) w := by
  have h := Nat.and_lt_two_pow (n := 63) a (y := b) hb
  have e : IntKind.i64.wrap ((BitVec.ofInt 64 (a : Int) &&& BitVec.ofInt 64 (b : Int)).toNat : Int) = ((a &&& b : Nat) : Int) := by
    have ea : (BitVec.ofInt 64 (a : Int)).toNat = a := by simp; omega
    have eb : (BitVec.ofInt 64 (b : Int)).toNat = b := by simp; omega
    rw [BitVec.toNat_and, ea, eb]
    exact conv_i64 (by omega)
  show Result.ok (Value.int .i64 (IntKind.i64.wrap ((BitVec.ofInt 64 (a : Int) &&& BitVec.ofInt 64 (b : Int)).toNat : Int))) w = _
  rw [e]
theorem max_nat {k : IntKind} {t u ty : TypeId} {a b : Nat} (w : World) : (Builtin.max_ #[t, u] ty #[.int k (a : Int), .int k (b : Int)]).run P w = .ok (.int k ((max a b : Nat) : Int)) w := by
  have h : (if (b : Int) > (a : Int) then (b : Int) else (a : Int)) = ((max a b : Nat) : Int) := by split <;> omega
  show Result.ok (Value.int k (if (b : Int) > (a : Int) then (b : Int) else (a : Int))) w = _
  rw [h]
theorem min_nat {k : IntKind} {t u ty : TypeId} {a b : Nat} (w : World) : (Builtin.min_ #[t, u] ty #[.int k (a : Int), .int k (b : Int)]).run P w = .ok (.int k ((min a b : Nat) : Int)) w := by
  have h : (if (b : Int) < (a : Int) then (b : Int) else (a : Int)) = ((min a b : Nat) : Int) := by split <;> omega
  show Result.ok (Value.int k (if (b : Int) < (a : Int) then (b : Int) else (a : Int))) w = _
  rw [h]
end Go.Ear
