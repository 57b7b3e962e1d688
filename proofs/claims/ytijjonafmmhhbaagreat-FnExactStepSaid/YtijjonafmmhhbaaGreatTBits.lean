/- Words: what the bit operations make of them. No condition. -/
import Derived.Test.YtijjonafmmhhbaaGreatTBase
namespace Go.Proofs.YtijjonafmmhhbaaGreat.Ab

theorem nat64 (n : Nat) (h : n < 18446744073709551616) : (BitVec.ofInt IntKind.i64.bits (n : Int)).toNat = n := by
  rw [BitVec.ofInt_natCast, BitVec.toNat_ofNat]
  exact Nat.mod_eq_of_lt (by simp only [IntKind.bits]; omega)
theorem andN (x y : Nat) (hx : x < 4294967296) (hy : y < 4294967296) : IntKind.i64.wrap ((BitVec.ofInt IntKind.i64.bits (x : Int) &&& BitVec.ofInt IntKind.i64.bits (y : Int)).toNat : Nat) = ((x &&& y : Nat) : Int) := by
  rw [BitVec.toNat_and, nat64 x (by omega), nat64 y (by omega)]
  have h := Nat.and_lt_two_pow (n := 32) x (y := y) (by omega)
  exact wrap64 (by omega)
theorem orN (x y : Nat) (hx : x < 4294967296) (hy : y < 4294967296) : IntKind.i64.wrap ((BitVec.ofInt IntKind.i64.bits (x : Int) ||| BitVec.ofInt IntKind.i64.bits (y : Int)).toNat : Nat) = ((x ||| y : Nat) : Int) := by
  rw [BitVec.toNat_or, nat64 x (by omega), nat64 y (by omega)]
  have h := Nat.or_lt_two_pow (n := 32) (x := x) (y := y) (by omega) (by omega)
  exact wrap64 (by omega)
theorem xorN (x y : Nat) (hx : x < 4294967296) (hy : y < 4294967296) : IntKind.i64.wrap ((BitVec.ofInt IntKind.i64.bits (x : Int) ^^^ BitVec.ofInt IntKind.i64.bits (y : Int)).toNat : Nat) = ((x ^^^ y : Nat) : Int) := by
  rw [BitVec.toNat_xor, nat64 x (by omega), nat64 y (by omega)]
  have h := Nat.xor_lt_two_pow (n := 32) (x := x) (y := y) (by omega) (by omega)
  exact wrap64 (by omega)
theorem bit_lt (x y : Nat) (hx : x < 4294967296) (hy : y < 4294967296) : (x &&& y) < 4294967296 ∧ (x ||| y) < 4294967296 ∧ (x ^^^ y) < 4294967296 :=
  ⟨Nat.and_lt_two_pow (n := 32) x (y := y) (by omega), Nat.or_lt_two_pow (n := 32) (x := x) (y := y) (by omega) (by omega), Nat.xor_lt_two_pow (n := 32) (x := x) (y := y) (by omega) (by omega)⟩
/-- The last thirty-two bits, of whatever number. -/
theorem maskI (x : Int) : IntKind.i64.wrap ((BitVec.ofInt IntKind.i64.bits x &&& BitVec.ofInt IntKind.i64.bits 4294967295).toNat : Nat) = x % 4294967296 := by
  have e : (BitVec.ofInt IntKind.i64.bits 4294967295).toNat = 2 ^ 32 - 1 := by decide
  rw [BitVec.toNat_and, e, Nat.and_two_pow_sub_one_eq_mod, BitVec.toNat_ofInt]
  simp only [IntKind.bits]
  rw [wrap64 (by omega)]
  omega
theorem mask5 (x : Int) : IntKind.i64.wrap ((BitVec.ofInt IntKind.i64.bits x &&& BitVec.ofInt IntKind.i64.bits 31).toNat : Nat) = x % 32 := by
  have e : (BitVec.ofInt IntKind.i64.bits 31).toNat = 2 ^ 5 - 1 := by decide
  rw [BitVec.toNat_and, e, Nat.and_two_pow_sub_one_eq_mod, BitVec.toNat_ofInt]
  simp only [IntKind.bits]
  rw [wrap64 (by omega)]
  omega
theorem wrap_mod (x : Int) : IntKind.i64.wrap x % 4294967296 = x % 4294967296 := by
  simp only [IntKind.wrap, IntKind.bits, IntKind.signed, Bool.true_and]
  split <;> omega
/-- A product's last thirty-two bits, out of halves. -/
theorem mul_half {d a : Int} : (d % 65536 * a + d / 65536 * (a % 65536) * 65536) % 4294967296 = d * a % 4294967296 := by
  have h1 : d = d / 65536 * 65536 + d % 65536 := by omega
  have h2 : a = a / 65536 * 65536 + a % 65536 := by omega
  generalize d / 65536 = dh at *
  generalize hdl : d % 65536 = dl at *
  generalize a / 65536 = ah at *
  generalize hal : a % 65536 = al at *
  have e : d * a = (dl * a + dh * al * 65536) + 4294967296 * (dh * ah) := by
    rw [show d * a = (dh * 65536 + dl) * a by rw [← h1], Int.add_mul]
    rw [show dh * 65536 * a = dh * 65536 * (ah * 65536 + al) by rw [← h2], Int.mul_add]
    have p1 : dh * 65536 * (ah * 65536) = 4294967296 * (dh * ah) := by
      rw [show dh * 65536 * (ah * 65536) = 65536 * 65536 * (dh * ah) by simp only [Int.mul_comm, Int.mul_left_comm, Int.mul_assoc]]
      rfl
    have p2 : dh * 65536 * al = dh * al * 65536 := by simp only [Int.mul_comm, Int.mul_left_comm, Int.mul_assoc]
    rw [p1, p2]
    omega
  rw [e]
  omega
/-- A shift to the left, within a word. -/
theorem left_half {d : Int} {s : Nat} (hs : s < 32) : d % (4294967296 / 2 ^ s) * 2 ^ s = d * 2 ^ s % 4294967296 := by
  have e : (4294967296 : Int) = 2 ^ s * 2 ^ (32 - s) := by
    rw [← Int.pow_add, show s + (32 - s) = 32 by omega]
    decide
  have hp : (0 : Int) < 2 ^ s := Int.pow_pos (by omega)
  have e2 : (4294967296 : Int) / 2 ^ s = 2 ^ (32 - s) := by
    rw [e, Int.mul_ediv_cancel_left _ (by omega)]
  rw [e2, show d * 2 ^ s % 4294967296 = (2 ^ s * d) % (2 ^ s * 2 ^ (32 - s)) by rw [← e, Int.mul_comm], Int.mul_emod_mul_of_pos _ _ hp, Int.mul_comm]
end Go.Proofs.YtijjonafmmhhbaaGreat.Ab
