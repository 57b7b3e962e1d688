/- RegionOk: both programs answer alike. No condition. -/
import Derived.Test.YtijjonafmmhhbaaTBase
namespace Go.Proofs.Ytijjonafmmhhbaa.Ab

def hConv6 : CH := fun args hl K => match args, hl with
  | [.agg [.v a, .v b, .v c, .v d, .v e, .v f]], [] => K (.agg [.v a, .v b, .v c, .v d, .v e, .v f]) []
  | _, _ => False
/-- The power of two, up to 62. -/
def hPw : CH := fun args hl K => match args, hl with
  | [.v (.int .i64 n)], [] => 0 ≤ n ∧ n ≤ 62 ∧ K (.v (.int .i64 (2 ^ n.toNat))) []
  | _, _ => False
theorem pow_le {i N : Nat} (h : i ≤ N) : (2 : Int) ^ i ≤ 2 ^ N := by
  have := Nat.pow_le_pow_right (n := 2) (by omega) h
  have h2 : ((2 ^ i : Nat) : Int) ≤ ((2 ^ N : Nat) : Int) := by omega
  simpa using h2
def regOk (a b c : Int) : Bool := decide (5 ≤ b ∧ b ≤ 14 ∧ 0 ≤ c ∧ c ≤ 255 ∧ (b < 8 → c = 0) ∧ 0 ≤ a ∧ a ≤ 262144 - 2 ^ b.toNat ∧ a.tmod (2 ^ b.toNat) = 0)
def hReg : CH := fun args hl K => match args, hl with
  | [.agg [.v (.int .i64 a), .v (.int .i64 b), .v (.int .i64 c), .v _, .v _, .v _]], [] => K (.v (.bool (regOk a b c))) []
  | _, _ => False
theorem pow14 {b : Int} (h1 : 5 ≤ b) (h2 : b ≤ 14) : (32 : Int) ≤ 2 ^ b.toNat ∧ (2 : Int) ^ b.toNat ≤ 16384 := by
  have hb : b.toNat ≤ 14 := by omega
  have hb' : 5 ≤ b.toNat := by omega
  exact ⟨pow_le hb', pow_le hb⟩
theorem shl14 {b : Int} (h1 : 5 ≤ b) (h2 : b ≤ 14) : IntKind.i64.wrap (1 * 2 ^ min b.toNat IntKind.i64.bits) = 2 ^ b.toNat := by
  have hq := pow14 h1 h2
  have : min b.toNat IntKind.i64.bits = b.toNat := by simp only [IntKind.bits]; omega
  rw [this, Int.one_mul]
  exact wrap64 (by omega)
end Go.Proofs.Ytijjonafmmhhbaa.Ab
