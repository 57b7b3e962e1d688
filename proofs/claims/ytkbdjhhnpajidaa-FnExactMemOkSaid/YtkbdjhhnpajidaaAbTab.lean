/- The types' table of this seat, checked against the program. No condition. -/
import Derived.Test.YtkbdjhhnpajidaaAbOpen
import Derived.Test.YtkbdjhhnpajidaaRows
namespace Go.Proofs.Ytkbdjhhnpajidaa.Ab

def tab : List (Nat × TI) := [
  (3, ⟨1, 8, false, .int .i64, [.v (.int .i64 0)]⟩),
  (4, ⟨1, 1, false, .bool, [.v (.bool false)]⟩),
  (5, ⟨1, 1, false, .int .u8, [.v (.int .u8 0)]⟩),
  (24, ⟨4, 32, true, .struct [(0, 1), (1, 1), (2, 1), (3, 1)], [.v (.int .i64 0), .v (.int .i64 0), .v (.int .i64 0), .v (.int .i64 0)]⟩),
  (26, ⟨4, 32, true, .struct [(0, 1), (1, 1), (2, 1), (3, 1)], [.v (.int .i64 0), .v (.int .i64 0), .v (.int .i64 0), .v (.int .i64 0)]⟩),
  (30, ⟨6, 32, true, .struct [(0, 1), (1, 1), (2, 1), (3, 1), (4, 1), (5, 1)], [.v (.int .i64 0), .v (.int .i64 0), .v (.int .i64 0), .v (.bool false), .v (.bool false), .v (.bool false)]⟩),
  (32, ⟨6, 32, true, .struct [(0, 1), (1, 1), (2, 1), (3, 1), (4, 1), (5, 1)], [.v (.int .i64 0), .v (.int .i64 0), .v (.int .i64 0), .v (.bool false), .v (.bool false), .v (.bool false)]⟩),
  (36, ⟨4, 32, true, .struct [(0, 1), (1, 1), (2, 1), (3, 1)], [.v (.int .i64 0), .v (.int .i64 0), .v (.int .i64 0), .v (.int .i64 0)]⟩),
  (39, ⟨4, 32, true, .struct [(0, 1), (1, 1), (2, 1), (3, 1)], [.v (.int .i64 0), .v (.int .i64 0), .v (.int .i64 0), .v (.int .i64 0)]⟩),
  (42, ⟨1, 24, false, .slice 5 1, [.sl 1 []]⟩),
  (44, ⟨3, 72, true, .struct [(0, 1), (1, 1), (2, 1)], [.sl 1 [], .sl 1 [], .sl 1 []]⟩),
  (47, ⟨3, 72, true, .struct [(0, 1), (1, 1), (2, 1)], [.sl 1 [], .sl 1 [], .sl 1 []]⟩),
  (53, ⟨1, 8, false, .int .u64, [.v (.int .u64 0)]⟩),
  (58, ⟨3, 3, true, .struct [(0, 1), (1, 1), (2, 1)], [.v (.bool false), .v (.bool false), .v (.bool false)]⟩)]

theorem tabOk : tabB Try.prog tab = true := by kernel_rfl
theorem mixed : Try.prog.follows .mixedOrders = true := by kernel_rfl
def mkC (l : List (Nat × Handler)) : Ctx := ⟨findT tab, findT l⟩
theorem mkC_ok {l : List (Nat × Handler)} (hl : ∀ p ∈ l, HSound Try.prog p.1 p.2 ∧ FnOk Try.prog p.1) : CtxOk Try.prog (mkC l) := ctxOk tabOk hl

end Go.Proofs.Ytkbdjhhnpajidaa.Ab
