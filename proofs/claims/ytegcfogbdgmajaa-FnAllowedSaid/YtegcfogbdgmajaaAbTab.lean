/- The types' table of this seat, checked against the program. No condition. -/
import Derived.Test.YtegcfogbdgmajaaAbOpen
import Derived.Test.YtegcfogbdgmajaaRows
namespace Go.Proofs.Ytegcfogbdgmajaa.Ab

def tab : List (Nat × TI) := [
  (2, ⟨1, 8, false, .int .i64, [.v (.int .i64 0)], []⟩),
  (3, ⟨1, 8, false, .int .i64, [.v (.int .i64 0)], []⟩),
  (4, ⟨1, 1, false, .bool, [.v (.bool false)], []⟩),
  (5, ⟨1, 1, false, .int .u8, [.v (.int .u8 0)], []⟩),
  (9, ⟨1, 16, false, .str, [.v (.string .empty)], []⟩),
  (12, ⟨1, 8, false, .int .u64, [.v (.int .u64 0)], []⟩),
  (21, ⟨1, 4, false, .int .i32, [.v (.int .i32 0)], []⟩),
  (22, ⟨4, 32, true, .struct [(0, 1), (1, 1), (2, 1), (3, 1)], [.v (.int .i64 0), .v (.int .i64 0), .v (.int .i64 0), .v (.int .i64 0)], [0, 0, 0, 0]⟩),
  (23, ⟨4, 32, true, .struct [(0, 1), (1, 1), (2, 1), (3, 1)], [.v (.int .i64 0), .v (.int .i64 0), .v (.int .i64 0), .v (.int .i64 0)], [0, 0, 0, 0]⟩),
  (28, ⟨1, 24, false, .slice 5 1, [.sl 1 []], []⟩),
  (29, ⟨3, 72, true, .struct [(0, 1), (1, 1), (2, 1)], [.sl 1 [], .sl 1 [], .sl 1 []], []⟩),
  (30, ⟨3, 72, true, .struct [(0, 1), (1, 1), (2, 1)], [.sl 1 [], .sl 1 [], .sl 1 []], []⟩),
  (34, ⟨3, 72, true, .struct [(0, 1), (1, 1), (2, 1)], [.sl 1 [], .sl 1 [], .sl 1 []], []⟩),
  (43, ⟨1, 24, false, .slice 112 6, [.sl 6 []], []⟩),
  (46, ⟨1, 24, false, .slice 54 6, [.sl 6 []], []⟩),
  (53, ⟨6, 32, true, .struct [(0, 1), (1, 1), (2, 1), (3, 1), (4, 1), (5, 1)], [.v (.int .i64 0), .v (.int .i64 0), .v (.int .i64 0), .v (.bool false), .v (.bool false), .v (.bool false)], [0, 0, 0, 1, 1, 1]⟩),
  (54, ⟨6, 32, true, .struct [(0, 1), (1, 1), (2, 1), (3, 1), (4, 1), (5, 1)], [.v (.int .i64 0), .v (.int .i64 0), .v (.int .i64 0), .v (.bool false), .v (.bool false), .v (.bool false)], [0, 0, 0, 1, 1, 1]⟩),
  (69, ⟨1, 24, false, .slice 85 8, [.sl 8 []], []⟩),
  (71, ⟨3, 24, true, .struct [(0, 1), (1, 1), (2, 1)], [.v (.int .i64 0), .v (.int .i64 0), .v (.int .i64 0)], [0, 0, 0]⟩),
  (72, ⟨3, 24, true, .struct [(0, 1), (1, 1), (2, 1)], [.v (.int .i64 0), .v (.int .i64 0), .v (.int .i64 0)], [0, 0, 0]⟩),
  (75, ⟨1, 24, false, .slice 90 8, [.sl 8 []], []⟩),
  (80, ⟨1, 24, false, .slice 3 1, [.sl 1 []], []⟩),
  (81, ⟨1, 24, false, .slice 80 1, [.sl 1 []], []⟩),
  (82, ⟨1, 24, false, .slice 9 1, [.sl 1 []], []⟩),
  (83, ⟨1, 24, false, .slice 182 3, [.sl 3 []], []⟩),
  (84, ⟨8, 168, true, .struct [(0, 1), (1, 1), (2, 1), (3, 1), (4, 1), (5, 1), (6, 1), (7, 1)], [.v (.string .empty), .sl 1 [], .sl 1 [], .sl 1 [], .v (.int .i64 0), .sl 1 [], .sl 1 [], .sl 3 []], []⟩),
  (85, ⟨8, 168, true, .struct [(0, 1), (1, 1), (2, 1), (3, 1), (4, 1), (5, 1), (6, 1), (7, 1)], [.v (.string .empty), .sl 1 [], .sl 1 [], .sl 1 [], .v (.int .i64 0), .sl 1 [], .sl 1 [], .sl 3 []], []⟩),
  (88, ⟨1, 24, false, .slice 135 3, [.sl 3 []], []⟩),
  (89, ⟨8, 168, true, .struct [(0, 1), (1, 1), (2, 1), (3, 1), (4, 1), (5, 1), (6, 1), (7, 1)], [.v (.string .empty), .sl 1 [], .sl 1 [], .sl 1 [], .v (.int .i64 0), .sl 1 [], .sl 1 [], .sl 3 []], []⟩),
  (90, ⟨8, 168, true, .struct [(0, 1), (1, 1), (2, 1), (3, 1), (4, 1), (5, 1), (6, 1), (7, 1)], [.v (.string .empty), .sl 1 [], .sl 1 [], .sl 1 [], .v (.int .i64 0), .sl 1 [], .sl 1 [], .sl 3 []], []⟩),
  (99, ⟨1, 8, false, .int .u64, [.v (.int .u64 0)], []⟩),
  (104, ⟨1, 8, false, .ptr, [.v (.pointer none)], []⟩),
  (112, ⟨6, 32, true, .struct [(0, 1), (1, 1), (2, 1), (3, 1), (4, 1), (5, 1)], [.v (.int .i64 0), .v (.int .i64 0), .v (.int .i64 0), .v (.bool false), .v (.bool false), .v (.bool false)], [0, 0, 0, 1, 1, 1]⟩),
  (117, ⟨7, 40, true, .struct [(0, 6), (6, 1)], [.v (.int .i64 0), .v (.int .i64 0), .v (.int .i64 0), .v (.bool false), .v (.bool false), .v (.bool false), .v (.int .i64 0)], []⟩),
  (118, ⟨7, 40, true, .struct [(0, 6), (6, 1)], [.v (.int .i64 0), .v (.int .i64 0), .v (.int .i64 0), .v (.bool false), .v (.bool false), .v (.bool false), .v (.int .i64 0)], []⟩),
  (120, ⟨9, 56, true, .struct [(0, 1), (1, 7), (8, 1)], [.v .nilFunc, .v (.int .i64 0), .v (.int .i64 0), .v (.int .i64 0), .v (.bool false), .v (.bool false), .v (.bool false), .v (.int .i64 0), .v (.bool false)], []⟩),
  (121, ⟨9, 56, true, .struct [(0, 1), (1, 7), (8, 1)], [.v .nilFunc, .v (.int .i64 0), .v (.int .i64 0), .v (.int .i64 0), .v (.bool false), .v (.bool false), .v (.bool false), .v (.int .i64 0), .v (.bool false)], []⟩),
  (134, ⟨3, 32, true, .struct [(0, 1), (1, 1), (2, 1)], [.v (.string .empty), .v (.int .i64 0), .v (.int .i64 0)], [2, 0, 0]⟩),
  (135, ⟨3, 32, true, .struct [(0, 1), (1, 1), (2, 1)], [.v (.string .empty), .v (.int .i64 0), .v (.int .i64 0)], [2, 0, 0]⟩),
  (138, ⟨1, 8, false, .map 9 72, [.v (.map none)], []⟩),
  (139, ⟨1, 8, false, .map 9 72, [.v (.map none)], []⟩),
  (151, ⟨1, 8, false, .map 9 4, [.v (.map none)], []⟩),
  (160, ⟨1, 24, false, .slice 5 1, [.sl 1 []], []⟩),
  (166, ⟨3, 3, true, .struct [(0, 1), (1, 1), (2, 1)], [.v (.bool false), .v (.bool false), .v (.bool false)], [1, 1, 1]⟩),
  (167, ⟨3, 3, true, .struct [(0, 1), (1, 1), (2, 1)], [.v (.bool false), .v (.bool false), .v (.bool false)], [1, 1, 1]⟩),
  (171, ⟨1, 8, false, .ptr, [.v (.pointer none)], []⟩),
  (172, ⟨2, 32, true, .struct [(0, 1), (1, 1)], [.sl 1 [], .v (.int .i64 0)], []⟩),
  (173, ⟨2, 32, true, .struct [(0, 1), (1, 1)], [.sl 1 [], .v (.int .i64 0)], []⟩),
  (174, ⟨1, 1, false, .int .u8, [.v (.int .u8 0)], []⟩),
  (177, ⟨1, 8, false, .ptr, [.v (.pointer none)], []⟩),
  (182, ⟨3, 32, true, .struct [(0, 1), (1, 1), (2, 1)], [.v (.string .empty), .v (.int .i64 0), .v (.int .i64 0)], [2, 0, 0]⟩),
  (187, ⟨1, 8, false, .ptr, [.v (.pointer none)], []⟩),
  (190, ⟨1, 8, false, .ptr, [.v (.pointer none)], []⟩),
  (195, ⟨1, 4, false, .int .u32, [.v (.int .u32 0)], []⟩),
  (207, ⟨1, 8, false, .ptr, [.v (.pointer none)], []⟩)]

theorem tabOk : tabB Try.prog tab = true := by kernel_rfl
theorem mixed : Try.prog.follows .mixedOrders = true := by kernel_rfl
def mkC (l : List (Nat × Handler)) : Ctx := ⟨findT tab, findT l, 0, fun _ _ => False, false⟩
def mkCut (l : List (Nat × Handler)) : Ctx := ⟨findT tab, findT l, 0, fun _ _ => False, true⟩
theorem mkCut_ok {l : List (Nat × Handler)} (hl : ∀ p ∈ l, HSound Try.prog p.1 p.2 ∧ FnOk Try.prog p.1) : CtxOk Try.prog (mkCut l) := have h := ctxOk tabOk hl; ⟨h.tab, h.eqs, h.zok, h.call⟩
theorem mkC_ok {l : List (Nat × Handler)} (hl : ∀ p ∈ l, HSound Try.prog p.1 p.2 ∧ FnOk Try.prog p.1) : CtxOk Try.prog (mkC l) := ctxOk tabOk hl

end Go.Proofs.Ytegcfogbdgmajaa.Ab
