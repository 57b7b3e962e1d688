/- Slices of regions: laid, compared. No condition. -/
import Derived.Test.YtijjonafmmhhbaaTAllow
namespace Go.Proofs.Ytijjonafmmhhbaa.Ab

/-! ### Region: slices of plain structs (printed by gen/slice.py) -/

def zeroRegion : Rg := ⟨0, 0, 0, false, false, false⟩
theorem closed_Region (bs : List Rg) : ClosedL (bs.map regC) := by
  intro e he x hx
  obtain ⟨b, _, rfl⟩ := List.mem_map.1 he
  simp [regC] at hx
  rcases hx with rfl | rfl | rfl | rfl | rfl | rfl <;> rfl

def hToRegion : CH := fun args hl K => match args, hl with
  | [.imm _ _ 6 l], [] => ∃ bs : List Rg, l = bs.map regC ∧ bs.length ≤ 1048576 ∧ K (.slc 0 0 bs.length false) [.lst 6 (bs.map regC)]
  | _, _ => False
def hEqRegion : CH := fun args hl K => match args, hl with
  | [.imm _ _ 6 l, .imm _ _ 6 r], [] => ∃ bs : List Rg, l = bs.map regC ∧ r = bs.map regC ∧ bs.length ≤ 1048576 ∧ K (.v (.bool true)) []
  | _, _ => False
theorem closed_app {a b : List (List AV)} (ha : ClosedL a) (hb : ClosedL b) : ClosedL (a ++ b) := fun e he => (List.mem_append.1 he).elim (ha e) (hb e)
theorem reg_notSl (r : Rg) : ∀ e ∈ [regC r], ∀ x ∈ e, x.isSl = false := by
  intro e he x hx
  simp at he
  subst he
  simp [regC] at hx
  rcases hx with rfl | rfl | rfl | rfl | rfl | rfl <;> rfl
end Go.Proofs.Ytijjonafmmhhbaa.Ab
