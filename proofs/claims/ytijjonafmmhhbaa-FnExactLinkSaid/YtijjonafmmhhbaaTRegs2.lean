/- Slices of regions: marked and found again. No condition. -/
import Derived.Test.YtijjonafmmhhbaaTRegs
namespace Go.Proofs.Ytijjonafmmhhbaa.Ab

theorem get_set {α : Type} {l : List α} {i : Nat} {a : α} (h : i < l.length) : (l.set i a)[i]? = some a := by simp [h]

/-! ### Region: marked and found again -/

def mkRegion (k : Int) : Rg := ⟨k, k + 1, k + 1 + 1, (k + 1 + 1 + 1).tmod 3 == 0, (k + 1 + 1 + 1 + 1).tmod 3 == 0, (k + 1 + 1 + 1 + 1 + 1).tmod 3 == 0⟩
def marksRegion (k : Int) (n : Nat) : List Rg := (List.range n).map fun i : Nat => mkRegion (k + 6 * (i : Int))
def hMarkRegion : CH := fun args hl K => match args, hl with
  | [.slc 0 0 n _, .v (.int .i64 k)], [.lst 6 L] => ∃ bs : List Rg, L = bs.map regC ∧ n = bs.length ∧ bs.length ≤ 1048576 ∧ 0 ≤ k ∧ k ≤ 1099511627776 ∧ K (.v (.int .i64 (k + 6 * n))) [.lst 6 ((marksRegion k n).map regC)]
  | _, _ => False
theorem mark_stepRegion (bs : List Rg) (k : Int) (i : Nat) (h : i < bs.length) : ((marksRegion k i ++ bs.drop i).map regC).set i (regC (mkRegion (k + 6 * i))) = (marksRegion k (i + 1) ++ bs.drop (i + 1)).map regC := by
  have hl : ((marksRegion k i).map regC).length = i := by simp [marksRegion]
  rw [List.map_append, List.set_append_right _ _ (by omega), hl, Nat.sub_self, List.drop_eq_getElem_cons h, List.map_cons, List.set_cons_zero]
  simp [marksRegion, List.range_succ]
def hHeldRegion : CH := fun args hl K => match args, hl with
  | [.imm _ _ 6 L, .v (.int .i64 k)], [] => ∃ n : Nat, L = (marksRegion k n).map regC ∧ n ≤ 1048576 ∧ 0 ≤ k ∧ k ≤ 1099511627776 ∧ K (.v (.int .i64 (k + 6 * n))) []
  | _, _ => False
theorem marks_getRegion {k : Int} {n i : Nat} (h : i < n) : ((marksRegion k n).map regC)[i]? = some (regC (mkRegion (k + 6 * i))) := by
  simp [marksRegion, h]
theorem marks_lenRegion (k : Int) (n : Nat) : ((marksRegion k n).map regC).length = n := by simp [marksRegion]
theorem marks_lendRegion (k : Int) (n : Nat) : List.take n (List.drop 0 ((marksRegion k n).map regC)) = (marksRegion k n).map regC := by rw [List.drop_zero, List.take_of_length_le (by rw [marks_lenRegion]; exact Nat.le_refl _)]

end Go.Proofs.Ytijjonafmmhhbaa.Ab
