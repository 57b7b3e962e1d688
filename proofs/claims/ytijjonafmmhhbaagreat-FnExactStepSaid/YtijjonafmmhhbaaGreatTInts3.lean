/- Slices of whole numbers: found again. No condition. -/
import Derived.Test.YtijjonafmmhhbaaGreatTInts2
namespace Go.Proofs.YtijjonafmmhhbaaGreat.Ab
set_option linter.unusedVariables false
set_option linter.unusedSimpArgs false

def hHeldInt : CH := fun args hl K => match args, hl with
  | [.imm _ _ 1 L, .v (.int .i64 k)], [] => ∃ n : Nat, L = (marksInt k n).map intC ∧ n ≤ 1048576 ∧ 0 ≤ k ∧ k ≤ 1099511627776 ∧ K (.v (.int .i64 (k + n))) []
  | _, _ => False
theorem marks_getInt {k : Int} {n i : Nat} (h : i < n) : ((marksInt k n).map intC)[i]? = some (intC ( (k + (i : Int)))) := by
  simp [marksInt, h]
def cx_s_heldIntS : Ctx := mkC []
theorem cx_s_heldIntS_ok : CtxOk Tryz.prog cx_s_heldIntS := cx0_ok
set_option maxRecDepth 100000 in
set_option pp.maxSteps 1500 in
set_option maxHeartbeats 4000000 in
theorem s_heldIntS : HSound Tryz.prog 61 (callM [] true hHeldInt) := by
  refine callM_sound cx_s_heldIntS_ok mixed Tryz.func61 rfl fun args hl K hp => ?_
  unfold hHeldInt at hp
  split at hp
  · rename_i t z L k
    obtain ⟨n, rfl, hb, hk0, hk1, hp⟩ := hp
    refine Exists.intro false (Exists.intro [0, 1, 5] (Exists.intro (fun m vs h => ∃ i : Nat, i ≤ n ∧ m = n - i ∧ vs = [.imm t z 1 ((marksInt k n).map intC), .v (.int .i64 (k + i)), .v (.int .i64 i)] ∧ h = []) (And.intro ?_ ?_)))
    · refine Exists.intro n ?_
      exact ⟨0, by omega, rfl, by simp, rfl⟩
    · intro m vs h hI
      obtain ⟨i, hi, rfl, rfl, rfl⟩ := hI
      refine And.intro (fun h1 => ?_) (fun h1 => ?_)
      · have hlt : i < n := by simpa [marksInt] using h1
        have hg := marks_getInt (k := k) hlt
        clear h1
        refine Exists.intro i (And.intro rfl (Exists.intro _ (And.intro hg ?_)))
        refine And.intro (fun h1 => ?_) (fun h1 => ?_)
        · simp at h1
        refine Exists.intro (n - (i + 1)) (And.intro (by omega) ⟨i + 1, by omega, rfl, ?_, rfl⟩)
        rw [wrap_succ hlt (by omega), wrap64 (x := k + i + 1) (by omega), show k + (i : Int) + 1 = k + ((i + 1 : Nat) : Int) by omega]
      · have hil : i = n := by simp [marksInt] at h1; omega
        subst hil
        exact hp
  · exact hp.elim
end Go.Proofs.YtijjonafmmhhbaaGreat.Ab
