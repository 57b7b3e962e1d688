/- Slices of whole numbers: marked and found again. No condition. -/
import Derived.Test.YtijjonafmmhhbaaGreatTInts
namespace Go.Proofs.YtijjonafmmhhbaaGreat.Ab
set_option linter.unusedVariables false
set_option linter.unusedSimpArgs false


/-! ### Int: marked and found again (printed by gen/mark1.py) -/

def marksInt (k : Int) (n : Nat) : List Int := (List.range n).map fun i : Nat =>  (k + (i : Int))
def hMarkInt : CH := fun args hl K => match args, hl with
  | [.slc 0 0 n _, .v (.int .i64 k)], [.lst 1 L] => ∃ bs : List Int, L = bs.map intC ∧ n = bs.length ∧ bs.length ≤ 1048576 ∧ 0 ≤ k ∧ k ≤ 1099511627776 ∧ K (.v (.int .i64 (k + n))) [.lst 1 ((marksInt k n).map intC)]
  | _, _ => False
theorem mark_stepInt (bs : List Int) (k : Int) (i : Nat) (h : i < bs.length) : ((marksInt k i ++ bs.drop i).map intC).set i (intC ( (k + (i : Int)))) = (marksInt k (i + 1) ++ bs.drop (i + 1)).map intC := by
  have hl : ((marksInt k i).map intC).length = i := by simp [marksInt]
  rw [List.map_append, List.set_append_right _ _ (by omega), hl, Nat.sub_self, List.drop_eq_getElem_cons h, List.map_cons, List.set_cons_zero]
  simp [marksInt, List.range_succ]
theorem closed_mInt (bs : List Int) : ClosedL (bs.map intC) := by
  intro e he x hx
  obtain ⟨b, _, rfl⟩ := List.mem_map.1 he
  simp [intC] at hx
  subst hx
  rfl
def cx_s_markIntS : Ctx := mkC []
theorem cx_s_markIntS_ok : CtxOk Tryz.prog cx_s_markIntS := cx0_ok
set_option maxRecDepth 100000 in
set_option pp.maxSteps 1500 in
set_option maxHeartbeats 4000000 in
theorem s_markIntS : HSound Tryz.prog 59 (callM [.rw] false hMarkInt) := by
  refine callM_sound cx_s_markIntS_ok mixed Tryz.func59 rfl fun args hl K hp => ?_
  unfold hMarkInt at hp
  split at hp
  · rename_i n z0 k _
    obtain ⟨bs, rfl, rfl, hb, hk0, hk1, hp⟩ := hp
    refine Exists.intro false (Exists.intro [0, 1, 5] (Exists.intro (fun m vs h => ∃ i : Nat, i ≤ bs.length ∧ m = bs.length - i ∧ (∃ z, vs = [.slc 0 0 bs.length z, .v (.int .i64 (k + i)), .v (.int .i64 i)]) ∧ h = [.lst 1 ((marksInt k i ++ bs.drop i).map intC)]) (And.intro ?_ ?_)))
    · refine Exists.intro bs.length ?_
      exact ⟨0, by omega, rfl, ⟨z0, by simp⟩, rfl⟩
    · intro m vs h hI
      obtain ⟨i, hi, rfl, ⟨z, rfl⟩, rfl⟩ := hI
      refine And.intro (fun h1 => ?_) (fun h1 => ?_)
      · simp only [decide_eq_true_eq] at h1
        have hlt : i < bs.length := by omega
        have hst := mark_stepInt bs k i hlt
        have hg : ((marksInt k i ++ bs.drop i).map intC)[0 + i]? = some (intC bs[i]) := by
          rw [Nat.zero_add, List.getElem?_map, List.getElem?_append_right (by simp [marksInt]), show i - (marksInt k i).length = 0 by simp [marksInt], List.getElem?_drop, Nat.add_zero, List.getElem?_eq_getElem hlt]
          rfl
        generalize (marksInt k i ++ bs.drop i).map intC = L at *
        generalize bs[i] = b0 at hg
        refine Exists.intro i (And.intro rfl (And.intro hlt ?_))
        refine Exists.intro _ (And.intro hg (And.intro (by decide) ?_))
        refine Exists.intro (bs.length - (i + 1)) (And.intro (by omega) ⟨i + 1, by omega, rfl, ⟨z, ?_⟩, ?_⟩)
        · rw [wrap_succ hlt (by omega), wrap64 (x := k + i + 1) (by omega), show k + (i : Int) + 1 = k + ((i + 1 : Nat) : Int) by omega]
        · rw [← hst, Nat.zero_add]
          rfl
      · simp only [decide_eq_false_iff_not] at h1
        have hil : i = bs.length := by omega
        subst hil
        rw [List.drop_length, List.append_nil]
        refine And.intro (closed_mInt _) ?_
        exact hp
  · exact hp.elim
theorem marks_lenInt (k : Int) (n : Nat) : ((marksInt k n).map intC).length = n := by simp [marksInt]
theorem marks_lendInt (k : Int) (n : Nat) : List.take n (List.drop 0 ((marksInt k n).map intC)) = (marksInt k n).map intC := by rw [List.drop_zero, List.take_of_length_le (by rw [marks_lenInt]; exact Nat.le_refl _)]

theorem marksInt_len (k : Int) (n : Nat) : (marksInt k n).length = n := by simp [marksInt]
end Go.Proofs.YtijjonafmmhhbaaGreat.Ab
