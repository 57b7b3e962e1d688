/- Slices of regions: marked and found again. No condition. -/
import Derived.Test.YtijjonafmmhhbaaGreatTRegs
namespace Go.Proofs.YtijjonafmmhhbaaGreat.Ab

theorem get_set {α : Type} {l : List α} {i : Nat} {a : α} (h : i < l.length) : (l.set i a)[i]? = some a := by simp [h]

/-! ### Region: marked and found again -/

def mkRegion (k : Int) : Rg := ⟨k, k + 1, k + 1 + 1, (k + 1 + 1 + 1).tmod 3 == 0, (k + 1 + 1 + 1 + 1).tmod 3 == 0, (k + 1 + 1 + 1 + 1 + 1).tmod 3 == 0⟩
def marksRegion (k : Int) (n : Nat) : List Rg := (List.range n).map fun i : Nat => mkRegion (k + 6 * (i : Int))
def hMarkRegion : CH := fun args hl K => match args, hl with
  | [.slc 0 0 n _, .v (.int .i64 k)], [.lst 6 L] => ∃ bs : List Rg, L = bs.map regC ∧ n = bs.length ∧ bs.length ≤ 1048576 ∧ 0 ≤ k ∧ k ≤ 1099511627776 ∧ K (.v (.int .i64 (k + 6 * n))) [.lst 6 ((marksRegion k n).map regC)]
  | _, _ => False
theorem mark_stepRegion (bs : List Rg) (k : Int) (i : Nat) (h : i < bs.length) : ((marksRegion k i ++ bs.drop i).map regC).set i (regC (mkRegion (k + 6 * i))) = (marksRegion k (i + 1) ++ bs.drop (i + 1)).map regC := by
  have hl : ((marksRegion k i).map regC).length = i := by simp [marksRegion]
  rw [List.map_append, List.set_append_right _ _ (by omega), hl, Nat.sub_self, List.drop_eq_getElem_cons h, List.map_cons, List.set_cons_zero]
  simp [marksRegion, List.range_succ]
def cx_s_markRegionS : Ctx := mkC []
theorem cx_s_markRegionS_ok : CtxOk Tryz.prog cx_s_markRegionS := cx0_ok
set_option maxRecDepth 100000 in
set_option pp.maxSteps 1500 in
set_option maxHeartbeats 4000000 in
theorem s_markRegionS : HSound Tryz.prog 20 (callM [.rw] false hMarkRegion) := by
  refine callM_sound cx_s_markRegionS_ok mixed Tryz.func20 rfl fun args hl K hp => ?_
  unfold hMarkRegion at hp
  split at hp
  · rename_i n z0 k _
    obtain ⟨bs, rfl, rfl, hb, hk0, hk1, hp⟩ := hp
    refine Exists.intro false (Exists.intro [0, 1, 5] (Exists.intro (fun m vs h => ∃ i : Nat, i ≤ bs.length ∧ m = bs.length - i ∧ (∃ z, vs = [.slc 0 0 bs.length z, .v (.int .i64 (k + 6 * i)), .v (.int .i64 i)]) ∧ h = [.lst 6 ((marksRegion k i ++ bs.drop i).map regC)]) (And.intro ?_ ?_)))
    · refine Exists.intro bs.length ?_
      exact ⟨0, by omega, rfl, ⟨z0, by simp⟩, rfl⟩
    · intro m vs h hI
      obtain ⟨i, hi, rfl, ⟨z, rfl⟩, rfl⟩ := hI
      refine And.intro (fun h1 => ?_) (fun h1 => ?_)
      · simp only [decide_eq_true_eq] at h1
        have hlt : i < bs.length := by omega
        have hst := mark_stepRegion bs k i hlt
        have hL : ((marksRegion k i ++ bs.drop i).map regC).length = bs.length := by simp [marksRegion]; omega
        have hg : ((marksRegion k i ++ bs.drop i).map regC)[0 + i]? = some (regC bs[i]) := by
          rw [Nat.zero_add, List.getElem?_map, List.getElem?_append_right (by simp [marksRegion]), show i - (marksRegion k i).length = 0 by simp [marksRegion], List.getElem?_drop, Nat.add_zero, List.getElem?_eq_getElem hlt]
          rfl
        generalize (marksRegion k i ++ bs.drop i).map regC = L at *
        generalize bs[i] = b0 at hg
        have hLi : 0 + i < L.length := by omega
        generalize hκ : k + 6 * (i : Int) = κ at *
        have hκ0 : 0 ≤ κ ∧ κ ≤ 1199511627776 := by omega
        have hw : ∀ x : Int, 0 ≤ x → x ≤ 1200000000000 → IntKind.i64.wrap (x + 1) = x + 1 := fun x _ _ => wrap64 (by omega)
        repeat' (first
          | refine Exists.intro i (And.intro rfl (And.intro hlt ?_))
          | refine Exists.intro _ (And.intro hg (And.intro (by decide) ?_))
          | refine Exists.intro _ (And.intro (get_set (by first | exact hLi | (simp only [List.length_set]; exact hLi))) (And.intro (by decide) ?_))
          | refine And.intro (by decide) ?_)
        refine Exists.intro (bs.length - (i + 1)) (And.intro (by omega) ⟨i + 1, by omega, rfl, ⟨z, ?_⟩, ?_⟩)
        · rw [wrap_succ hlt (by omega), show k + 6 * ((i + 1 : Nat) : Int) = κ + 6 by omega]
          have hw0 := hw (κ) (by omega) (by omega)
          have hw1 := hw (κ + 1) (by omega) (by omega)
          have hw2 := hw (κ + 1 + 1) (by omega) (by omega)
          have hw3 := hw (κ + 1 + 1 + 1) (by omega) (by omega)
          have hw4 := hw (κ + 1 + 1 + 1 + 1) (by omega) (by omega)
          have hw5 := hw (κ + 1 + 1 + 1 + 1 + 1) (by omega) (by omega)
          try simp only [hw0, hw1, hw2, hw3, hw4, hw5]
          simp [Int.add_assoc]
        · rw [← hst]
          simp only [List.set_set, Nat.zero_add]
          have hw0 := hw (κ) (by omega) (by omega)
          have hw1 := hw (κ + 1) (by omega) (by omega)
          have hw2 := hw (κ + 1 + 1) (by omega) (by omega)
          have hw3 := hw (κ + 1 + 1 + 1) (by omega) (by omega)
          have hw4 := hw (κ + 1 + 1 + 1 + 1) (by omega) (by omega)
          have hw5 := hw (κ + 1 + 1 + 1 + 1 + 1) (by omega) (by omega)
          try simp only [hw0, hw1, hw2, hw3, hw4, hw5]
          rfl
      · simp only [decide_eq_false_iff_not] at h1
        have hil : i = bs.length := by omega
        subst hil
        rw [List.drop_length, List.append_nil]
        refine And.intro (closed_Region _) ?_
        exact hp
  · exact hp.elim
def hHeldRegion : CH := fun args hl K => match args, hl with
  | [.imm _ _ 6 L, .v (.int .i64 k)], [] => ∃ n : Nat, L = (marksRegion k n).map regC ∧ n ≤ 1048576 ∧ 0 ≤ k ∧ k ≤ 1099511627776 ∧ K (.v (.int .i64 (k + 6 * n))) []
  | _, _ => False
theorem marks_getRegion {k : Int} {n i : Nat} (h : i < n) : ((marksRegion k n).map regC)[i]? = some (regC (mkRegion (k + 6 * i))) := by
  simp [marksRegion, h]
theorem marks_lenRegion (k : Int) (n : Nat) : ((marksRegion k n).map regC).length = n := by simp [marksRegion]
theorem marks_lendRegion (k : Int) (n : Nat) : List.take n (List.drop 0 ((marksRegion k n).map regC)) = (marksRegion k n).map regC := by rw [List.drop_zero, List.take_of_length_le (by rw [marks_lenRegion]; exact Nat.le_refl _)]

end Go.Proofs.YtijjonafmmhhbaaGreat.Ab
