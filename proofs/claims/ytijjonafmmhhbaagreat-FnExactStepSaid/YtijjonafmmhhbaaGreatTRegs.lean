/- Slices of regions: laid, compared. No condition. -/
import Derived.Test.YtijjonafmmhhbaaGreatTAllow
namespace Go.Proofs.YtijjonafmmhhbaaGreat.Ab

/-! ### Region: slices of plain structs (printed by gen/slice.py) -/

def zeroRegion : Rg := ⟨0, 0, 0, false, false, false⟩
theorem closed_Region (bs : List Rg) : ClosedL (bs.map regC) := by
  intro e he x hx
  obtain ⟨b, _, rfl⟩ := List.mem_map.1 he
  simp [regC] at hx
  rcases hx with rfl | rfl | rfl | rfl | rfl | rfl <;> rfl

def hToRegion : CH := fun args hl K => match args, hl with
  | [.imm _ _ 6 l], [] => ∃ bs : List Rg, l = bs.map regC ∧ bs.length ≤ 1048576 ∧ K (.slc 0 0 bs.length false) [.lst 6 (bs.map regC)]
  | _, _ => False
def cx_s_toRegionS : Ctx := mkC [(55, callM [] false hConv6)]
theorem cx_s_toRegionS_ok : CtxOk Tryz.prog cx_s_toRegionS := mkC_ok (mem1 ⟨s_toRegion, fnOk Tryz.func55 rfl rfl⟩ mem0)
set_option maxRecDepth 100000 in
set_option pp.maxSteps 1500 in
theorem s_toRegionS : HSound Tryz.prog 14 (callM [] true hToRegion) := by
  refine callM_sound cx_s_toRegionS_ok mixed Tryz.func14 rfl fun args hl K hp => ?_
  unfold hToRegion at hp
  split at hp
  · rename_i t z l
    obtain ⟨bs, rfl, hb, hp⟩ := hp
    refine Or.inl ?_
    refine Exists.intro bs.length (And.intro (by simp) (And.intro (by simp) (And.intro (by simp only; omega) ?_)))
    refine Exists.intro false (Exists.intro [0, 3, 4] (Exists.intro (fun m vs h => ∃ i : Nat, i ≤ bs.length ∧ m = bs.length - i ∧ vs = [.imm t z 6 (bs.map regC), .slc 0 0 bs.length true, .v (.int .i64 i)] ∧ h = [.lst 6 ((bs.take i).map regC ++ List.replicate (bs.length - i) (regC zeroRegion))]) (And.intro ?_ ?_)))
    · refine Exists.intro bs.length ?_
      exact ⟨0, by omega, rfl, rfl, rfl⟩
    · intro m vs h hI
      obtain ⟨i, hi, rfl, rfl, rfl⟩ := hI
      refine And.intro (fun h1 => ?_) (fun h1 => ?_)
      · simp only [decide_eq_true_eq, List.length_map] at h1
        have hlt : i < bs.length := by omega
        obtain ⟨b, hbi⟩ : ∃ b, bs[i]? = some b := ⟨_, List.getElem?_eq_getElem hlt⟩
        refine Exists.intro i (And.intro rfl (Exists.intro (regC b) (And.intro (by simp [hbi]) ?_)))
        refine Exists.intro i (And.intro rfl (And.intro hlt ?_))
        refine Exists.intro (regC zeroRegion) (And.intro (by rw [Nat.zero_add, List.getElem?_append_right (by simp; omega), List.getElem?_replicate, if_pos (by simp; omega)]) (And.intro (by decide) ?_))
        refine Exists.intro (bs.length - (i + 1)) (And.intro (by omega) ?_)
        refine ⟨i + 1, by omega, rfl, ?_, ?_⟩
        · rw [← wrap_succ hlt (by omega)]
        · rw [← fill_step regC (regC zeroRegion) bs i b hbi, Nat.zero_add]
          rfl
      · simp only [decide_eq_false_iff_not, List.length_map] at h1
        have : i = bs.length := by omega
        subst this
        have e : (bs.take bs.length).map regC ++ List.replicate (bs.length - bs.length) (regC zeroRegion) = bs.map regC := by simp
        rw [← e] at hp
        refine And.intro (e ▸ closed_Region bs) ?_
        exact hp
  · exact hp.elim

def cx_iEqRegion : Ctx := mkC []
theorem cx_iEqRegion_ok : CtxOk Tryz.prog cx_iEqRegion := cx0_ok
def iEqRegion : Handler := inlH cx_iEqRegion Tryz.f58.ntmps Tryz.f58.results.toList (Tryz.f58.body.getD .skip)
theorem s_iEqRegion : HSound Tryz.prog 58 iEqRegion := inlF cx_iEqRegion_ok mixed Tryz.func58 rfl
def hEqRegion : CH := fun args hl K => match args, hl with
  | [.imm _ _ 6 l, .imm _ _ 6 r], [] => ∃ bs : List Rg, l = bs.map regC ∧ r = bs.map regC ∧ bs.length ≤ 1048576 ∧ K (.v (.bool true)) []
  | _, _ => False
def cx_s_eqRegionS : Ctx := mkC [(58, iEqRegion)]
theorem cx_s_eqRegionS_ok : CtxOk Tryz.prog cx_s_eqRegionS := mkC_ok (mem1 ⟨s_iEqRegion, fnOk Tryz.func58 rfl rfl⟩ mem0)
set_option maxRecDepth 100000 in
set_option pp.maxSteps 1500 in
theorem s_eqRegionS : HSound Tryz.prog 17 (callM [] true hEqRegion) := by
  refine callM_sound cx_s_eqRegionS_ok mixed Tryz.func17 rfl fun args hl K hp => ?_
  unfold hEqRegion at hp
  split at hp
  · rename_i t z l t' z' r
    obtain ⟨bs, rfl, rfl, hb, hp⟩ := hp
    refine And.intro (fun h1 => ?_) (fun h1 => ?_)
    · simp at h1
    · clear h1
      refine Exists.intro true (Exists.intro [0, 1, 5] (Exists.intro (fun m vs h => ∃ i : Nat, i ≤ bs.length ∧ m = bs.length - i ∧ vs = [.imm t z 6 (bs.map regC), .imm t' z' 6 (bs.map regC), .v (.int .i64 i)] ∧ h = []) (And.intro ?_ ?_)))
      · refine Exists.intro [] (Exists.intro bs.length ?_)
        exact ⟨0, by omega, rfl, rfl, rfl⟩
      · intro m vs h hI
        obtain ⟨i, hi, rfl, rfl, rfl⟩ := hI
        refine And.intro (fun h1 => ?_) (fun h1 => ?_)
        · simp only [decide_eq_true_eq, List.length_map] at h1
          have hlt : i < bs.length := by omega
          obtain ⟨b, hbi⟩ : ∃ b, bs[i]? = some b := ⟨_, List.getElem?_eq_getElem hlt⟩
          refine Or.inl ?_
          refine And.intro (show wfB _ = true from by kernel_rfl) ?_
          refine Exists.intro i (And.intro rfl (Exists.intro (regC b) (And.intro (get_map hbi) ?_)))
          refine Exists.intro i (And.intro rfl (Exists.intro (regC b) (And.intro (get_map hbi) ?_)))
          apply HeldC.intro
          · repeat' (first | refine And.intro (fun h1 => absurd h1 (by simp; done)) (fun h1 => ?_) | exact And.intro rfl rfl)
          repeat' (first
            | refine And.intro (fun h1 => ?_) (fun h1 => ?_)
            | refine And.intro (Exists.intro i (And.intro rfl (Exists.intro (regC b) (And.intro (get_map hbi) (And.intro rfl rfl))))) ?_
            | refine And.intro (And.intro rfl rfl) ?_)
          · cases h1
          · refine Exists.intro [] (Exists.intro (bs.length - (i + 1)) (And.intro (by omega) ?_))
            exact ⟨i + 1, by omega, rfl, by rw [wrap_succ hlt (by omega)], rfl⟩
        · exact hp
  · exact hp.elim
def cx_iSzRegionS : Ctx := mkC []
theorem cx_iSzRegionS_ok : CtxOk Tryz.prog cx_iSzRegionS := cx0_ok
def iSzRegionS : Handler := inlH cx_iSzRegionS Tryz.f11.ntmps Tryz.f11.results.toList (Tryz.f11.body.getD .skip)
theorem s_iSzRegionS : HSound Tryz.prog 11 iSzRegionS := inlF cx_iSzRegionS_ok mixed Tryz.func11 rfl

theorem closed_app {a b : List (List AV)} (ha : ClosedL a) (hb : ClosedL b) : ClosedL (a ++ b) := fun e he => (List.mem_append.1 he).elim (ha e) (hb e)
theorem reg_notSl (r : Rg) : ∀ e ∈ [regC r], ∀ x ∈ e, x.isSl = false := by
  intro e he x hx
  simp at he
  subst he
  simp [regC] at hx
  rcases hx with rfl | rfl | rfl | rfl | rfl | rfl <;> rfl
end Go.Proofs.YtijjonafmmhhbaaGreat.Ab
