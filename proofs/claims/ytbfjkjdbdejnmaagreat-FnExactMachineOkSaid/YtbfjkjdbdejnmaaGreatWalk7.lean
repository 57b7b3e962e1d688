/- Functions walked, part 7. No condition. -/
import Derived.Test.YtbfjkjdbdejnmaaGreatWalk6
set_option linter.unusedVariables false
set_option linter.unusedSimpArgs false
/- Link: configurations and allocators. No condition. -/
namespace Go.Proofs.YtbfjkjdbdejnmaaGreat.Ab
set_option linter.unusedVariables false
set_option linter.unusedSimpArgs false

def hCfg : CH := fun args hl K => match args, hl with
  | [.agg [.v (.int .i64 a), .v (.int .i64 b), .v (.int .i64 c), .v (.int .i64 d)]], [] => K (.v (.bool (cfgB ⟨a, b, c, d⟩))) []
  | _, _ => False
def cx_s_impl_ConfigOk : Ctx := mkC []
theorem cx_s_impl_ConfigOk_ok : CtxOk Tryz.prog cx_s_impl_ConfigOk := cx0_ok
set_option maxRecDepth 100000 in
set_option pp.maxSteps 1500 in
set_option maxHeartbeats 4000000 in
theorem s_impl_ConfigOk : HSound Tryz.prog 145 (callM [] false hCfg) := by
  refine callM_sound cx_s_impl_ConfigOk_ok mixed Tryz.func145 rfl fun args hl K hp => ?_
  unfold hCfg at hp
  split at hp
  · rename_i a b c d
    repeat' ((first | refine And.intro (fun h1 => ?_) (fun h1 => ?_) | refine And.intro (by decide) ?_ | refine And.intro (show wfB _ = true from by kernel_rfl) ?_ | refine And.intro (And.intro rfl rfl) ?_ | exact And.intro rfl rfl | apply HeldC.intro | exact AV.top | (apply HeldF.intro; refine Exists.intro _ (And.intro (by assumption) ?_); refine And.intro (by decide) ?_; exact And.intro rfl rfl) | (refine And.intro (by (refine Exists.intro _ (And.intro (by assumption) ?_); refine And.intro (by decide) ?_; exact And.intro rfl rfl)) ?_) | refine Or.inl ?_) <;> try cases h1)
    all_goals refine fin_b hp ?_
    all_goals clear hp
    all_goals rw [Bool.eq_iff_iff]
    all_goals simp only [cfgB, decide_eq_true_eq]
    all_goals generalize c.tmod 32 = r at *
    all_goals simp only [ beq_iff_eq, beq_eq_false_iff_ne, ne_eq, decide_eq_true_eq, decide_eq_false_iff_not, Bool.false_eq_true, false_iff, true_iff, iff_false, iff_true, ge_iff_le] at *
    all_goals omega
  · exact hp.elim
def cx_s_spec_ConfigOk : Ctx := mkC []
theorem cx_s_spec_ConfigOk_ok : CtxOk Tryz.prog cx_s_spec_ConfigOk := cx0_ok
set_option maxRecDepth 100000 in
set_option pp.maxSteps 1500 in
set_option maxHeartbeats 4000000 in
theorem s_spec_ConfigOk : HSound Tryz.prog 193 (callM [] false hCfg) := by
  refine callM_sound cx_s_spec_ConfigOk_ok mixed Tryz.func193 rfl fun args hl K hp => ?_
  unfold hCfg at hp
  split at hp
  · rename_i a b c d
    repeat' ((first | refine And.intro (fun h1 => ?_) (fun h1 => ?_) | refine And.intro (by decide) ?_ | refine And.intro (show wfB _ = true from by kernel_rfl) ?_ | refine And.intro (And.intro rfl rfl) ?_ | exact And.intro rfl rfl | apply HeldC.intro | exact AV.top | (apply HeldF.intro; refine Exists.intro _ (And.intro (by assumption) ?_); refine And.intro (by decide) ?_; exact And.intro rfl rfl) | (refine And.intro (by (refine Exists.intro _ (And.intro (by assumption) ?_); refine And.intro (by decide) ?_; exact And.intro rfl rfl)) ?_) | refine Or.inl ?_) <;> try cases h1)
    all_goals refine fin_b hp ?_
    all_goals clear hp
    all_goals rw [Bool.eq_iff_iff]
    all_goals simp only [cfgB, decide_eq_true_eq]
    all_goals generalize c.tmod 32 = r at *
    all_goals simp only [ beq_iff_eq, beq_eq_false_iff_ne, ne_eq, decide_eq_true_eq, decide_eq_false_iff_not, Bool.false_eq_true, false_iff, true_iff, iff_false, iff_true, ge_iff_le] at *
    all_goals omega
  · exact hp.elim
def hRup : CH := fun args hl K => match args, hl with
  | [.v (.int .i64 n)], [] => ∃ N : Nat, n = N ∧ N ≤ 1099511627776 ∧ K (.v (.int .i64 (rup N : Nat))) []
  | _, _ => False
def cx_s_roundUp : Ctx := mkC []
theorem cx_s_roundUp_ok : CtxOk Tryz.prog cx_s_roundUp := cx0_ok
set_option maxRecDepth 100000 in
set_option pp.maxSteps 1500 in
theorem s_roundUp : HSound Tryz.prog 116 (callM [] false hRup) := by
  refine callM_sound cx_s_roundUp_ok mixed Tryz.func116 rfl fun args hl K hp => ?_
  unfold hRup at hp
  split at hp
  · obtain ⟨N, rfl, hN, hp⟩ := hp
    rw [← rup_wrap hN] at hp
    refine And.intro (by decide) ?_
    exact hp
  · exact hp.elim
def cx_s_l5Round : Ctx := mkC []
theorem cx_s_l5Round_ok : CtxOk Tryz.prog cx_s_l5Round := cx0_ok
set_option maxRecDepth 100000 in
set_option pp.maxSteps 1500 in
theorem s_l5Round : HSound Tryz.prog 94 (callM [] false hRup) := by
  refine callM_sound cx_s_l5Round_ok mixed Tryz.func94 rfl fun args hl K hp => ?_
  unfold hRup at hp
  split at hp
  · obtain ⟨N, rfl, hN, hp⟩ := hp
    rw [← rup_wrap hN] at hp
    refine And.intro (by decide) ?_
    exact hp
  · exact hp.elim
def hLenF : CH := fun args hl K => match args, hl with
  | [.imm _ _ 1 L], [] => L.length ≤ 1048576 ∧ K (.v (.int .i64 ((4 * L.length : Nat) : Int))) []
  | _, _ => False
def cx_s_placed1 : Ctx := mkC []
theorem cx_s_placed1_ok : CtxOk Tryz.prog cx_s_placed1 := cx0_ok
set_option maxRecDepth 100000 in
set_option pp.maxSteps 1500 in
theorem s_placed1 : HSound Tryz.prog 202 (callM [] true hLenF) := by
  refine callM_sound cx_s_placed1_ok mixed Tryz.func202 rfl fun args hl K hp => ?_
  unfold hLenF at hp
  split at hp
  · rename_i L
    obtain ⟨hL, hp⟩ := hp
    rw [show (((4 * L.length : Nat) : Int)) = IntKind.i64.wrap (4 * (L.length : Int)) from by rw [wrap64 (by omega)]; omega] at hp
    exact hp
  · exact hp.elim
def hIdF : CH := fun args hl K => match args, hl with
  | [.v (.int .i64 n)], [] => K (.v (.int .i64 n)) []
  | _, _ => False
def cx_s_placed2 : Ctx := mkC []
theorem cx_s_placed2_ok : CtxOk Tryz.prog cx_s_placed2 := cx0_ok
set_option maxRecDepth 100000 in
set_option pp.maxSteps 1500 in
theorem s_placed2 : HSound Tryz.prog 204 (callM [] false hIdF) := by
  refine callM_sound cx_s_placed2_ok mixed Tryz.func204 rfl fun args hl K hp => ?_
  unfold hIdF at hp
  split at hp
  · exact hp
  · exact hp.elim
def hNewAl : CH := fun args hl K => match args, hl with
  | [.v (.int .i64 n), .fn f []], [] => K (.ptr 0 0 0 3) [.box [.v (.int .i64 n), .v (.int .i64 n), .fn f []]]
  | _, _ => False
def cx_s_newAl1 : Ctx := mkC []
theorem cx_s_newAl1_ok : CtxOk Tryz.prog cx_s_newAl1 := cx0_ok
set_option maxRecDepth 100000 in
set_option pp.maxSteps 1500 in
theorem s_newAl1 : HSound Tryz.prog 201 (callM [] false hNewAl) := by
  refine callM_sound cx_s_newAl1_ok mixed Tryz.func201 rfl fun args hl K hp => ?_
  unfold hNewAl at hp
  split at hp
  · exact hp
  · exact hp.elim
def cx_s_newAl2 : Ctx := mkC []
theorem cx_s_newAl2_ok : CtxOk Tryz.prog cx_s_newAl2 := cx0_ok
set_option maxRecDepth 100000 in
set_option pp.maxSteps 1500 in
theorem s_newAl2 : HSound Tryz.prog 203 (callM [] false hNewAl) := by
  refine callM_sound cx_s_newAl2_ok mixed Tryz.func203 rfl fun args hl K hp => ?_
  unfold hNewAl at hp
  split at hp
  · exact hp
  · exact hp.elim
def hUsed : CH := fun args hl K => match args, hl with
  | [.ptr 0 0 0 _], [.box [.v (.int .i64 b), .v (.int .i64 n), .fn f []]] => I64 (n - b) ∧ K (.v (.int .i64 (n - b))) [.box [.v (.int .i64 b), .v (.int .i64 n), .fn f []]]
  | _, _ => False
def cx_s_used1 : Ctx := mkC []
theorem cx_s_used1_ok : CtxOk Tryz.prog cx_s_used1 := cx0_ok
set_option maxRecDepth 100000 in
set_option pp.maxSteps 1500 in
theorem s_used1 : HSound Tryz.prog 207 (callM [.rw] false hUsed) := by
  refine callM_sound cx_s_used1_ok mixed Tryz.func207 rfl fun args hl K hp => ?_
  unfold hUsed at hp
  split at hp
  · obtain ⟨hI, hp⟩ := hp
    rw [← wrap64 hI] at hp
    refine And.intro (show Region.lexB _ _ = true from by kernel_rfl) ?_
    exact hp
  · exact hp.elim
def cx_s_used2 : Ctx := mkC []
theorem cx_s_used2_ok : CtxOk Tryz.prog cx_s_used2 := cx0_ok
set_option maxRecDepth 100000 in
set_option pp.maxSteps 1500 in
theorem s_used2 : HSound Tryz.prog 208 (callM [.rw] false hUsed) := by
  refine callM_sound cx_s_used2_ok mixed Tryz.func208 rfl fun args hl K hp => ?_
  unfold hUsed at hp
  split at hp
  · obtain ⟨hI, hp⟩ := hp
    rw [← wrap64 hI] at hp
    refine And.intro (show Region.lexB _ _ = true from by kernel_rfl) ?_
    exact hp
  · exact hp.elim
def hPlaceL : CH := fun args hl K => match args, hl with
  | [.ptr 0 0 0 _, .imm _ _ 1 L], [.box [.v (.int .i64 b), .v (.int .i64 n), .fn f []]] => f = 202 ∧ ∃ N : Nat, n = N ∧ N ≤ 1048576 ∧ L.length ≤ 1048576 ∧ K (.v (.int .i64 N)) [.box [.v (.int .i64 b), .v (.int .i64 ((N + rup (4 * L.length) : Nat) : Int)), .fn f []]]
  | _, _ => False
def cx_s_place1 : Ctx := mkC [(116, callM [] false hRup), (202, callM [] true hLenF)]
theorem cx_s_place1_ok : CtxOk Tryz.prog cx_s_place1 := mkC_ok (mem1 ⟨s_roundUp, fnOk Tryz.func116 rfl rfl⟩ (mem1 ⟨s_placed1, fnOk Tryz.func202 rfl rfl⟩ mem0))
set_option maxRecDepth 100000 in
set_option pp.maxSteps 1500 in
theorem s_place1 : HSound Tryz.prog 205 (callM [.rw] true hPlaceL) := by
  refine callM_sound cx_s_place1_ok mixed Tryz.func205 rfl fun args hl K hp => ?_
  unfold hPlaceL at hp
  split at hp
  · rename_i L b n f
    obtain ⟨rfl, N, rfl, hN, hL, hp⟩ := hp
    have hr := rup_le (4 * L.length)
    have hw : IntKind.i64.wrap ((N : Int) + (rup (4 * L.length) : Nat)) = ((N + rup (4 * L.length) : Nat) : Int) := by rw [wrap64 (by omega)]; omega
    refine Or.inl ?_
    refine And.intro (show wfB _ = true from by kernel_rfl) ?_
    repeat' (first
      | (refine And.intro hL ?_; exact And.intro rfl rfl)
      | (refine Exists.intro (4 * L.length) ?_; refine And.intro rfl ?_; refine And.intro (by omega) ?_; exact And.intro rfl rfl)
      | refine And.intro (show wfB _ = true from by kernel_rfl) ?_ | refine And.intro (And.intro rfl rfl) ?_ | exact And.intro rfl rfl | apply HeldC.intro | exact AV.top | (apply HeldF.intro; refine Exists.intro _ (And.intro (by assumption) ?_); refine And.intro (by decide) ?_; exact And.intro rfl rfl) | (refine And.intro (by (refine Exists.intro _ (And.intro (by assumption) ?_); refine And.intro (by decide) ?_; exact And.intro rfl rfl)) ?_) | refine Or.inl ?_)
    rw [hw]
    exact hp
  · exact hp.elim
def hPlaceN : CH := fun args hl K => match args, hl with
  | [.ptr 0 0 0 _, .v (.int .i64 s)], [.box [.v (.int .i64 b), .v (.int .i64 n), .fn f []]] => f = 204 ∧ ∃ N S : Nat, n = N ∧ s = S ∧ N ≤ 1048576 ∧ S ≤ 1048576 ∧ K (.v (.int .i64 N)) [.box [.v (.int .i64 b), .v (.int .i64 ((N + rup S : Nat) : Int)), .fn f []]]
  | _, _ => False
def cx_s_place2 : Ctx := mkC [(116, callM [] false hRup), (204, callM [] false hIdF)]
theorem cx_s_place2_ok : CtxOk Tryz.prog cx_s_place2 := mkC_ok (mem1 ⟨s_roundUp, fnOk Tryz.func116 rfl rfl⟩ (mem1 ⟨s_placed2, fnOk Tryz.func204 rfl rfl⟩ mem0))
set_option maxRecDepth 100000 in
set_option pp.maxSteps 1500 in
theorem s_place2 : HSound Tryz.prog 206 (callM [.rw] true hPlaceN) := by
  refine callM_sound cx_s_place2_ok mixed Tryz.func206 rfl fun args hl K hp => ?_
  unfold hPlaceN at hp
  split at hp
  · rename_i s b n f
    obtain ⟨rfl, N, S, rfl, rfl, hN, hS, hp⟩ := hp
    have hr := rup_le S
    have hw : IntKind.i64.wrap ((N : Int) + (rup S : Nat)) = ((N + rup S : Nat) : Int) := by rw [wrap64 (by omega)]; omega
    refine Or.inl ?_
    refine And.intro (show wfB _ = true from by kernel_rfl) ?_
    repeat' (first
      | (refine Exists.intro S ?_; refine And.intro rfl ?_; refine And.intro (by omega) ?_; exact And.intro rfl rfl)
      | refine And.intro (show wfB _ = true from by kernel_rfl) ?_ | refine And.intro (And.intro rfl rfl) ?_ | exact And.intro rfl rfl | apply HeldC.intro | exact AV.top | (apply HeldF.intro; refine Exists.intro _ (And.intro (by assumption) ?_); refine And.intro (by decide) ?_; exact And.intro rfl rfl) | (refine And.intro (by (refine Exists.intro _ (And.intro (by assumption) ?_); refine And.intro (by decide) ?_; exact And.intro rfl rfl)) ?_) | refine Or.inl ?_)
    rw [hw]
    exact hp
  · exact hp.elim
end Go.Proofs.YtbfjkjdbdejnmaaGreat.Ab

/- Link of the reference: what it asks, targets, banks too long. No condition. -/
namespace Go.Proofs.YtbfjkjdbdejnmaaGreat.Ab
set_option linter.unusedVariables false
set_option linter.unusedSimpArgs false

theorem new_val {ms : List Mo} {i : Nat} {m : Mo} (h : ms[i]? = some m) : newB ms i = !seenB ms i m.name := by rw [newB, h]
theorem seen_ex {ms : List Mo} {i k : Nat} {q : Mo} {n : ByteArray} (hk : k < i) (hq : ms[k]? = some q) (hn : q.name = n) : seenB ms i n = true := by
  unfold seenB
  rw [List.any_eq_true]
  refine ⟨q, ?_, by simpa using hn⟩
  rw [List.mem_iff_getElem?]
  exact ⟨k, by rw [List.getElem?_take, if_pos hk]; exact hq⟩
theorem seen_no {ms : List Mo} {i : Nat} {n : ByteArray} (h : ∀ k < i, ∀ q, ms[k]? = some q → q.name ≠ n) : seenB ms i n = false := by
  unfold seenB
  rw [List.any_eq_false]
  intro q hq
  obtain ⟨k, hk⟩ := List.mem_iff_getElem?.1 hq
  rw [List.getElem?_take] at hk
  split at hk
  · simpa using h k (by assumption) q hk
  · cases hk
def hSoundC : CH := fun args hl K => match args, hl with
  | [.imm _ _ 8 L, .agg [.v (.int .i64 a), .v (.int .i64 b), .v (.int .i64 c), .v (.int .i64 d)]], [] => ∃ ms : List Mo, L = ms.map moC ∧ ms.length ≤ 1048576 ∧ (∀ m ∈ ms, smMo m) ∧ K (.v (.int .i64 (soundF ms ⟨a, b, c, d⟩))) []
  | _, _ => False
def cx_s_l5Sound : Ctx := mkC [(193, callM [] false hCfg), (194, callM [] true hModOk)]
theorem cx_s_l5Sound_ok : CtxOk Tryz.prog cx_s_l5Sound := mkC_ok (mem1 ⟨s_spec_ConfigOk, fnOk Tryz.func193 rfl rfl⟩ (mem1 ⟨s_spec_ModuleOk, fnOk Tryz.func194 rfl rfl⟩ mem0))
set_option maxRecDepth 100000 in
set_option pp.maxSteps 1500 in
set_option maxHeartbeats 8000000 in
theorem s_l5Sound : HSound Tryz.prog 137 (callM [] true hSoundC) := by
  refine callM_sound cx_s_l5Sound_ok mixed Tryz.func137 rfl fun args hl K hp => ?_
  unfold hSoundC at hp
  split at hp
  · rename_i t z L a b c d
    obtain ⟨ms, rfl, hlen, hsm, hp⟩ := hp
    refine And.intro (fun h1 => ?_) (fun h1 => ?_)
    · refine fin_i hp ?_
      have h1 : cfgB ⟨a, b, c, d⟩ = false := by simpa using h1
      simp only [soundF, h1, if_true]
    have e1 : cfgB ⟨a, b, c, d⟩ = true := by simpa using h1
    clear h1
    have f2 : decide (1 ≤ ms.length ∧ ms.length ≤ 4) = false → soundF ms ⟨a, b, c, d⟩ = 2 := fun h => by simp only [soundF, e1, h, Bool.true_eq_false, if_true, if_false]
    repeat' ((first | refine And.intro (fun h1 => ?_) (fun h1 => ?_) | refine And.intro (by decide) ?_ | refine And.intro (show wfB _ = true from by kernel_rfl) ?_ | refine And.intro (And.intro rfl rfl) ?_ | exact And.intro rfl rfl | apply HeldC.intro | exact AV.top | (apply HeldF.intro; refine Exists.intro _ (And.intro (by assumption) ?_); refine And.intro (by decide) ?_; exact And.intro rfl rfl) | (refine And.intro (by (refine Exists.intro _ (And.intro (by assumption) ?_); refine And.intro (by decide) ?_; exact And.intro rfl rfl)) ?_) | refine Or.inl ?_) <;> try cases h1)
    · have h1 := of_decide_eq_true h1
      rw [List.length_map] at h1
      exact fin_i hp (f2 (decide_eq_false (by omega)))
    · have h1 := of_decide_eq_true h1
      rw [List.length_map] at h1
      exact fin_i hp (f2 (decide_eq_false (by omega)))
    rename_i h0
    have h0 := of_decide_eq_false h0
    have h1 := of_decide_eq_false h1
    rw [List.length_map] at h0 h1
    have e2 : decide (1 ≤ ms.length ∧ ms.length ≤ 4) = true := decide_eq_true (by omega)
    clear f2
    have f3 : ms.all (fun m => decide (modOk m = 0)) = false → soundF ms ⟨a, b, c, d⟩ = 3 := fun h => by simp only [soundF, e1, e2, h, Bool.true_eq_false, if_true, if_false]
    refine Exists.intro true (Exists.intro [0, 3, 5] (Exists.intro (fun m vs h => ∃ i : Nat, i ≤ ms.length ∧ m = ms.length - i ∧ (ms.take i).all (fun m => decide (modOk m = 0)) = true ∧ vs = [.imm t z 8 (ms.map moC), .ptr 0 0 0 4, .v (.int .i64 i)] ∧ h = [.box [.v (.int .i64 a), .v (.int .i64 b), .v (.int .i64 c), .v (.int .i64 d)]]) (And.intro ?_ ?_)))
    · refine Exists.intro [] (Exists.intro ms.length ?_)
      exact ⟨0, by omega, rfl, rfl, rfl, rfl⟩
    intro m vs h hI
    obtain ⟨i, hi, rfl, hall, rfl, rfl⟩ := hI
    refine And.intro (fun h1 => ?_) (fun h1 => ?_)
    · have h1 := of_decide_eq_true h1
      rw [List.length_map] at h1
      have hlt : i < ms.length := by omega
      obtain ⟨m, hm⟩ : ∃ m, ms[i]? = some m := ⟨_, List.getElem?_eq_getElem hlt⟩
      refine Exists.intro i (And.intro rfl (Exists.intro (moC m) (And.intro (get_map hm) ?_)))
      refine Exists.intro m (And.intro ⟨_, _, _, _, _, _, _, _, _, _, _, _, rfl⟩ (And.intro (hsm m (List.mem_of_getElem? hm)) ?_))
      refine And.intro (fun h2 => ?_) (fun h2 => ?_)
      · have h2 : ¬ modOk m = 0 := by simpa using h2
        exact fin_i hp (f3 (all_bad hm (decide_eq_false h2)))
      · have h2 : modOk m = 0 := by simpa using h2
        refine Exists.intro [] (Exists.intro (ms.length - (i + 1)) (And.intro (by omega) ⟨i + 1, by omega, rfl, all_take hm hall (decide_eq_true h2), ?_, rfl⟩))
        rw [wrap_succ hlt (by omega)]
    have h1 := of_decide_eq_false h1
    rw [List.length_map] at h1
    rw [List.take_of_length_le (by omega)] at hall
    clear f3
    have f4 : (List.range ms.length).all (newB ms) = false → soundF ms ⟨a, b, c, d⟩ = 4 := fun h => by simp only [soundF, e1, e2, hall, h, Bool.true_eq_false, if_true, if_false]
    refine Exists.intro true (Exists.intro [0, 3, 6] (Exists.intro (fun m vs h => ∃ i : Nat, i ≤ ms.length ∧ m = ms.length - i ∧ (∀ k < i, newB ms k = true) ∧ vs = [.imm t z 8 (ms.map moC), .ptr 0 0 0 4, .v (.int .i64 i)] ∧ h = [.box [.v (.int .i64 a), .v (.int .i64 b), .v (.int .i64 c), .v (.int .i64 d)]]) (And.intro ?_ ?_)))
    · refine Exists.intro [] (Exists.intro ms.length ?_)
      exact ⟨0, by omega, rfl, fun k hk => by omega, rfl, rfl⟩
    intro m vs h hI
    obtain ⟨i, hi, rfl, hnew, rfl, rfl⟩ := hI
    refine And.intro (fun h1 => ?_) (fun h1 => ?_)
    · have h1 := of_decide_eq_true h1
      rw [List.length_map] at h1
      have hlt : i < ms.length := by omega
      obtain ⟨m, hm⟩ : ∃ m, ms[i]? = some m := ⟨_, List.getElem?_eq_getElem hlt⟩
      refine Exists.intro true (Exists.intro [0, 3, 6, 7] (Exists.intro (fun m' vs h => ∃ j : Nat, j ≤ i ∧ m' = i - j ∧ (∀ k < j, ∀ q, ms[k]? = some q → q.name ≠ m.name) ∧ vs = [.imm t z 8 (ms.map moC), .ptr 0 0 0 4, .v (.int .i64 i), .v (.int .i64 j)] ∧ h = [.box [.v (.int .i64 a), .v (.int .i64 b), .v (.int .i64 c), .v (.int .i64 d)]]) (And.intro ?_ ?_)))
      · refine Exists.intro [] (Exists.intro i ?_)
        exact ⟨0, by omega, rfl, fun k hk => by omega, rfl, rfl⟩
      intro m' vs h hI
      obtain ⟨j, hj, rfl, hno, rfl, rfl⟩ := hI
      refine And.intro (fun h2 => ?_) (fun h2 => ?_)
      · have h2 := of_decide_eq_true h2
        have hjl : j < i := by omega
        obtain ⟨q, hq⟩ : ∃ q, ms[j]? = some q := ⟨_, List.getElem?_eq_getElem (by omega)⟩
        refine And.intro (show Region.lexB _ _ = true from by kernel_rfl) ?_
        refine Exists.intro j (And.intro rfl (Exists.intro (moC q) (And.intro (get_map hq) ?_)))
        refine Exists.intro i (And.intro rfl (Exists.intro (moC m) (And.intro (get_map hm) ?_)))
        refine And.intro (fun h3 => ?_) (fun h3 => ?_)
        · have h3 : q.name = m.name := by
            rw [ba_beq2] at h3
            simpa using h3
          refine fin_i hp (f4 (range_bad hlt ?_))
          rw [new_val hm, seen_ex hjl hq h3]
          rfl
        · have h3 : ¬ q.name = m.name := by
            rw [ba_beq2] at h3
            simpa using h3
          refine Exists.intro [] (Exists.intro (i - (j + 1)) (And.intro (by omega) ⟨j + 1, by omega, rfl, ?_, ?_, rfl⟩))
          · intro k hk q' hq'
            rcases Nat.lt_or_ge k j with r | r
            · exact hno k r q' hq'
            · have : k = j := by omega
              subst this
              rw [hq] at hq'
              cases hq'
              exact h3
          · rw [wrap_succ hjl (by omega)]
      · have h2 := of_decide_eq_false h2
        have hji : j = i := by omega
        subst hji
        refine Exists.intro [] (Exists.intro (ms.length - (j + 1)) (And.intro (by omega) ⟨j + 1, by omega, rfl, lt_step hnew ?_, ?_, rfl⟩))
        · rw [new_val hm, seen_no hno]
          rfl
        · rw [wrap_succ hlt (by omega)]
    · have h1 := of_decide_eq_false h1
      rw [List.length_map] at h1
      have hnn := range_all (n := ms.length) fun k hk => hnew k (by omega)
      refine fin_i hp ?_
      simp only [soundF, e1, e2, hall, hnn, Bool.true_eq_false, if_false]
  · exact hp.elim

/-- Targets: all of them, or some of them and that one is missing. -/
def hTgts : CH := fun args hl K => match args, hl with
  | [.imm _ _ 8 L, a], [] => ∃ (ms : List Mo) (m : Mo), L = ms.map moC ∧ ms.length ≤ 1048576 ∧ (∀ m ∈ ms, smMo m) ∧ MoV a m ∧ smMo m ∧
      (resB ms m.imps = true → K (.tup [.slc 0 0 (tgsOf ms m.imps).length false, .v (.bool true)]) [.lst 3 ((tgsOf ms m.imps).map tgC)]) ∧ (resB ms m.imps = false → ∀ l : List Tg, K (.tup [.slc 0 0 l.length false, .v (.bool false)]) [.lst 3 (l.map tgC)])
  | _, _ => False
theorem tg_notSl (t : Tg) : ∀ e ∈ [tgC t], ∀ x ∈ e, x.isSl = false := by
  intro e he x hx
  simp at he
  subst he
  simp [tgC] at hx
  rcases hx with rfl | rfl | rfl <;> rfl
def cx_s_l5Targets : Ctx := mkC [(195, callM [] true hRes)]
theorem cx_s_l5Targets_ok : CtxOk Tryz.prog cx_s_l5Targets := mkC_ok (mem1 ⟨s_spec_Resolve, fnOk Tryz.func195 rfl rfl⟩ mem0)
set_option maxRecDepth 100000 in
set_option pp.maxSteps 1500 in
set_option maxHeartbeats 8000000 in
theorem s_l5Targets : HSound Tryz.prog 138 (callM [] true hTgts) := by
  refine callM_sound cx_s_l5Targets_ok mixed Tryz.func138 rfl fun args hl K hp => ?_
  unfold hTgts at hp
  split at hp
  · rename_i t z L a
    obtain ⟨ms, m, rfl, hlen, hsm, ⟨b1, z1, b2, z2, b3, z3, b4, z4, b5, z5, b6, z6, rfl⟩, hm, hp1, hp2⟩ := hp
    have him := hm.imps
    refine Or.inl ?_
    refine Exists.intro true (Exists.intro [0, 3, 6, 7] (Exists.intro (fun m' vs h => ∃ i : Nat, i ≤ m.imps.length ∧ m' = m.imps.length - i ∧ (m.imps.take i).all (fun s => (resolveF ms s).isSome) = true ∧ vs = [.imm t z 8 (ms.map moC), .ptr 0 0 0 8, .slc 1 0 (tgsOf ms (m.imps.take i)).length false, .v (.int .i64 i)] ∧ h = [.box (cellsM m b1 z1 b2 z2 b3 z3 b4 z4 b5 z5 b6 z6), .lst 3 ((tgsOf ms (m.imps.take i)).map tgC)]) (And.intro ?_ ?_)))
    · refine Exists.intro [] (And.intro closed_nil (Exists.intro m.imps.length ?_))
      exact ⟨0, by omega, rfl, rfl, rfl, rfl⟩
    intro m' vs h hI
    obtain ⟨i, hi, rfl, hall, rfl, rfl⟩ := hI
    have htl : (tgsOf ms (m.imps.take i)).length ≤ 1048576 := by
      have := List.length_filterMap_le (fun s => (resolveF ms s).map tgOf) (m.imps.take i)
      simp only [tgsOf]
      have := List.length_take_le i m.imps
      omega
    refine And.intro (fun h1 => ?_) (fun h1 => ?_)
    · have h1 := of_decide_eq_true h1
      rw [List.length_map] at h1
      have hlt : i < m.imps.length := by omega
      obtain ⟨s, hs⟩ : ∃ s, m.imps[i]? = some s := ⟨_, List.getElem?_eq_getElem hlt⟩
      have hss := hm.imp s (List.mem_of_getElem? hs)
      refine Exists.intro i (And.intro rfl (Exists.intro (strC s) (And.intro (get_map hs) ?_)))
      refine Exists.intro ms (And.intro rfl (And.intro hlen (And.intro hsm (And.intro hss ?_))))
      cases hr : resolveF ms s with
      | none =>
        have hbad : resB ms m.imps = false := all_bad hs (by rw [hr]; rfl)
        refine And.intro (fun h2 => ?_) (fun h2 => by cases h2)
        refine And.intro (closed_Target _) ?_
        exact hp2 hbad (tgsOf ms (m.imps.take i))
      | some p =>
        have hst := tgs_at hs hr
        refine And.intro (fun h2 => by cases h2) (fun h2 => ?_)
        generalize tgsOf ms (m.imps.take i) = T at *
        refine Exists.intro [tgC (tgOf p)] (And.intro rfl (And.intro rfl (And.intro (tg_notSl _) ?_)))
        refine And.intro (List.length_map _) ?_
        refine And.intro (by simp; omega) ?_
        refine And.intro (by simp; omega) ?_
        refine Exists.intro [] (And.intro (closed_app (closed_Target T) (closed_Target [tgOf p])) (Exists.intro (m.imps.length - (i + 1)) (And.intro (by omega) ⟨i + 1, by omega, rfl, all_take hs hall (by rw [hr]; rfl), ?_, ?_⟩)))
        · rw [wrap_succ hlt (by omega), hst]
          simp
        · rw [hst]
          simp
    · have h1 := of_decide_eq_false h1
      rw [List.length_map] at h1
      rw [List.take_of_length_le (by omega)] at hall ⊢
      refine And.intro (closed_Target _) ?_
      exact hp1 hall
  · exact hp.elim

def hLongC : CH := fun args hl K => match args, hl with
  | [.imm _ _ 8 L, .agg [.v (.int .i64 a), .v (.int .i64 b), .v (.int .i64 c), .v (.int .i64 d)]], [] => ∃ ms : List Mo, L = ms.map moC ∧ ms.length ≤ 1048576 ∧ (∀ m ∈ ms, smMo m) ∧ K (.v (.bool (longB ms ⟨a, b, c, d⟩))) []
  | _, _ => False
def cx_s_l5TooLong : Ctx := mkC []
theorem cx_s_l5TooLong_ok : CtxOk Tryz.prog cx_s_l5TooLong := cx0_ok
set_option maxRecDepth 100000 in
set_option pp.maxSteps 1500 in
set_option maxHeartbeats 8000000 in
theorem s_l5TooLong : HSound Tryz.prog 139 (callM [] true hLongC) := by
  refine callM_sound cx_s_l5TooLong_ok mixed Tryz.func139 rfl fun args hl K hp => ?_
  unfold hLongC at hp
  split at hp
  · rename_i t z L a b c d
    obtain ⟨ms, rfl, hlen, hsm, hp⟩ := hp
    refine Exists.intro true (Exists.intro [0, 3, 5] (Exists.intro (fun m vs h => ∃ i : Nat, i ≤ ms.length ∧ m = ms.length - i ∧ (0 < a → (ms.take i).all (bankB ⟨a, b, c, d⟩) = true) ∧ vs = [.imm t z 8 (ms.map moC), .ptr 0 0 0 4, .v (.int .i64 i)] ∧ h = [.box [.v (.int .i64 a), .v (.int .i64 b), .v (.int .i64 c), .v (.int .i64 d)]]) (And.intro ?_ ?_)))
    · refine Exists.intro [] (Exists.intro ms.length ?_)
      exact ⟨0, by omega, rfl, fun _ => rfl, rfl, rfl⟩
    intro m vs h hI
    obtain ⟨i, hi, rfl, hall, rfl, rfl⟩ := hI
    refine And.intro (fun h1 => ?_) (fun h1 => ?_)
    · have h1 := of_decide_eq_true h1
      rw [List.length_map] at h1
      have hlt : i < ms.length := by omega
      obtain ⟨m, hm⟩ : ∃ m, ms[i]? = some m := ⟨_, List.getElem?_eq_getElem hlt⟩
      have hmm := hsm m (List.mem_of_getElem? hm)
      have hbl := hmm.banks
      refine Exists.intro true (Exists.intro [0, 3, 5, 6] (Exists.intro (fun m' vs h => ∃ j : Nat, j ≤ m.banks.length ∧ m' = m.banks.length - j ∧ (0 < a → (m.banks.take j).all (fun x => decide ((x.length : Int) ≤ b)) = true) ∧ vs = [.imm t z 8 (ms.map moC), .ptr 0 0 0 4, .v (.int .i64 i), .v (.int .i64 j)] ∧ h = [.box [.v (.int .i64 a), .v (.int .i64 b), .v (.int .i64 c), .v (.int .i64 d)]]) (And.intro ?_ ?_)))
      · refine Exists.intro [] (Exists.intro m.banks.length ?_)
        exact ⟨0, by omega, rfl, fun _ => rfl, rfl, rfl⟩
      intro m' vs h hI
      obtain ⟨j, hj, rfl, hbk, rfl, rfl⟩ := hI
      refine Exists.intro i (And.intro rfl (Exists.intro (moC m) (And.intro (get_map hm) ?_)))
      refine And.intro (fun h2 => ?_) (fun h2 => ?_)
      · have h2 := of_decide_eq_true h2
        rw [List.length_map] at h2
        have hjl : j < m.banks.length := by omega
        obtain ⟨x, hx⟩ : ∃ x, m.banks[j]? = some x := ⟨_, List.getElem?_eq_getElem hjl⟩
        have hwj : IntKind.wrap .i64 ((j : Int) + 1) = ((j + 1 : Nat) : Int) := wrap_succ hjl (by omega)
        refine And.intro (show Region.lexB _ _ = true from by kernel_rfl) ?_
        repeat' ((first
          | refine And.intro (fun h3 => ?_) (fun h3 => ?_)
          | refine Exists.intro i (And.intro rfl (Exists.intro (moC m) (And.intro (get_map hm) ?_)))
          | refine Exists.intro j (And.intro rfl (Exists.intro (bankC x) (And.intro (get_map hx) ?_)))
          | fail) <;> try cases h3)
        all_goals simp only [List.length_map, decide_eq_true_eq, decide_eq_false_iff_not, gt_iff_lt] at *
        · refine fin_b hp ?_
          have hb2 : bankB ⟨a, b, c, d⟩ m = false := all_bad hx (decide_eq_false (show ¬ (x.length : Int) ≤ b by omega))
          simp only [longB, all_bad hm hb2, Bool.not_false, Bool.and_true]
          exact decide_eq_true (show 0 < a by omega)
        all_goals refine Exists.intro [] (Exists.intro (m.banks.length - (j + 1)) (And.intro (by omega) ⟨j + 1, by omega, rfl, fun ha => ?_, by rw [hwj], rfl⟩))
        · exact all_take hx (hbk ha) (decide_eq_true (by omega))
        · omega
      · have h2 := of_decide_eq_false h2
        rw [List.length_map] at h2
        rw [List.take_of_length_le (by omega)] at hbk
        refine Exists.intro [] (Exists.intro (ms.length - (i + 1)) (And.intro (by omega) ⟨i + 1, by omega, rfl, fun ha => all_take hm (hall ha) (hbk ha), ?_, rfl⟩))
        rw [wrap_succ hlt (by omega)]
    · have h1 := of_decide_eq_false h1
      rw [List.length_map] at h1
      rw [List.take_of_length_le (by omega)] at hall
      refine fin_b hp ?_
      by_cases ha : 0 < a
      · simp only [longB, hall ha, Bool.not_true, Bool.and_false]
      · simp only [longB, decide_eq_false ha, Bool.false_and]
  · exact hp.elim
end Go.Proofs.YtbfjkjdbdejnmaaGreat.Ab

/- Link of the reference: the layout. No condition. -/
namespace Go.Proofs.YtbfjkjdbdejnmaaGreat.Ab
set_option linter.unusedVariables false
set_option linter.unusedSimpArgs false

abbrev laR (l : La) : AV := .agg [.slc 0 0 l.pls.length false, .v (.int .i64 l.stack), .slc 1 0 l.slots.length false, .v (.int .i64 l.flash), .v (.int .i64 l.ram), .slc 2 0 l.tgts.length false]
abbrev laH (l : La) : HP := [.lst 4 (l.pls.map plC), .lst 1 (l.slots.map intC), .lst 1 (l.tgts.map tgsC)]
def hLay : CH := fun args hl K => match args, hl with
  | [.imm _ _ 8 L, .agg [.v (.int .i64 a), .v (.int .i64 b), .v (.int .i64 c), .v (.int .i64 d)]], [] => ∃ ms : List Mo, L = ms.map moC ∧ (∀ m ∈ ms, smMo m) ∧ Sound ms ⟨a, b, c, d⟩ ∧ ms.all (fun m => resB ms m.imps) = true ∧ K (laR (laF ms ⟨a, b, c, d⟩)) (laH (laF ms ⟨a, b, c, d⟩))
  | _, _ => False
theorem int_notSl1 (bs : List Int) : ∀ e ∈ bs.map intC, ∀ x ∈ e, x.isSl = false := by
  intro e he x hx
  obtain ⟨b, _, rfl⟩ := List.mem_map.1 he
  simp [intC] at hx
  subst hx
  rfl
theorem takeA (l r : List (List AV)) : List.take (l.length + r.length) (l ++ r) = l ++ r := by rw [← List.length_append, List.take_length]
def cx_s_l5Lay : Ctx := mkCut [(94, callM [] false hRup), (138, callM [] true hTgts)]
theorem cx_s_l5Lay_ok : CtxOk Tryz.prog cx_s_l5Lay := mkCut_ok (mem1 ⟨s_l5Round, fnOk Tryz.func94 rfl rfl⟩ (mem1 ⟨s_l5Targets, fnOk Tryz.func138 rfl rfl⟩ mem0))
set_option maxRecDepth 100000 in
set_option pp.maxSteps 1500 in
set_option maxHeartbeats 16000000 in
theorem s_l5Lay : HSound Tryz.prog 140 (callM [] true hLay) := by
  refine callM_sound cx_s_l5Lay_ok mixed Tryz.func140 rfl fun args hl K hp => ?_
  unfold hLay at hp
  split at hp
  · rename_i t z L a b c d
    obtain ⟨ms, rfl, hsm, hS, hres, hp⟩ := hp
    obtain ⟨⟨ca0, ca1, cb0, cb1, cc0, cc1, ccm⟩, ⟨ln0, ln1⟩, hgm, _⟩ := hS
    simp only at ca0 ca1 cb0 cb1 cc0 cc1 ccm
    refine Exists.intro true (Exists.intro [0, 3, 4, 5, 6, 7] (Exists.intro (fun m vs h => ∃ i : Nat, i ≤ ms.length ∧ m = ms.length - i ∧ vs = [.imm t z 8 (ms.map moC), .ptr 0 0 0 4, .ptr 1 0 0 6, .ptr 2 0 0 6, .v (.int .i64 (plP ms i).2.2), .v (.int .i64 i)] ∧
      h = [.box [.v (.int .i64 a), .v (.int .i64 b), .v (.int .i64 c), .v (.int .i64 d)], .box [.sl 4 [], .v (.int .i64 0), .sl 1 [], .v (.int .i64 0), .v (.int .i64 0), .sl 1 []],
        .box [.sl 4 ((plP ms i).1.map plC), .v (.int .i64 0), .sl 1 [], .v (.int .i64 (plP ms i).2.1), .v (.int .i64 0), .sl 1 (((ms.take i).map fun m => tgsOf ms m.imps).map tgsC)]]) (And.intro ?_ ?_)))
    · refine Exists.intro [] ?_
      repeat' (first
        | refine Exists.intro [] (And.intro rfl (And.intro rfl (And.intro closed_nil ?_)))
        | fail)
      refine Exists.intro ms.length ?_
      exact ⟨0, by omega, rfl, rfl, rfl⟩
    intro m vs h hI
    obtain ⟨i, hi, rfl, rfl, rfl⟩ := hI
    refine Or.inl ?_
    refine And.intro (fun h1 => ?_) (fun h1 => ?_)
    · have h1 := of_decide_eq_true h1
      rw [List.length_map] at h1
      have hlt : i < ms.length := by omega
      obtain ⟨m, hm⟩ : ∃ m, ms[i]? = some m := ⟨_, List.getElem?_eq_getElem hlt⟩
      have hmm := hsm m (List.mem_of_getElem? hm)
      have g := hgm m (List.mem_of_getElem? hm)
      have gl := g.dl
      have gb := g.bss
      have gt := g.tl
      have hrm : resB ms m.imps = true := List.all_eq_true.1 hres m (List.mem_of_getElem? hm)
      have hst := plP_at hm
      obtain ⟨pb1, pb2⟩ := plP_le hgm i
      have pl := plP_len (ms := ms) (i := i) (by omega)
      generalize hQ : plP ms i = Q at *
      obtain ⟨PL, f, r⟩ := Q
      simp only at *
      have hbs : ((m.data.length : Int) + m.bss) = ((m.data.length + m.bss.toNat : Nat) : Int) := by omega
      have hwbs : IntKind.i64.wrap (((m.data.map byteC).length : Int) + m.bss) = ((m.data.length + m.bss.toNat : Nat) : Int) := by rw [List.length_map, wrap64 (by omega), hbs]
      have hwt : IntKind.i64.wrap (4 * ((m.text.map intC).length : Int)) = ((4 * m.text.length : Nat) : Int) := by rw [List.length_map, wrap64 (by omega)]; omega
      refine Exists.intro i (And.intro rfl (Exists.intro (moC m) (And.intro (get_map hm) ?_)))
      have hm1 : m.data.length + m.bss.toNat ≤ 1099511627776 := by omega
      have hm2 : 4 * m.text.length ≤ 1099511627776 := by omega
      have hwr : IntKind.i64.wrap (65536 + (r : Int)) = 65536 + (r : Int) := wrap64 (by omega)
      have hrt := rup_le (4 * m.text.length)
      have hwf : IntKind.i64.wrap ((f : Int) + (rup (4 * m.text.length) : Nat)) = ((f + rup (4 * m.text.length) : Nat) : Int) := by rw [wrap64 (by omega)]; omega
      have htn : ((ms.take i).map (fun m => tgsOf ms m.imps)).length ≤ 4 := by rw [List.length_map, List.length_take]; omega
      generalize hTG : (ms.take i).map (fun m => tgsOf ms m.imps) = TG at *
      refine Or.inr (Exists.intro true (Exists.intro [0, 3, 4, 5, 6, 7, 8, 9] (Exists.intro (fun vs h => vs = [.imm t z 8 (ms.map moC), .ptr 0 0 0 4, .ptr 1 0 0 6, .ptr 2 0 0 6, .v (.int .i64 r), .v (.int .i64 i), .ptr 3 0 0 8, .ptr 4 0 0 4] ∧
        h = [.box [.v (.int .i64 a), .v (.int .i64 b), .v (.int .i64 c), .v (.int .i64 d)], .box [.sl 4 [], .v (.int .i64 0), .sl 1 [], .v (.int .i64 0), .v (.int .i64 0), .sl 1 []],
          .box [.sl 4 (PL.map plC), .v (.int .i64 0), .sl 1 [], .v (.int .i64 f), .v (.int .i64 0), .sl 1 (TG.map tgsC)], .box [.v (.string m.name), .imm t false 1 (m.text.map intC), .imm t false 1 (m.banks.map bankC), .imm t false 1 (m.data.map byteC), .v (.int .i64 m.bss), .imm t false 1 (m.rels.map intC), .imm t false 1 (m.imps.map strC), .imm t false 3 (m.exps.map exC)],
          .box [.v (.int .i64 f), .sl 1 [], .v (.int .i64 (65536 + (r : Int))), .v (.int .i64 (moSz m))]]) (And.intro ?_ ?_))))
      · refine Or.inl ?_
        refine And.intro (show wfB _ = true from by kernel_rfl) ?_
        repeat' (first
          | (refine Exists.intro (m.data.length + m.bss.toNat) ?_; refine And.intro hwbs ?_; refine And.intro hm1 ?_; exact And.intro rfl rfl)
          | refine And.intro (show wfB _ = true from by kernel_rfl) ?_ | refine And.intro (And.intro rfl rfl) ?_ | exact And.intro rfl rfl | apply HeldC.intro | exact AV.top | (apply HeldF.intro; refine Exists.intro _ (And.intro (by assumption) ?_); refine And.intro (by decide) ?_; exact And.intro rfl rfl) | (refine And.intro (by (refine Exists.intro _ (And.intro (by assumption) ?_); refine And.intro (by decide) ?_; exact And.intro rfl rfl)) ?_) | refine Or.inl ?_
          | refine And.intro ?_ ?_
          | fail)
        all_goals refine Exists.intro [] ?_
        all_goals repeat' (first
          | refine Exists.intro _ (And.intro List.take_length (And.intro rfl (And.intro (closed_Place _) ?_)))
          | refine Exists.intro _ (And.intro List.take_length (And.intro rfl (And.intro (closed_TargetS _) ?_)))
          | refine Exists.intro _ (And.intro rfl (And.intro rfl (And.intro closed_nil ?_)))
          | fail)
        all_goals exact And.intro rfl (by rw [hwr]; rfl)
      rintro vs h ⟨rfl, rfl⟩
      refine Or.inl (Or.inl ?_)
      refine And.intro (show wfB _ = true from by kernel_rfl) ?_
      repeat' (first
        | (refine Exists.intro (4 * m.text.length) ?_; refine And.intro hwt ?_; refine And.intro hm2 ?_; exact And.intro rfl rfl)
        | refine And.intro (show wfB _ = true from by kernel_rfl) ?_ | refine And.intro (And.intro rfl rfl) ?_ | exact And.intro rfl rfl | apply HeldC.intro | exact AV.top | (apply HeldF.intro; refine Exists.intro _ (And.intro (by assumption) ?_); refine And.intro (by decide) ?_; exact And.intro rfl rfl) | (refine And.intro (by (refine Exists.intro _ (And.intro (by assumption) ?_); refine And.intro (by decide) ?_; exact And.intro rfl rfl)) ?_) | refine Or.inl ?_
        | fail)
      have hf1 : f + rup (4 * m.text.length) ≤ 20000 := by omega
      have hbk := fun b hb => (g.bk b hb).1
      have hbn := g.bl
      generalize hF1 : f + rup (4 * m.text.length) = f1 at *
      refine Exists.intro true (Exists.intro [0, 3, 4, 5, 6, 7, 8, 9, 10] (Exists.intro (fun n vs h => ∃ j : Nat, j ≤ m.banks.length ∧ n = m.banks.length - j ∧ vs = [.imm t z 8 (ms.map moC), .ptr 0 0 0 4, .ptr 1 0 0 6, .ptr 2 0 0 6, .v (.int .i64 r), .v (.int .i64 i), .ptr 3 0 0 8, .ptr 4 0 0 4, .v (.int .i64 j)] ∧
        h = [.box [.v (.int .i64 a), .v (.int .i64 b), .v (.int .i64 c), .v (.int .i64 d)], .box [.sl 4 [], .v (.int .i64 0), .sl 1 [], .v (.int .i64 0), .v (.int .i64 0), .sl 1 []],
          .box [.sl 4 (PL.map plC), .v (.int .i64 0), .sl 1 [], .v (.int .i64 (bkP m.banks f1 j).2), .v (.int .i64 0), .sl 1 (TG.map tgsC)], .box [.v (.string m.name), .imm t false 1 (m.text.map intC), .imm t false 1 (m.banks.map bankC), .imm t false 1 (m.data.map byteC), .v (.int .i64 m.bss), .imm t false 1 (m.rels.map intC), .imm t false 1 (m.imps.map strC), .imm t false 3 (m.exps.map exC)],
          .box [.v (.int .i64 f), .sl 1 ((bkP m.banks f1 j).1.map intC), .v (.int .i64 (65536 + (r : Int))), .v (.int .i64 (moSz m))]]) (And.intro ?_ ?_)))
      · refine Exists.intro [] ?_
        repeat' (first
          | refine Exists.intro _ (And.intro List.take_length (And.intro rfl (And.intro (closed_Place _) ?_)))
          | refine Exists.intro _ (And.intro List.take_length (And.intro rfl (And.intro (closed_TargetS _) ?_)))
          | refine Exists.intro _ (And.intro rfl (And.intro rfl (And.intro closed_nil ?_)))
          | fail)
        refine Exists.intro m.banks.length ⟨0, by omega, rfl, rfl, ?_⟩
        rw [hwf]
        rfl
      · intro n vs h hI
        obtain ⟨j, hj, rfl, rfl, rfl⟩ := hI
        refine Or.inl ?_
        refine And.intro (fun h2 => ?_) (fun h2 => ?_)
        · have h2 := of_decide_eq_true h2
          rw [List.length_map] at h2
          have hjl : j < m.banks.length := by omega
          obtain ⟨x, hx⟩ : ∃ x, m.banks[j]? = some x := ⟨_, List.getElem?_eq_getElem hjl⟩
          have hxl := hbk x (List.mem_of_getElem? hx)
          have hble := bkP_le hbk f1 j
          have hbl := bkP_len m.banks f1 hj
          have hbs := bkP_at m.banks f1 hx
          have hrx := rup_le (4 * x.length)
          have hwx : IntKind.i64.wrap (4 * ((x.map intC).length : Int)) = ((4 * x.length : Nat) : Int) := by rw [List.length_map, wrap64 (by omega)]; omega
          have hx2 : 4 * x.length ≤ 1099511627776 := by omega
          generalize bkP m.banks f1 j = B at *
          obtain ⟨bl, bf⟩ := B
          simp only at *
          repeat' (first
            | (refine Exists.intro [intC (bf : Int)] ?_; refine And.intro rfl ?_; refine And.intro rfl ?_; refine And.intro (int_notSl1 [_]) ?_)
            | refine And.intro rfl (And.intro (by simp; omega) (And.intro (by simp; omega) ?_))
            | refine Or.inl (Or.inl ?_)
            | refine And.intro (show wfB _ = true from by kernel_rfl) ?_
            | (refine Exists.intro (4 * x.length) ?_; refine And.intro hwx ?_; refine And.intro hx2 ?_; exact And.intro rfl rfl)
            | (apply HeldF.intro; refine Exists.intro j ?_; refine And.intro rfl ?_; refine Exists.intro (bankC x) ?_; refine And.intro (get_map hx) ?_; exact And.intro rfl rfl)
            | refine Exists.intro j (And.intro rfl (Exists.intro (bankC x) (And.intro (get_map hx) ?_)))
            | refine And.intro (show wfB _ = true from by kernel_rfl) ?_ | refine And.intro (And.intro rfl rfl) ?_ | exact And.intro rfl rfl | apply HeldC.intro | exact AV.top | (apply HeldF.intro; refine Exists.intro _ (And.intro (by assumption) ?_); refine And.intro (by decide) ?_; exact And.intro rfl rfl) | (refine And.intro (by (refine Exists.intro _ (And.intro (by assumption) ?_); refine And.intro (by decide) ?_; exact And.intro rfl rfl)) ?_) | refine Or.inl ?_
            | fail)
          refine Exists.intro [] ?_
          repeat' (first
            | refine Exists.intro _ (And.intro List.take_length (And.intro rfl (And.intro (closed_Place _) ?_)))
            | refine Exists.intro _ (And.intro List.take_length (And.intro rfl (And.intro (closed_TargetS _) ?_)))
            | refine Exists.intro _ (And.intro (takeA _ _) (And.intro List.length_append (And.intro (closed_app (closed_Int bl) (closed_Int [_])) ?_)))
            | refine Exists.intro _ (And.intro rfl (And.intro rfl (And.intro closed_nil ?_)))
            | fail)
          have hwB : IntKind.i64.wrap ((bf : Int) + (rup (4 * x.length) : Nat)) = ((bf + rup (4 * x.length) : Nat) : Int) := by rw [wrap64 (by omega)]; omega
          refine Exists.intro (m.banks.length - (j + 1)) (And.intro (by omega) ⟨j + 1, by omega, rfl, ?_, ?_⟩)
          · rw [wrap_succ hjl (by omega)]
          · rw [hbs, hwB]
            simp only [List.map_append]
            rfl
        · have h2 := of_decide_eq_false h2
          rw [List.length_map] at h2
          have hjj : j = m.banks.length := by omega
          subst hjj
          have hble := bkP_le hbk f1 m.banks.length
          have hbl := bkP_len m.banks f1 (Nat.le_refl m.banks.length)
          rw [show m.imps = m.imps from rfl] at hrm
          generalize bkP m.banks f1 m.banks.length = B at *
          obtain ⟨bl, bf⟩ := B
          simp only at *
          have hmz := rup_le (m.data.length + m.bss.toNat)
          have hwz : IntKind.i64.wrap ((r : Int) + (moSz m : Nat)) = ((r + moSz m : Nat) : Int) := by unfold moSz; rw [wrap64 (by omega)]; omega
          have hcp : ∀ x : Int, ClosedL [[AV.v (.int .i64 f), .sl 1 (bl.map intC), .v (.int .i64 x), .v (.int .i64 (moSz m))]] := fun x => closed_Place [⟨f, bl, x, moSz m⟩]
          have htgl : (tgsOf ms m.imps).length ≤ 1048576 := by
            have := List.length_filterMap_le (fun s => (resolveF ms s).map tgOf) m.imps
            have := g.il
            simp only [tgsOf]
            omega
          repeat' (first
            | refine Exists.intro _ (And.intro List.take_length (And.intro rfl (And.intro (closed_Int _) ?_)))
            | refine Exists.intro _ (And.intro (lendD _ _) (And.intro (List.length_map _) (And.intro (closed_Target _) ?_)))
            | refine Exists.intro ms (Exists.intro m (And.intro rfl (And.intro (by omega) (And.intro hsm (And.intro ⟨_, _, _, _, _, _, _, _, _, _, _, _, rfl⟩ (And.intro hmm (And.intro (fun _ => ?_) (fun h9 => absurd (hrm.symm.trans h9) (by decide)))))))))
            | refine And.intro rfl (And.intro rfl (And.intro (by simp; omega) (And.intro (by simp; omega) ?_)))
            | refine And.intro (hcp _) ?_
            | fail)
          refine Exists.intro [] ?_
          have hst2 : plP ms (i + 1) = (PL ++ [⟨f, bl, 65536 + (r : Int), moSz m⟩], bf, r + moSz m) := hst
          have htk : (ms.take (i + 1)).map (fun m => tgsOf ms m.imps) = TG ++ [tgsOf ms m.imps] := by
            rw [List.take_add_one, hm, List.map_append, hTG]
            rfl
          repeat' (first
            | refine Exists.intro _ (And.intro (takeA _ _) (And.intro List.length_append (And.intro (closed_app (closed_Place PL) (closed_Place [⟨f, bl, 65536 + (r : Int), moSz m⟩])) ?_)))
            | refine Exists.intro _ (And.intro (takeA _ _) (And.intro List.length_append (And.intro (closed_app (closed_TargetS TG) (closed_TargetS [_])) ?_)))
            | refine Exists.intro _ (And.intro rfl (And.intro rfl (And.intro closed_nil ?_)))
            | fail)
          refine Exists.intro (ms.length - (i + 1)) (And.intro (by omega) ⟨i + 1, by omega, rfl, ?_, ?_⟩)
          · rw [wrap_succ hlt (by omega), hst2, hwz]
          · rw [hst2, htk]
            simp only [List.map_append]
            rfl
    · have h1 := of_decide_eq_false h1
      rw [List.length_map] at h1
      have hil : i = ms.length := by omega
      subst hil
      rw [List.take_length]
      obtain ⟨pb1, pb2⟩ := plP_le hgm ms.length
      have pl := plP_len (ms := ms) (i := ms.length) (Nat.le_refl _)
      have eL : laF ms ⟨a, b, c, d⟩ = ⟨(plP ms ms.length).1, 65536 + ((plP ms ms.length).2.2 : Int), (slP b.toNat ((plP ms ms.length).2.2 + c.toNat) a.toNat).1, (plP ms ms.length).2.1, (slP b.toNat ((plP ms ms.length).2.2 + c.toNat) a.toNat).2, ms.map fun m => tgsOf ms m.imps⟩ := rfl
      have htn : (ms.map (fun m => tgsOf ms m.imps)).length ≤ 4 := by rw [List.length_map]; omega
      rw [eL] at hp
      clear eL
      generalize plP ms ms.length = Q at *
      obtain ⟨PL, f, r⟩ := Q
      generalize (ms.map fun m => tgsOf ms m.imps) = TG at *
      simp only at *
      obtain ⟨A, rfl⟩ := Int.eq_ofNat_of_zero_le ca0
      obtain ⟨W, rfl⟩ := Int.eq_ofNat_of_zero_le (show 0 ≤ b by omega)
      obtain ⟨S, rfl⟩ := Int.eq_ofNat_of_zero_le cc0
      simp only [Int.toNat_natCast] at hp
      have hw1 : IntKind.i64.wrap (65536 + (r : Int)) = 65536 + (r : Int) := wrap64 (by omega)
      have hw2 : IntKind.i64.wrap ((r : Int) + (S : Int)) = ((r + S : Nat) : Int) := by rw [wrap64 (by omega)]; omega
      have hw3 : IntKind.i64.wrap (4 * (W : Int)) = ((4 * W : Nat) : Int) := by rw [wrap64 (by omega)]; omega
      have hrw := rup_le (4 * W)
      generalize hr1 : r + S = r1 at *
      refine Exists.intro true (Exists.intro [0, 3, 4, 5, 6, 13] (Exists.intro (fun n vs h => ∃ k : Nat, k ≤ A ∧ n = A - k ∧ vs = [.imm t z 8 (ms.map moC), .ptr 0 0 0 4, .ptr 1 0 0 6, .ptr 2 0 0 6, .v (.int .i64 (slP W r1 k).2), .v (.int .i64 k)] ∧
        h = [.box [.v (.int .i64 A), .v (.int .i64 W), .v (.int .i64 S), .v (.int .i64 d)], .box [.sl 4 [], .v (.int .i64 0), .sl 1 [], .v (.int .i64 0), .v (.int .i64 0), .sl 1 []],
          .box [.sl 4 (PL.map plC), .v (.int .i64 (65536 + (r : Int))), .sl 1 ((slP W r1 k).1.map intC), .v (.int .i64 f), .v (.int .i64 0), .sl 1 (TG.map tgsC)]]) (And.intro ?_ ?_)))
      · refine Exists.intro [] ?_
        repeat' (first
          | refine Exists.intro _ (And.intro List.take_length (And.intro rfl (And.intro (closed_Place _) ?_)))
          | refine Exists.intro _ (And.intro List.take_length (And.intro rfl (And.intro (closed_TargetS _) ?_)))
          | refine Exists.intro _ (And.intro rfl (And.intro rfl (And.intro closed_nil ?_)))
          | fail)
        refine Exists.intro A ⟨0, by omega, rfl, ?_, ?_⟩
        · rw [hw2]
          rfl
        · rw [hw1]
          rfl
      · intro n vs h hI
        obtain ⟨k, hk, rfl, rfl, rfl⟩ := hI
        refine Or.inl ?_
        refine And.intro (fun h2 => ?_) (fun h2 => ?_)
        · have h2 := of_decide_eq_true h2
          have hkl : k < A := by omega
          have hsl := slP_len W r1 k
          have hsp := slP_le (w := W) (by omega) r1 k
          have hss : slP W r1 (k + 1) = ((slP W r1 k).1 ++ [65536 + ((slP W r1 k).2 : Int)], (slP W r1 k).2 + rup (4 * W)) := rfl
          generalize slP W r1 k = B at *
          obtain ⟨sl, sr⟩ := B
          simp only at *
          have hw4 : IntKind.i64.wrap (65536 + (sr : Int)) = 65536 + (sr : Int) := wrap64 (by omega)
          have hw5 : IntKind.i64.wrap ((sr : Int) + (rup (4 * W) : Nat)) = ((sr + rup (4 * W) : Nat) : Int) := by rw [wrap64 (by omega)]; omega
          repeat' (first
            | (refine Exists.intro [intC (IntKind.i64.wrap (65536 + (sr : Int)))] ?_; refine And.intro rfl ?_; refine And.intro rfl ?_; refine And.intro (int_notSl1 [_]) ?_)
            | refine And.intro rfl (And.intro (by simp; omega) (And.intro (by simp; omega) ?_))
            | refine Exists.intro (4 * W) (And.intro hw3 (And.intro (by omega) ?_))
            | fail)
          refine Exists.intro [] ?_
          repeat' (first
            | refine Exists.intro _ (And.intro List.take_length (And.intro rfl (And.intro (closed_Place _) ?_)))
            | refine Exists.intro _ (And.intro List.take_length (And.intro rfl (And.intro (closed_TargetS _) ?_)))
            | refine Exists.intro _ (And.intro (takeA _ _) (And.intro List.length_append (And.intro (closed_app (closed_Int sl) (closed_Int [_])) ?_)))
            | refine Exists.intro _ (And.intro rfl (And.intro rfl (And.intro closed_nil ?_)))
            | fail)
          refine Exists.intro (A - (k + 1)) (And.intro (by omega) ⟨k + 1, by omega, rfl, ?_, ?_⟩)
          · rw [wrap_succ hkl (by omega), hss, hw5]
          · rw [hss, hw4]
            simp only [List.map_append]
            rfl
        · have h2 := of_decide_eq_false h2
          have hkA : k = A := by omega
          subst hkA
          generalize slP W r1 k = B at *
          obtain ⟨sl, sr⟩ := B
          simp only at *
          repeat' (first
            | refine And.intro (closed_Place _) ?_
            | refine And.intro (closed_TargetS _) ?_
            | refine And.intro (closed_Int _) ?_
            | fail)
          try (conv => whnf)
          simp only [List.length_map]
          exact hp
  · exact hp.elim
end Go.Proofs.YtbfjkjdbdejnmaaGreat.Ab

/- Link of the reference, whole. No condition. -/
namespace Go.Proofs.YtbfjkjdbdejnmaaGreat.Ab
set_option linter.unusedVariables false
set_option linter.unusedSimpArgs false

def hLink : CH := fun args hl K => match args, hl with
  | [.imm _ _ 8 L, .agg [.v (.int .i64 a), .v (.int .i64 b), .v (.int .i64 c), .v (.int .i64 d)]], [] => ∃ ms : List Mo, L = ms.map moC ∧ ms.length ≤ 1048576 ∧ (∀ m ∈ ms, smMo m) ∧
      K (.tup [laR (linkL ms ⟨a, b, c, d⟩), .v (.int .i64 (linkC ms ⟨a, b, c, d⟩))]) (laH (linkL ms ⟨a, b, c, d⟩))
  | _, _ => False
theorem fin_k {K : AV → HP → Prop} {ms : List Mo} {c : Cf} (hp : K (.tup [laR (linkL ms c), .v (.int .i64 (linkC ms c))]) (laH (linkL ms c))) {n : Int} (h : linkC ms c = n) (hn : n ≠ 0) : K (.tup [laR zeroLa, .v (.int .i64 n)]) (laH zeroLa) := by
  subst h
  rw [show linkL ms c = zeroLa from if_neg hn] at hp
  exact hp
theorem fin_la {K : AV → HP → Prop} {ms : List Mo} {c : Cf} (hp : K (.tup [laR (linkL ms c), .v (.int .i64 (linkC ms c))]) (laH (linkL ms c))) (h : linkC ms c = 0) : K (.tup [laR (laF ms c), .v (.int .i64 0)]) (laH (laF ms c)) := by
  rw [show linkL ms c = laF ms c from if_pos h, h] at hp
  exact hp
def cx_s_spec_Link : Ctx := mkC [(137, callM [] true hSoundC), (138, callM [] true hTgts), (139, callM [] true hLongC), (140, callM [] true hLay)]
theorem cx_s_spec_Link_ok : CtxOk Tryz.prog cx_s_spec_Link := mkC_ok (mem1 ⟨s_l5Sound, fnOk Tryz.func137 rfl rfl⟩ (mem1 ⟨s_l5Targets, fnOk Tryz.func138 rfl rfl⟩ (mem1 ⟨s_l5TooLong, fnOk Tryz.func139 rfl rfl⟩ (mem1 ⟨s_l5Lay, fnOk Tryz.func140 rfl rfl⟩ mem0))))
set_option maxRecDepth 100000 in
set_option pp.maxSteps 1500 in
set_option maxHeartbeats 16000000 in
theorem s_spec_Link : HSound Tryz.prog 89 (callM [] true hLink) := by
  refine callM_sound cx_s_spec_Link_ok mixed Tryz.func89 rfl fun args hl K hp => ?_
  unfold hLink at hp
  split at hp
  · rename_i t z L a b c d
    obtain ⟨ms, rfl, hlen, hsm, hp⟩ := hp
    refine Exists.intro ms (And.intro rfl (And.intro hlen (And.intro hsm ?_)))
    refine And.intro (fun h1 => ?_) (fun h1 => ?_)
    · have h1 : ¬ soundF ms ⟨a, b, c, d⟩ = 0 := by simpa using h1
      have e : linkC ms ⟨a, b, c, d⟩ = soundF ms ⟨a, b, c, d⟩ := if_pos h1
      refine Or.inl ?_
      refine And.intro (show wfB _ = true from by kernel_rfl) ?_
      repeat' (first
        | (refine Exists.intro ms ?_; refine And.intro rfl ?_; refine And.intro hlen ?_; refine And.intro hsm ?_; exact And.intro rfl rfl)
        | refine And.intro (show wfB _ = true from by kernel_rfl) ?_ | refine And.intro (And.intro rfl rfl) ?_ | exact And.intro rfl rfl | apply HeldC.intro | exact AV.top | (apply HeldF.intro; refine Exists.intro _ (And.intro (by assumption) ?_); refine And.intro (by decide) ?_; exact And.intro rfl rfl) | (refine And.intro (by (refine Exists.intro _ (And.intro (by assumption) ?_); refine And.intro (by decide) ?_; exact And.intro rfl rfl)) ?_) | refine Or.inl ?_
        | fail)
      have hp2 := fin_k hp e h1
      refine And.intro closed_nil (And.intro closed_nil (And.intro closed_nil ?_))
      exact hp2
    have h1 : soundF ms ⟨a, b, c, d⟩ = 0 := by simpa using h1
    have hS := sound_of h1
    have f5 : ms.all (fun m => resB ms m.imps) = false → linkC ms ⟨a, b, c, d⟩ = 5 := fun h => by simp only [linkC, h1, h, ne_eq, not_true_eq_false, if_true, if_false]
    have hl4 := hS.len
    refine Exists.intro true (Exists.intro [0, 3, 4, 6, 7] (Exists.intro (fun m vs h => ∃ i : Nat, i ≤ ms.length ∧ m = ms.length - i ∧ (ms.take i).all (fun m => resB ms m.imps) = true ∧ vs = [.imm t z 8 (ms.map moC), .ptr 0 0 0 4, .ptr 1 0 0 6, .ptr 2 0 0 6, .v (.int .i64 i)] ∧
      h = [.box [.v (.int .i64 a), .v (.int .i64 b), .v (.int .i64 c), .v (.int .i64 d)], .box [.sl 4 [], .v (.int .i64 0), .sl 1 [], .v (.int .i64 0), .v (.int .i64 0), .sl 1 []], .box [.sl 4 [], .v (.int .i64 0), .sl 1 [], .v (.int .i64 0), .v (.int .i64 0), .sl 1 []]]) (And.intro ?_ ?_)))
    · refine Exists.intro [] ?_
      repeat' (first
        | refine Exists.intro _ (And.intro rfl (And.intro rfl (And.intro closed_nil ?_)))
        | fail)
      exact Exists.intro ms.length ⟨0, by omega, rfl, rfl, rfl, rfl⟩
    intro m vs h hI
    obtain ⟨i, hi, rfl, hall, rfl, rfl⟩ := hI
    refine And.intro (fun h2 => ?_) (fun h2 => ?_)
    · have h2 := of_decide_eq_true h2
      rw [List.length_map] at h2
      have hlt : i < ms.length := by omega
      obtain ⟨m, hm⟩ : ∃ m, ms[i]? = some m := ⟨_, List.getElem?_eq_getElem hlt⟩
      have hmm := hsm m (List.mem_of_getElem? hm)
      refine Exists.intro i (And.intro rfl (Exists.intro (moC m) (And.intro (get_map hm) ?_)))
      refine Exists.intro ms (Exists.intro m (And.intro rfl (And.intro hlen (And.intro hsm (And.intro ⟨_, _, _, _, _, _, _, _, _, _, _, _, rfl⟩ (And.intro hmm (And.intro (fun h3 => ?_) (fun h3 l => ?_))))))))
      · refine And.intro (fun h4 => by cases h4) (fun h4 => ?_)
        refine Exists.intro [] ?_
        repeat' (first
          | refine Exists.intro _ (And.intro rfl (And.intro rfl (And.intro closed_nil ?_)))
          | refine And.intro (closed_Target _) ?_
          | fail)
        refine Exists.intro (ms.length - (i + 1)) (And.intro (by omega) ⟨i + 1, by omega, rfl, all_take hm hall h3, ?_, ?_⟩)
        · rw [wrap_succ hlt (by omega)]
        · rfl
      · refine And.intro (fun h4 => ?_) (fun h4 => by cases h4)
        have hp2 := fin_k hp (f5 (all_bad hm h3)) (by decide)
        refine And.intro closed_nil (And.intro closed_nil (And.intro closed_nil ?_))
        exact hp2
    have h2 := of_decide_eq_false h2
    rw [List.length_map] at h2
    rw [List.take_of_length_le (by omega)] at hall
    refine Exists.intro ms (And.intro rfl (And.intro hlen (And.intro hsm ?_)))
    refine And.intro (fun h3 => ?_) (fun h3 => ?_)
    · have e : linkC ms ⟨a, b, c, d⟩ = 6 := by simp only [linkC, h1, hall, h3, ne_eq, not_true_eq_false, Bool.true_eq_false, if_true, if_false]
      have hp2 := fin_k hp e (by decide)
      refine And.intro closed_nil (And.intro closed_nil (And.intro closed_nil ?_))
      exact hp2
    · refine Exists.intro ms (And.intro rfl (And.intro hsm (And.intro hS (And.intro hall ?_))))
      have e : linkC ms ⟨a, b, c, d⟩ = if 16384 < (laF ms ⟨a, b, c, d⟩).flash then 7 else if 16384 < (laF ms ⟨a, b, c, d⟩).ram then 8 else 0 := by simp only [linkC, h1, hall, h3, ne_eq, not_true_eq_false, Bool.true_eq_false, Bool.false_eq_true, if_true, if_false]
      refine And.intro (fun h4 => ?_) (fun h4 => ?_)
      · have h4 := of_decide_eq_true h4
        rw [if_pos h4] at e
        have hp2 := fin_k hp e (by decide)
        refine And.intro closed_nil (And.intro closed_nil (And.intro closed_nil ?_))
        exact hp2
      have h4 := of_decide_eq_false h4
      rw [if_neg h4] at e
      refine And.intro (fun h5 => ?_) (fun h5 => ?_)
      · have h5 := of_decide_eq_true h5
        rw [if_pos h5] at e
        have hp2 := fin_k hp e (by decide)
        refine And.intro closed_nil (And.intro closed_nil (And.intro closed_nil ?_))
        exact hp2
      · have h5 := of_decide_eq_false h5
        rw [if_neg h5] at e
        have hp2 := fin_la hp e
        refine And.intro (closed_Place _) (And.intro (closed_Int _) (And.intro (closed_TargetS _) ?_))
        exact hp2
  · exact hp.elim
end Go.Proofs.YtbfjkjdbdejnmaaGreat.Ab
