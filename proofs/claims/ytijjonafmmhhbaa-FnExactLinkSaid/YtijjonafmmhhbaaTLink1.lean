/- Link: configurations and allocators. No condition. -/
import Derived.Test.YtijjonafmmhhbaaTLinkD
namespace Go.Proofs.Ytijjonafmmhhbaa.Ab
set_option linter.unusedVariables false
set_option linter.unusedSimpArgs false

def hCfg : CH := fun args hl K => match args, hl with
  | [.agg [.v (.int .i64 a), .v (.int .i64 b), .v (.int .i64 c), .v (.int .i64 d)]], [] => K (.v (.bool (cfgB ⟨a, b, c, d⟩))) []
  | _, _ => False
def cx_s_impl_ConfigOk : Ctx := mkC []
theorem cx_s_impl_ConfigOk_ok : CtxOk Try.prog cx_s_impl_ConfigOk := cx0_ok
set_option maxRecDepth 100000 in
set_option pp.maxSteps 1500 in
set_option maxHeartbeats 4000000 in
theorem s_impl_ConfigOk : HSound Try.prog 75 (callM [] false hCfg) := by
  refine callM_sound cx_s_impl_ConfigOk_ok mixed Try.func75 rfl fun args hl K hp => ?_
  unfold hCfg at hp
  split at hp
  · rename_i a b c d
    repeat' ((first | refine And.intro (fun h1 => ?_) (fun h1 => ?_) | refine And.intro (by decide) ?_ | refine And.intro (show wfB _ = true from by kernel_rfl) ?_ | refine And.intro (And.intro rfl rfl) ?_ | exact And.intro rfl rfl | apply HeldC.intro | exact AV.top | (apply HeldF.intro; refine Exists.intro _ (And.intro (by assumption) ?_); refine And.intro (by decide) ?_; exact And.intro rfl rfl) | (refine And.intro (by (refine Exists.intro _ (And.intro (by assumption) ?_); refine And.intro (by decide) ?_; exact And.intro rfl rfl)) ?_) | refine Or.inl ?_) <;> try cases h1)
    all_goals refine fin_b hp ?_
    all_goals clear hp
    all_goals rw [Bool.eq_iff_iff]
    all_goals simp only [cfgB, decide_eq_true_eq]
    all_goals generalize c.tmod 32 = r at *
    all_goals simp only [ beq_iff_eq, beq_eq_false_iff_ne, ne_eq, decide_eq_true_eq, decide_eq_false_iff_not, Bool.false_eq_true, false_iff, true_iff, iff_false, iff_true, ge_iff_le] at *
    all_goals omega
  · exact hp.elim
def cx_s_spec_ConfigOk : Ctx := mkC []
theorem cx_s_spec_ConfigOk_ok : CtxOk Try.prog cx_s_spec_ConfigOk := cx0_ok
set_option maxRecDepth 100000 in
set_option pp.maxSteps 1500 in
set_option maxHeartbeats 4000000 in
theorem s_spec_ConfigOk : HSound Try.prog 111 (callM [] false hCfg) := by
  refine callM_sound cx_s_spec_ConfigOk_ok mixed Try.func111 rfl fun args hl K hp => ?_
  unfold hCfg at hp
  split at hp
  · rename_i a b c d
    repeat' ((first | refine And.intro (fun h1 => ?_) (fun h1 => ?_) | refine And.intro (by decide) ?_ | refine And.intro (show wfB _ = true from by kernel_rfl) ?_ | refine And.intro (And.intro rfl rfl) ?_ | exact And.intro rfl rfl | apply HeldC.intro | exact AV.top | (apply HeldF.intro; refine Exists.intro _ (And.intro (by assumption) ?_); refine And.intro (by decide) ?_; exact And.intro rfl rfl) | (refine And.intro (by (refine Exists.intro _ (And.intro (by assumption) ?_); refine And.intro (by decide) ?_; exact And.intro rfl rfl)) ?_) | refine Or.inl ?_) <;> try cases h1)
    all_goals refine fin_b hp ?_
    all_goals clear hp
    all_goals rw [Bool.eq_iff_iff]
    all_goals simp only [cfgB, decide_eq_true_eq]
    all_goals generalize c.tmod 32 = r at *
    all_goals simp only [ beq_iff_eq, beq_eq_false_iff_ne, ne_eq, decide_eq_true_eq, decide_eq_false_iff_not, Bool.false_eq_true, false_iff, true_iff, iff_false, iff_true, ge_iff_le] at *
    all_goals omega
  · exact hp.elim
def hRup : CH := fun args hl K => match args, hl with
  | [.v (.int .i64 n)], [] => ∃ N : Nat, n = N ∧ N ≤ 1099511627776 ∧ K (.v (.int .i64 (rup N : Nat))) []
  | _, _ => False
def cx_s_roundUp : Ctx := mkC []
theorem cx_s_roundUp_ok : CtxOk Try.prog cx_s_roundUp := cx0_ok
set_option maxRecDepth 100000 in
set_option pp.maxSteps 1500 in
theorem s_roundUp : HSound Try.prog 123 (callM [] false hRup) := by
  refine callM_sound cx_s_roundUp_ok mixed Try.func123 rfl fun args hl K hp => ?_
  unfold hRup at hp
  split at hp
  · obtain ⟨N, rfl, hN, hp⟩ := hp
    rw [← rup_wrap hN] at hp
    refine And.intro (by decide) ?_
    exact hp
  · exact hp.elim
def cx_s_l5Round : Ctx := mkC []
theorem cx_s_l5Round_ok : CtxOk Try.prog cx_s_l5Round := cx0_ok
set_option maxRecDepth 100000 in
set_option pp.maxSteps 1500 in
theorem s_l5Round : HSound Try.prog 113 (callM [] false hRup) := by
  refine callM_sound cx_s_l5Round_ok mixed Try.func113 rfl fun args hl K hp => ?_
  unfold hRup at hp
  split at hp
  · obtain ⟨N, rfl, hN, hp⟩ := hp
    rw [← rup_wrap hN] at hp
    refine And.intro (by decide) ?_
    exact hp
  · exact hp.elim
def hLenF : CH := fun args hl K => match args, hl with
  | [.imm _ _ 1 L], [] => L.length ≤ 1048576 ∧ K (.v (.int .i64 ((4 * L.length : Nat) : Int))) []
  | _, _ => False
def cx_s_placed1 : Ctx := mkC []
theorem cx_s_placed1_ok : CtxOk Try.prog cx_s_placed1 := cx0_ok
set_option maxRecDepth 100000 in
set_option pp.maxSteps 1500 in
theorem s_placed1 : HSound Try.prog 119 (callM [] true hLenF) := by
  refine callM_sound cx_s_placed1_ok mixed Try.func119 rfl fun args hl K hp => ?_
  unfold hLenF at hp
  split at hp
  · rename_i L
    obtain ⟨hL, hp⟩ := hp
    rw [show (((4 * L.length : Nat) : Int)) = IntKind.i64.wrap (4 * (L.length : Int)) from by rw [wrap64 (by omega)]; omega] at hp
    exact hp
  · exact hp.elim
def hIdF : CH := fun args hl K => match args, hl with
  | [.v (.int .i64 n)], [] => K (.v (.int .i64 n)) []
  | _, _ => False
def cx_s_placed2 : Ctx := mkC []
theorem cx_s_placed2_ok : CtxOk Try.prog cx_s_placed2 := cx0_ok
set_option maxRecDepth 100000 in
set_option pp.maxSteps 1500 in
theorem s_placed2 : HSound Try.prog 121 (callM [] false hIdF) := by
  refine callM_sound cx_s_placed2_ok mixed Try.func121 rfl fun args hl K hp => ?_
  unfold hIdF at hp
  split at hp
  · exact hp
  · exact hp.elim
def hNewAl : CH := fun args hl K => match args, hl with
  | [.v (.int .i64 n), .fn f []], [] => K (.ptr 0 0 0 3) [.box [.v (.int .i64 n), .v (.int .i64 n), .fn f []]]
  | _, _ => False
def cx_s_newAl1 : Ctx := mkC []
theorem cx_s_newAl1_ok : CtxOk Try.prog cx_s_newAl1 := cx0_ok
set_option maxRecDepth 100000 in
set_option pp.maxSteps 1500 in
theorem s_newAl1 : HSound Try.prog 118 (callM [] false hNewAl) := by
  refine callM_sound cx_s_newAl1_ok mixed Try.func118 rfl fun args hl K hp => ?_
  unfold hNewAl at hp
  split at hp
  · exact hp
  · exact hp.elim
def cx_s_newAl2 : Ctx := mkC []
theorem cx_s_newAl2_ok : CtxOk Try.prog cx_s_newAl2 := cx0_ok
set_option maxRecDepth 100000 in
set_option pp.maxSteps 1500 in
theorem s_newAl2 : HSound Try.prog 120 (callM [] false hNewAl) := by
  refine callM_sound cx_s_newAl2_ok mixed Try.func120 rfl fun args hl K hp => ?_
  unfold hNewAl at hp
  split at hp
  · exact hp
  · exact hp.elim
def hUsed : CH := fun args hl K => match args, hl with
  | [.ptr 0 0 0 _], [.box [.v (.int .i64 b), .v (.int .i64 n), .fn f []]] => I64 (n - b) ∧ K (.v (.int .i64 (n - b))) [.box [.v (.int .i64 b), .v (.int .i64 n), .fn f []]]
  | _, _ => False
def cx_s_used1 : Ctx := mkC []
theorem cx_s_used1_ok : CtxOk Try.prog cx_s_used1 := cx0_ok
set_option maxRecDepth 100000 in
set_option pp.maxSteps 1500 in
theorem s_used1 : HSound Try.prog 125 (callM [.rw] false hUsed) := by
  refine callM_sound cx_s_used1_ok mixed Try.func125 rfl fun args hl K hp => ?_
  unfold hUsed at hp
  split at hp
  · obtain ⟨hI, hp⟩ := hp
    rw [← wrap64 hI] at hp
    refine And.intro (show Region.lexB _ _ = true from by kernel_rfl) ?_
    exact hp
  · exact hp.elim
def cx_s_used2 : Ctx := mkC []
theorem cx_s_used2_ok : CtxOk Try.prog cx_s_used2 := cx0_ok
set_option maxRecDepth 100000 in
set_option pp.maxSteps 1500 in
theorem s_used2 : HSound Try.prog 126 (callM [.rw] false hUsed) := by
  refine callM_sound cx_s_used2_ok mixed Try.func126 rfl fun args hl K hp => ?_
  unfold hUsed at hp
  split at hp
  · obtain ⟨hI, hp⟩ := hp
    rw [← wrap64 hI] at hp
    refine And.intro (show Region.lexB _ _ = true from by kernel_rfl) ?_
    exact hp
  · exact hp.elim
def hPlaceL : CH := fun args hl K => match args, hl with
  | [.ptr 0 0 0 _, .imm _ _ 1 L], [.box [.v (.int .i64 b), .v (.int .i64 n), .fn f []]] => f = 119 ∧ ∃ N : Nat, n = N ∧ N ≤ 1048576 ∧ L.length ≤ 1048576 ∧ K (.v (.int .i64 N)) [.box [.v (.int .i64 b), .v (.int .i64 ((N + rup (4 * L.length) : Nat) : Int)), .fn f []]]
  | _, _ => False
def cx_s_place1 : Ctx := mkC [(123, callM [] false hRup), (119, callM [] true hLenF)]
theorem cx_s_place1_ok : CtxOk Try.prog cx_s_place1 := mkC_ok (mem1 ⟨s_roundUp, fnOk Try.func123 rfl rfl⟩ (mem1 ⟨s_placed1, fnOk Try.func119 rfl rfl⟩ mem0))
set_option maxRecDepth 100000 in
set_option pp.maxSteps 1500 in
theorem s_place1 : HSound Try.prog 122 (callM [.rw] true hPlaceL) := by
  refine callM_sound cx_s_place1_ok mixed Try.func122 rfl fun args hl K hp => ?_
  unfold hPlaceL at hp
  split at hp
  · rename_i L b n f
    obtain ⟨rfl, N, rfl, hN, hL, hp⟩ := hp
    have hr := rup_le (4 * L.length)
    have hw : IntKind.i64.wrap ((N : Int) + (rup (4 * L.length) : Nat)) = ((N + rup (4 * L.length) : Nat) : Int) := by rw [wrap64 (by omega)]; omega
    refine Or.inl ?_
    refine And.intro (show wfB _ = true from by kernel_rfl) ?_
    repeat' (first
      | (refine And.intro hL ?_; exact And.intro rfl rfl)
      | (refine Exists.intro (4 * L.length) ?_; refine And.intro rfl ?_; refine And.intro (by omega) ?_; exact And.intro rfl rfl)
      | refine And.intro (show wfB _ = true from by kernel_rfl) ?_ | refine And.intro (And.intro rfl rfl) ?_ | exact And.intro rfl rfl | apply HeldC.intro | exact AV.top | (apply HeldF.intro; refine Exists.intro _ (And.intro (by assumption) ?_); refine And.intro (by decide) ?_; exact And.intro rfl rfl) | (refine And.intro (by (refine Exists.intro _ (And.intro (by assumption) ?_); refine And.intro (by decide) ?_; exact And.intro rfl rfl)) ?_) | refine Or.inl ?_)
    rw [hw]
    exact hp
  · exact hp.elim
def hPlaceN : CH := fun args hl K => match args, hl with
  | [.ptr 0 0 0 _, .v (.int .i64 s)], [.box [.v (.int .i64 b), .v (.int .i64 n), .fn f []]] => f = 121 ∧ ∃ N S : Nat, n = N ∧ s = S ∧ N ≤ 1048576 ∧ S ≤ 1048576 ∧ K (.v (.int .i64 N)) [.box [.v (.int .i64 b), .v (.int .i64 ((N + rup S : Nat) : Int)), .fn f []]]
  | _, _ => False
def cx_s_place2 : Ctx := mkC [(123, callM [] false hRup), (121, callM [] false hIdF)]
theorem cx_s_place2_ok : CtxOk Try.prog cx_s_place2 := mkC_ok (mem1 ⟨s_roundUp, fnOk Try.func123 rfl rfl⟩ (mem1 ⟨s_placed2, fnOk Try.func121 rfl rfl⟩ mem0))
set_option maxRecDepth 100000 in
set_option pp.maxSteps 1500 in
theorem s_place2 : HSound Try.prog 124 (callM [.rw] true hPlaceN) := by
  refine callM_sound cx_s_place2_ok mixed Try.func124 rfl fun args hl K hp => ?_
  unfold hPlaceN at hp
  split at hp
  · rename_i s b n f
    obtain ⟨rfl, N, S, rfl, rfl, hN, hS, hp⟩ := hp
    have hr := rup_le S
    have hw : IntKind.i64.wrap ((N : Int) + (rup S : Nat)) = ((N + rup S : Nat) : Int) := by rw [wrap64 (by omega)]; omega
    refine Or.inl ?_
    refine And.intro (show wfB _ = true from by kernel_rfl) ?_
    repeat' (first
      | (refine Exists.intro S ?_; refine And.intro rfl ?_; refine And.intro (by omega) ?_; exact And.intro rfl rfl)
      | refine And.intro (show wfB _ = true from by kernel_rfl) ?_ | refine And.intro (And.intro rfl rfl) ?_ | exact And.intro rfl rfl | apply HeldC.intro | exact AV.top | (apply HeldF.intro; refine Exists.intro _ (And.intro (by assumption) ?_); refine And.intro (by decide) ?_; exact And.intro rfl rfl) | (refine And.intro (by (refine Exists.intro _ (And.intro (by assumption) ?_); refine And.intro (by decide) ?_; exact And.intro rfl rfl)) ?_) | refine Or.inl ?_)
    rw [hw]
    exact hp
  · exact hp.elim
end Go.Proofs.Ytijjonafmmhhbaa.Ab
