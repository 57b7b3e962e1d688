/- Resolve: the law. No condition. -/
import Derived.Test.YtegcfogbdgmajaaTRes3
import Derived.Test.YtegcfogbdgmajaaTArgsM
namespace Go.Proofs.Ytegcfogbdgmajaa.Ab
set_option linter.unusedVariables false
set_option linter.unusedSimpArgs false

def hEqTgt : CH := fun args hl K => match args, hl with
  | [.agg [.v (.int .i64 a), .v (.int .i64 b), .v (.int .i64 c)], .agg [.v (.int .i64 a'), .v (.int .i64 b'), .v (.int .i64 c')]], [] => a = a' ∧ b = b' ∧ c = c' ∧ K (.v (.bool true)) []
  | _, _ => False
def cx_s_eqTarget : Ctx := mkC []
theorem cx_s_eqTarget_ok : CtxOk Try.prog cx_s_eqTarget := cx0_ok
set_option maxRecDepth 100000 in
set_option pp.maxSteps 1500 in
theorem s_eqTarget : HSound Try.prog 55 (callM [] false hEqTgt) := by
  refine callM_sound cx_s_eqTarget_ok mixed Try.func55 rfl fun args hl K hp => ?_
  unfold hEqTgt at hp
  split at hp
  · obtain ⟨rfl, rfl, rfl, hp⟩ := hp
    repeat' ((first | refine And.intro (fun h1 => ?_) (fun h1 => ?_) | refine And.intro (by decide) ?_ | refine And.intro (show wfB _ = true from by kernel_rfl) ?_ | refine And.intro (And.intro rfl rfl) ?_ | exact And.intro rfl rfl | apply HeldC.intro | exact AV.top | (apply HeldF.intro; refine Exists.intro _ (And.intro (by assumption) ?_); refine And.intro (by decide) ?_; exact And.intro rfl rfl) | (refine And.intro (by (refine Exists.intro _ (And.intro (by assumption) ?_); refine And.intro (by decide) ?_; exact And.intro rfl rfl)) ?_) | refine Or.inl ?_) <;> try cases h1)
    all_goals first | exact hp | (exfalso; simp at h1; done)
  · exact hp.elim

def cx12 : Ctx := mkC [(51, callM [] true hSzModule), (53, callM [] true hToModule), (52, callM [] true hRes), (54, callM [] true hRes), (55, callM [] false hEqTgt), (56, callM [] true hEqModule)]
theorem cx12_ok : CtxOk Try.prog cx12 := mkC_ok (mem1 ⟨s_szModuleS, fnOk Try.func51 rfl rfl⟩ (mem1 ⟨s_toModuleS, fnOk Try.func53 rfl rfl⟩ (mem1 ⟨s_spec_Resolve, fnOk Try.func52 rfl rfl⟩ (mem1 ⟨s_impl_Resolve, fnOk Try.func54 rfl rfl⟩ (mem1 ⟨s_eqTarget, fnOk Try.func55 rfl rfl⟩ (mem1 ⟨s_eqModuleS, fnOk Try.func56 rfl rfl⟩ mem0))))))
set_option maxRecDepth 100000 in
set_option maxHeartbeats 16000000 in
set_option pp.maxSteps 1500 in
theorem s12 (xs : List AV) (hx : ArgsOf Try.prog 6 [69, 9] xs) : inlH cx12 Try.f12.ntmps Try.f12.results.toList (Try.f12.body.getD .skip) xs [] fun x _ => x = .v (.bool true) := by
  obtain ⟨x, _, l1, rfl, hs, ha, x2, _, l2, rfl, hs2, ha2, rfl⟩ := hx
  obtain ⟨ms, rfl, hok, hlen⟩ := arg_moS hs ha
  obtain ⟨s, rfl, hss⟩ := arg_str hs2 ha2
  refine And.intro (fun h1 => rfl) (fun h1 => ?_)
  have h1 := of_decide_eq_false h1
  have hs' : s.size ≤ 1048576 := by omega
  clear h1
  refine Exists.intro ms (And.intro rfl (And.intro (fun m hm => (hok m hm).big) (And.intro hlen (And.intro (by decide) (And.intro (by decide) ?_)))))
  refine And.intro (fun h1 => rfl) (fun h1 => ?_)
  have h1 := of_decide_eq_false h1
  have hw : wtModule ms ≤ 1048576 := by have := szB_ge (by decide) h1; omega
  clear h1
  simp only [wtModule] at hw
  have hl : ms.length ≤ 1048576 := by omega
  have hsm : ∀ m ∈ ms, smMo m := fun m hm => sm_of_wt (by have := le_sum (f := wtMo) hm; omega)
  refine Exists.intro ms (And.intro rfl (And.intro hsm (And.intro hl ?_)))
  generalize hR : resolveF ms s = R
  cases R
  all_goals repeat' ((first
    | refine Exists.intro _ (And.intro (lendD _ _) (And.intro (List.length_map _) ?_))
    | refine And.intro (closed_Module _) ?_
    | refine Exists.intro ms (And.intro rfl (And.intro hl (And.intro hsm (And.intro hs' ?_)))); rw [hR]
    | refine Exists.intro ms (And.intro rfl (And.intro hsm (And.intro hl ?_)))
    | refine Exists.intro ms (And.intro rfl (And.intro rfl (And.intro hsm (And.intro hl ?_))))
    | refine And.intro rfl (And.intro rfl (And.intro rfl ?_))
    | refine And.intro (fun h1 => ?_) (fun h1 => ?_)
    | exact rfl) <;> try first | cases h1 | (exfalso; simp at h1; done))
end Go.Proofs.Ytegcfogbdgmajaa.Ab
