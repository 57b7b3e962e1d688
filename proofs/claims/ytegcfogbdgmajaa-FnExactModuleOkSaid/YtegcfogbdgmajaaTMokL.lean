/- ModuleOk: the law. No condition. -/
import Derived.Test.YtegcfogbdgmajaaTMok2
import Derived.Test.YtegcfogbdgmajaaTArgsM
namespace Go.Proofs.Ytegcfogbdgmajaa.Ab
set_option linter.unusedVariables false
set_option linter.unusedSimpArgs false

def cx13 : Ctx := mkC [(57, callM [] true hSzMo), (59, callM [] true hToMo), (58, callM [] true hModOk), (60, callM [] true hModOk), (61, callM [] true hEqMo)]
theorem cx13_ok : CtxOk Try.prog cx13 := mkC_ok (mem1 ⟨s_szModule, fnOk Try.func57 rfl rfl⟩ (mem1 ⟨s_toModule, fnOk Try.func59 rfl rfl⟩ (mem1 ⟨s_spec_ModuleOk, fnOk Try.func58 rfl rfl⟩ (mem1 ⟨s_impl_ModuleOk, fnOk Try.func60 rfl rfl⟩ (mem1 ⟨s_eqModule, fnOk Try.func61 rfl rfl⟩ mem0)))))
set_option maxRecDepth 100000 in
set_option maxHeartbeats 16000000 in
set_option pp.maxSteps 1500 in
theorem s13 (xs : List AV) (hx : ArgsOf Try.prog 6 [85] xs) : inlH cx13 Try.f13.ntmps Try.f13.results.toList (Try.f13.body.getD .skip) xs [] fun x _ => x = .v (.bool true) := by
  obtain ⟨x, _, l1, rfl, hs, ha, rfl⟩ := hx
  obtain ⟨m, ⟨b1, z1, b2, z2, b3, z3, b4, z4, b5, z5, b6, z6, rfl⟩, hok⟩ := arg_mo hs ha
  refine Exists.intro m (And.intro ⟨_, _, _, _, _, _, _, _, _, _, _, _, rfl⟩ (And.intro hok.big (And.intro (by decide) (And.intro (by decide) ?_))))
  refine And.intro (fun h1 => rfl) (fun h1 => ?_)
  have h1 := of_decide_eq_false h1
  have hw : wtMo m ≤ 1048576 := by have := szB_ge (by decide) h1; omega
  clear h1
  have hsm := sm_of_wt hw
  generalize hR : modOk m = R
  refine Exists.intro m (And.intro ⟨_, _, _, _, _, _, _, _, _, _, _, _, rfl⟩ (And.intro hsm ?_))
  repeat' ((first
    | refine Exists.intro _ (And.intro (lendD _ _) (And.intro (List.length_map _) ?_))
    | refine And.intro (closed_Int _) ?_
    | refine And.intro (closed_IntS _) ?_
    | refine And.intro (closed_bytes _) ?_
    | refine And.intro (closed_String _) ?_
    | refine And.intro (closed_Export _) ?_
    | refine Exists.intro m (And.intro ⟨_, _, _, _, _, _, _, _, _, _, _, _, rfl⟩ (And.intro hsm ?_))
    | refine Exists.intro m (And.intro ⟨_, _, _, _, _, _, _, _, _, _, _, _, rfl⟩ (And.intro ⟨_, _, _, _, _, _, _, _, _, _, _, _, rfl⟩ (And.intro hsm ?_)))
    | refine And.intro (fun h1 => ?_) (fun h1 => ?_)
    | fail) <;> try first | cases h1 | (exfalso; simp at h1; done))
  refine Or.inl ?_
  refine And.intro (show wfB _ = true from by kernel_rfl) ?_
  apply HeldC.intro
  · refine Exists.intro m (And.intro ⟨_, _, _, _, _, _, _, _, _, _, _, _, rfl⟩ (And.intro hsm ?_))
    exact And.intro rfl rfl
  repeat' ((first
    | refine And.intro (And.intro rfl rfl) ?_
    | exact And.intro rfl rfl
    | refine Exists.intro _ (And.intro (lendD _ _) (And.intro (List.length_map _) ?_))
    | refine And.intro (closed_Int _) ?_
    | refine And.intro (closed_IntS _) ?_
    | refine And.intro (closed_bytes _) ?_
    | refine And.intro (closed_String _) ?_
    | refine And.intro (closed_Export _) ?_
    | refine Exists.intro m (And.intro ⟨_, _, _, _, _, _, _, _, _, _, _, _, rfl⟩ (And.intro ⟨_, _, _, _, _, _, _, _, _, _, _, _, rfl⟩ (And.intro hsm ?_)))
    | refine And.intro (fun h1 => ?_) (fun h1 => ?_)
    | apply HeldC.intro
    | fail) <;> try first | cases h1 | (exfalso; simp at h1; done))
  all_goals exact rfl
end Go.Proofs.Ytegcfogbdgmajaa.Ab
