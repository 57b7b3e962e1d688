/- Cover: the law. No condition. -/
import Derived.Test.YtegcfogbdgmajaaTCover2
import Derived.Test.YtegcfogbdgmajaaTRegs2
import Derived.Test.YtegcfogbdgmajaaTArgs2
namespace Go.Proofs.Ytegcfogbdgmajaa.Ab

def cx8 : Ctx := mkC [(36, callM [] false hCover), (37, callM [] false hCover), (31, callM [] true hEqRegion), (38, callM [.rw] false hMarkRegion), (39, callM [] true hHeldRegion)]
theorem cx8_ok : CtxOk Try.prog cx8 := mkC_ok (mem1 ⟨s_spec_Cover, fnOk Try.func36 rfl rfl⟩ (mem1 ⟨s_impl_Cover, fnOk Try.func37 rfl rfl⟩ (mem1 ⟨s_eqRegionS, fnOk Try.func31 rfl rfl⟩ (mem1 ⟨s_markRegionS, fnOk Try.func38 rfl rfl⟩ (mem1 ⟨s_heldRegionS, fnOk Try.func39 rfl rfl⟩ mem0)))))
set_option maxRecDepth 100000 in
set_option maxHeartbeats 4000000 in
set_option pp.maxSteps 1500 in
theorem s8 (xs : List AV) (hx : ArgsOf Try.prog 3 [3, 3] xs) : inlH cx8 Try.f8.ntmps Try.f8.results.toList (Try.f8.body.getD .skip) xs [] fun x _ => x = .v (.bool true) := by
  obtain ⟨x2, _, l2, rfl, hs2, ha2, x3, _, l3, rfl, hs3, ha3, rfl⟩ := hx
  obtain ⟨a, rfl, wa⟩ := arg_int hs2 ha2
  obtain ⟨b, rfl, wb⟩ := arg_int hs3 ha3
  have hl := covL_len a b
  refine And.intro wa (And.intro wb ?_)
  refine And.intro wa (And.intro wb ?_)
  repeat' ((first
    | refine Exists.intro _ (And.intro (lendC regC _) (And.intro (List.length_map _) (And.intro (closed_Region _) ?_)))
    | refine Exists.intro (covL a b) (And.intro rfl (And.intro rfl (And.intro (by omega) ?_)))
    | refine Exists.intro (covL a b) (And.intro rfl (And.intro rfl (And.intro (by omega) (And.intro (by decide) (And.intro (by decide) ?_)))))
    | refine Exists.intro (covL a b).length (And.intro rfl (And.intro (by omega) (And.intro (by decide) (And.intro (by decide) ?_))))
    | refine And.intro wa (And.intro wb ?_)
    | refine Exists.intro _ (And.intro (marks_lendRegion _ _) (And.intro (marks_lenRegion _ _) (And.intro (closed_Region _) ?_)))
    | refine And.intro (closed_Region _) ?_
    | refine And.intro (by decide) ?_
    | refine And.intro (fun h1 => ?_) (fun h1 => ?_)
    | refine And.intro (show wfB _ = true from by kernel_rfl) ?_ | refine And.intro (And.intro rfl rfl) ?_ | exact And.intro rfl rfl | apply HeldC.intro | exact AV.top | (apply HeldF.intro; refine Exists.intro _ (And.intro (by assumption) ?_); refine And.intro (by decide) ?_; exact And.intro rfl rfl) | (refine And.intro (by (refine Exists.intro _ (And.intro (by assumption) ?_); refine And.intro (by decide) ?_; exact And.intro rfl rfl)) ?_) | refine Or.inl ?_) <;> try first | cases h1 | (exfalso; simp at h1; done) | (exfalso; simp at h1; omega))
  all_goals exact rfl
end Go.Proofs.Ytegcfogbdgmajaa.Ab
