/- Step of impl, with its answer named. No condition. -/
import Derived.Test.YtijjonafmmhhbaaGreatTStepJ
namespace Go.Proofs.YtijjonafmmhhbaaGreat.Ab
set_option linter.unusedVariables false
set_option linter.unusedSimpArgs false

def hStepE : CH := fun args hl K => match args, hl with
  | [.agg [.v (.int .i64 pc), .imm _ _ 1 R], .agg [.imm _ _ 1 x, .imm _ _ 1 y, .imm _ _ 1 z], .imm _ _ 6 L], [] => ∃ (regs f r o : List Int) (rs : List Rg) (s : StepR), R = regs.map intC ∧ x = f.map byteC ∧ y = r.map byteC ∧ z = o.map byteC ∧ L = rs.map regC ∧
      I64 pc ∧ BytesOk f ∧ BytesOk r ∧ BytesOk o ∧ regs.length ≤ 1048576 ∧ f.length ≤ 1048576 ∧ r.length ≤ 1048576 ∧ o.length ≤ 1048576 ∧ rs.length ≤ 1048576 ∧ stepF pc regs f r o rs = s ∧
      K (.tup [.agg [.v (.int .i64 s.pc), .slc 0 0 s.regs.length false], .agg [.slc 1 0 s.f.length false, .slc 2 0 s.r.length false, .slc 3 0 s.o.length false], .v (.int .i64 s.did), .v (.int .i64 s.n)])
        [.lst 1 (s.regs.map intC), .lst 1 (s.f.map byteC), .lst 1 (s.r.map byteC), .lst 1 (s.o.map byteC)]
  | _, _ => False
def cx_s_impl_StepE : Ctx := mkC [(43, callM [] true hToM), (44, callM [] true hCoreOf), (45, callM [] true hMemOk), (46, callM [] true hToInt), (47, iOperations), (48, callM [.rw, .ag [.rw, .ro], .rw] true hStI), (49, callM [] true hFace)]
theorem cx_s_impl_StepE_ok : CtxOk Tryz.prog cx_s_impl_StepE := mkC_ok (mem1 ⟨s_clone, fnOk Tryz.func43 rfl rfl⟩ (mem1 ⟨s_coreOf, fnOk Tryz.func44 rfl rfl⟩ (mem1 ⟨s_impl_MemOk, fnOk Tryz.func45 rfl rfl⟩ (mem1 ⟨s_CloneI, fnOk Tryz.func46 rfl rfl⟩ (mem1 ⟨s_iOperations, fnOk Tryz.func47 rfl rfl⟩ (mem1 ⟨s_stepI, fnOk Tryz.func48 rfl rfl⟩ (mem1 ⟨s_face, fnOk Tryz.func49 rfl rfl⟩ mem0)))))))
set_option maxRecDepth 100000 in
set_option pp.maxSteps 1500 in
set_option maxHeartbeats 16000000 in
theorem s_impl_StepE : HSound Tryz.prog 7 (callM [] true hStepE) := by
  refine callM_sound cx_s_impl_StepE_ok mixed Tryz.func7 rfl fun args hl K hp => ?_
  unfold hStepE at hp
  split at hp
  · rename_i pc _ _ R _ _ x _ _ y _ _ z _ _ L
    obtain ⟨regs, f, r, o, rs, s, rfl, rfl, rfl, rfl, rfl, ipc, bf, br_, bo, lr, lf, lrr, lo, lrs, rfl, hp⟩ := hp
    refine Exists.intro f (Exists.intro r (Exists.intro o (And.intro rfl (And.intro rfl (And.intro rfl (And.intro lf (And.intro lrr (And.intro lo ?_))))))))
    have bad : coreOk pc regs = false ∨ memOk f.length r.length o.length = false → stepF pc regs f r o rs = ⟨pc, regs, f, r, o, 5, 2⟩ := fun h => by
      unfold stepF
      rw [if_pos]
      rcases h with h | h <;> simp [h]
    refine Exists.intro regs (And.intro rfl (And.intro lr (And.intro (fun hk => ?_) (fun hk a b c d e f' g h' hr => ?_))))
    · repeat' ((first | refine And.intro (fun h1 => ?_) (fun h1 => ?_) | fail) <;> try cases h1)
      repeat' (first
        | (refine Exists.intro regs (And.intro rfl (And.intro lr ?_)); exact And.intro rfl rfl)
        | refine And.intro (show wfB _ = true from by kernel_rfl) ?_ | refine And.intro (And.intro rfl rfl) ?_ | exact And.intro rfl rfl | apply HeldC.intro | exact AV.top | (apply HeldF.intro; refine Exists.intro _ (And.intro (by assumption) ?_); refine And.intro (by decide) ?_; exact And.intro rfl rfl) | (refine And.intro (by (refine Exists.intro _ (And.intro (by assumption) ?_); refine And.intro (by decide) ?_; exact And.intro rfl rfl)) ?_) | refine Or.inl ?_
        | fail)
      refine And.intro (closed_Int regs) (And.intro (closed_bytes f) (And.intro (closed_bytes r) (And.intro (closed_bytes o) ?_)))
      rw [bad (Or.inl hk)] at hp
      exact hp
    · repeat' ((first | refine And.intro (fun h1 => ?_) (fun h1 => ?_) | fail) <;> try cases h1)
      · have h1 : memOk f.length r.length o.length = false := by simpa using h1
        repeat' (first
          | (refine Exists.intro regs (And.intro rfl (And.intro lr ?_)); exact And.intro rfl rfl)
          | refine And.intro (show wfB _ = true from by kernel_rfl) ?_ | refine And.intro (And.intro rfl rfl) ?_ | exact And.intro rfl rfl | apply HeldC.intro | exact AV.top | (apply HeldF.intro; refine Exists.intro _ (And.intro (by assumption) ?_); refine And.intro (by decide) ?_; exact And.intro rfl rfl) | (refine And.intro (by (refine Exists.intro _ (And.intro (by assumption) ?_); refine And.intro (by decide) ?_; exact And.intro rfl rfl)) ?_) | refine Or.inl ?_
          | fail)
        refine And.intro (closed_Int regs) (And.intro (closed_bytes f) (And.intro (closed_bytes r) (And.intro (closed_bytes o) ?_)))
        rw [bad (Or.inr h1)] at hp
        exact hp
      · have m0 : memOk f.length r.length o.length = true := by simpa using h1
        repeat' (first
          | refine Exists.intro (f.map byteC) (And.intro (take_map f) (And.intro (by simp; done) (And.intro (closed_bytes f) ?_)))
          | refine Exists.intro (r.map byteC) (And.intro (take_map r) (And.intro (by simp; done) (And.intro (closed_bytes r) ?_)))
          | refine Exists.intro (o.map byteC) (And.intro (take_map o) (And.intro (by simp; done) (And.intro (closed_bytes o) ?_)))
          | fail)
        refine Exists.intro pc (Exists.intro regs (Exists.intro f (Exists.intro r (Exists.intro o (Exists.intro rs (And.intro (core_pc hr) (And.intro rfl (And.intro rfl (And.intro rfl (And.intro rfl (And.intro rfl (And.intro hk (And.intro bf (And.intro br_ (And.intro m0 (And.intro lrs (fun cells' hc' => ?_)))))))))))))))))
        generalize stepF pc regs f r o rs = s at *
        obtain ⟨q0, q1, q2, q3, q4, q5, q6, q7, hq, rfl⟩ := hc'
        rw [hq] at hp
        have lm : ∀ l : List Int, l.length = (l.map byteC).length := fun l => by simp
        rw [lm s.f, lm s.r, lm s.o] at hp
        refine Or.inl ?_
        refine And.intro (show wfB _ = true from by kernel_rfl) ?_
        repeat' (first
          | refine And.intro (show wfB _ = true from by kernel_rfl) ?_ | refine And.intro (And.intro rfl rfl) ?_ | exact And.intro rfl rfl | apply HeldC.intro | exact AV.top | (apply HeldF.intro; refine Exists.intro _ (And.intro (by assumption) ?_); refine And.intro (by decide) ?_; exact And.intro rfl rfl) | (refine And.intro (by (refine Exists.intro _ (And.intro (by assumption) ?_); refine And.intro (by decide) ?_; exact And.intro rfl rfl)) ?_) | refine Or.inl ?_
          | refine And.intro ?_ ?_
          | fail)
        all_goals first
          | exact closed_Int [q0, q1, q2, q3, q4, q5, q6, q7]
          | exact closed_bytes _
          | exact hp
  · exact hp.elim
end Go.Proofs.YtijjonafmmhhbaaGreat.Ab
