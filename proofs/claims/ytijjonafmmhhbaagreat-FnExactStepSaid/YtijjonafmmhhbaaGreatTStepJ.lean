/- Step of impl, whole. No condition. -/
import Derived.Test.YtijjonafmmhhbaaGreatTStepK
namespace Go.Proofs.YtijjonafmmhhbaaGreat.Ab
set_option linter.unusedVariables false
set_option linter.unusedSimpArgs false

def cx_iPair : Ctx := mkC [(108, callM [.rw, .ag [.rw, .ro], .ro, .ro] true hOpP)]
theorem cx_iPair_ok : CtxOk Tryz.prog cx_iPair := mkC_ok (mem1 ⟨s_oPair, fnOk Tryz.func108 rfl rfl⟩ mem0)
def iPair : Handler := inlH cx_iPair Tryz.f86.ntmps Tryz.f86.results.toList (Tryz.f86.body.getD .skip)
theorem s_iPair : HSound Tryz.prog 86 iPair := inlF cx_iPair_ok mixed Tryz.func86 rfl
def cx_iLoads : Ctx := mkC [(109, callM [.rw, .ag [.rw, .ro], .ro, .ro] true hOpL)]
theorem cx_iLoads_ok : CtxOk Tryz.prog cx_iLoads := mkC_ok (mem1 ⟨s_oLoads, fnOk Tryz.func109 rfl rfl⟩ mem0)
def iLoads : Handler := inlH cx_iLoads Tryz.f96.ntmps Tryz.f96.results.toList (Tryz.f96.body.getD .skip)
theorem s_iLoads : HSound Tryz.prog 96 iLoads := inlF cx_iLoads_ok mixed Tryz.func96 rfl
def cx_iStores : Ctx := mkC [(111, callM [.rw, .ag [.rw, .ro], .ro, .ro] true hOpS)]
theorem cx_iStores_ok : CtxOk Tryz.prog cx_iStores := mkC_ok (mem1 ⟨s_oStores, fnOk Tryz.func111 rfl rfl⟩ mem0)
def iStores : Handler := inlH cx_iStores Tryz.f97.ntmps Tryz.f97.results.toList (Tryz.f97.body.getD .skip)
theorem s_iStores : HSound Tryz.prog 97 iStores := inlF cx_iStores_ok mixed Tryz.func97 rfl
def cx_iJumps : Ctx := mkC [(113, callM [.rw, .ag [.rw, .ro], .ro, .ro] true hOpJ)]
theorem cx_iJumps_ok : CtxOk Tryz.prog cx_iJumps := mkC_ok (mem1 ⟨s_oJumps, fnOk Tryz.func113 rfl rfl⟩ mem0)
def iJumps : Handler := inlH cx_iJumps Tryz.f98.ntmps Tryz.f98.results.toList (Tryz.f98.body.getD .skip)
theorem s_iJumps : HSound Tryz.prog 98 iJumps := inlF cx_iJumps_ok mixed Tryz.func98 rfl
def cx_iEnds : Ctx := mkC [(106, callM [.rw, .ag [.rw, .ro], .ro, .ro, .ro] true hOpE)]
theorem cx_iEnds_ok : CtxOk Tryz.prog cx_iEnds := mkC_ok (mem1 ⟨s_oEnds, fnOk Tryz.func106 rfl rfl⟩ mem0)
def iEnds : Handler := inlH cx_iEnds Tryz.f79.ntmps Tryz.f79.results.toList (Tryz.f79.body.getD .skip)
theorem s_iEnds : HSound Tryz.prog 79 iEnds := inlF cx_iEnds_ok mixed Tryz.func79 rfl
def cx_iOperations : Ctx := mkC [(79, iEnds), (86, iPair), (96, iLoads), (97, iStores), (98, iJumps), (78, callM [.rw] false hE1), (80, callM [.rw] false hTarget), (81, callM [.rw] false hE2), (87, callM [] false hG4), (88, callM [] false hG5), (89, callM [] false hG7), (90, callM [] false hG8), (91, callM [] false hG9), (92, callM [] false hG10), (93, callM [] false hG11), (94, callM [] false hG12), (95, callM [] false hG13), (99, callM [] false hJ20), (100, callM [] false hJ21), (101, callM [] false hJ22), (82, callM [.rw, .ag [.rw, .ro], .ro] true hOp2), (83, callM [.rw, .ag [.rw, .ro], .ro] true hOp3), (84, callM [.rw, .ag [.rw, .ro], .ro] true hOp6)]
theorem cx_iOperations_ok : CtxOk Tryz.prog cx_iOperations := mkC_ok (mem1 ⟨s_iEnds, fnOk Tryz.func79 rfl rfl⟩ (mem1 ⟨s_iPair, fnOk Tryz.func86 rfl rfl⟩ (mem1 ⟨s_iLoads, fnOk Tryz.func96 rfl rfl⟩ (mem1 ⟨s_iStores, fnOk Tryz.func97 rfl rfl⟩ (mem1 ⟨s_iJumps, fnOk Tryz.func98 rfl rfl⟩ (mem1 ⟨s_e1, fnOk Tryz.func78 rfl rfl⟩ (mem1 ⟨s_target, fnOk Tryz.func80 rfl rfl⟩ (mem1 ⟨s_e2, fnOk Tryz.func81 rfl rfl⟩ (mem1 ⟨s_op4, fnOk Tryz.func87 rfl rfl⟩ (mem1 ⟨s_op5, fnOk Tryz.func88 rfl rfl⟩ (mem1 ⟨s_op7, fnOk Tryz.func89 rfl rfl⟩ (mem1 ⟨s_op8, fnOk Tryz.func90 rfl rfl⟩ (mem1 ⟨s_op9, fnOk Tryz.func91 rfl rfl⟩ (mem1 ⟨s_op10, fnOk Tryz.func92 rfl rfl⟩ (mem1 ⟨s_op11, fnOk Tryz.func93 rfl rfl⟩ (mem1 ⟨s_op12, fnOk Tryz.func94 rfl rfl⟩ (mem1 ⟨s_op13, fnOk Tryz.func95 rfl rfl⟩ (mem1 ⟨s_j20, fnOk Tryz.func99 rfl rfl⟩ (mem1 ⟨s_j21, fnOk Tryz.func100 rfl rfl⟩ (mem1 ⟨s_j22, fnOk Tryz.func101 rfl rfl⟩ (mem1 ⟨s_oSet, fnOk Tryz.func82 rfl rfl⟩ (mem1 ⟨s_oHigh, fnOk Tryz.func83 rfl rfl⟩ (mem1 ⟨s_oNear, fnOk Tryz.func84 rfl rfl⟩ mem0)))))))))))))))))))))))
def iOperations : Handler := inlH cx_iOperations Tryz.f47.ntmps Tryz.f47.results.toList (Tryz.f47.body.getD .skip)
theorem s_iOperations : HSound Tryz.prog 47 iOperations := inlF cx_iOperations_ok mixed Tryz.func47 rfl
theorem take_map (f : List Int) : (f.map byteC).take f.length = f.map byteC := List.take_of_length_le (by simp)
def cx_s_impl_Step : Ctx := mkC [(43, callM [] true hToM), (44, callM [] true hCoreOf), (45, callM [] true hMemOk), (46, callM [] true hToInt), (47, iOperations), (48, callM [.rw, .ag [.rw, .ro], .rw] true hStI), (49, callM [] true hFace)]
theorem cx_s_impl_Step_ok : CtxOk Tryz.prog cx_s_impl_Step := mkC_ok (mem1 ⟨s_clone, fnOk Tryz.func43 rfl rfl⟩ (mem1 ⟨s_coreOf, fnOk Tryz.func44 rfl rfl⟩ (mem1 ⟨s_impl_MemOk, fnOk Tryz.func45 rfl rfl⟩ (mem1 ⟨s_CloneI, fnOk Tryz.func46 rfl rfl⟩ (mem1 ⟨s_iOperations, fnOk Tryz.func47 rfl rfl⟩ (mem1 ⟨s_stepI, fnOk Tryz.func48 rfl rfl⟩ (mem1 ⟨s_face, fnOk Tryz.func49 rfl rfl⟩ mem0)))))))
set_option maxRecDepth 100000 in
set_option pp.maxSteps 1500 in
set_option maxHeartbeats 16000000 in
theorem s_impl_Step : HSound Tryz.prog 7 (callM [] true hStep) := by
  refine callM_sound cx_s_impl_Step_ok mixed Tryz.func7 rfl fun args hl K hp => ?_
  unfold hStep at hp
  split at hp
  · rename_i pc _ _ R _ _ x _ _ y _ _ z _ _ L
    obtain ⟨regs, f, r, o, rs, rfl, rfl, rfl, rfl, rfl, ipc, bf, br_, bo, lr, lf, lrr, lo, lrs, hp⟩ := hp
    refine Exists.intro f (Exists.intro r (Exists.intro o (And.intro rfl (And.intro rfl (And.intro rfl (And.intro lf (And.intro lrr (And.intro lo ?_))))))))
    have bad : coreOk pc regs = false ∨ memOk f.length r.length o.length = false → stepF pc regs f r o rs = ⟨pc, regs, f, r, o, 5, 2⟩ := fun h => by
      unfold stepF
      rw [if_pos]
      rcases h with h | h <;> simp [h]
    refine Exists.intro regs (And.intro rfl (And.intro lr (And.intro (fun hk => ?_) (fun hk a b c d e f' g h' hr => ?_))))
    · repeat' ((first | refine And.intro (fun h1 => ?_) (fun h1 => ?_) | fail) <;> try cases h1)
      repeat' (first
        | (refine Exists.intro regs (And.intro rfl (And.intro lr ?_)); exact And.intro rfl rfl)
        | refine And.intro (show wfB _ = true from by kernel_rfl) ?_ | refine And.intro (And.intro rfl rfl) ?_ | exact And.intro rfl rfl | apply HeldC.intro | exact AV.top | (apply HeldF.intro; refine Exists.intro _ (And.intro (by assumption) ?_); refine And.intro (by decide) ?_; exact And.intro rfl rfl) | (refine And.intro (by (refine Exists.intro _ (And.intro (by assumption) ?_); refine And.intro (by decide) ?_; exact And.intro rfl rfl)) ?_) | refine Or.inl ?_
        | fail)
      refine And.intro (closed_Int regs) (And.intro (closed_bytes f) (And.intro (closed_bytes r) (And.intro (closed_bytes o) ?_)))
      rw [bad (Or.inl hk)] at hp
      exact hp
    · repeat' ((first | refine And.intro (fun h1 => ?_) (fun h1 => ?_) | fail) <;> try cases h1)
      · have h1 : memOk f.length r.length o.length = false := by simpa using h1
        repeat' (first
          | (refine Exists.intro regs (And.intro rfl (And.intro lr ?_)); exact And.intro rfl rfl)
          | refine And.intro (show wfB _ = true from by kernel_rfl) ?_ | refine And.intro (And.intro rfl rfl) ?_ | exact And.intro rfl rfl | apply HeldC.intro | exact AV.top | (apply HeldF.intro; refine Exists.intro _ (And.intro (by assumption) ?_); refine And.intro (by decide) ?_; exact And.intro rfl rfl) | (refine And.intro (by (refine Exists.intro _ (And.intro (by assumption) ?_); refine And.intro (by decide) ?_; exact And.intro rfl rfl)) ?_) | refine Or.inl ?_
          | fail)
        refine And.intro (closed_Int regs) (And.intro (closed_bytes f) (And.intro (closed_bytes r) (And.intro (closed_bytes o) ?_)))
        rw [bad (Or.inr h1)] at hp
        exact hp
      · have m0 : memOk f.length r.length o.length = true := by simpa using h1
        repeat' (first
          | refine Exists.intro (f.map byteC) (And.intro (take_map f) (And.intro (by simp; done) (And.intro (closed_bytes f) ?_)))
          | refine Exists.intro (r.map byteC) (And.intro (take_map r) (And.intro (by simp; done) (And.intro (closed_bytes r) ?_)))
          | refine Exists.intro (o.map byteC) (And.intro (take_map o) (And.intro (by simp; done) (And.intro (closed_bytes o) ?_)))
          | fail)
        refine Exists.intro pc (Exists.intro regs (Exists.intro f (Exists.intro r (Exists.intro o (Exists.intro rs (And.intro (core_pc hr) (And.intro rfl (And.intro rfl (And.intro rfl (And.intro rfl (And.intro rfl (And.intro hk (And.intro bf (And.intro br_ (And.intro m0 (And.intro lrs (fun cells' hc' => ?_)))))))))))))))))
        generalize stepF pc regs f r o rs = s at *
        obtain ⟨q0, q1, q2, q3, q4, q5, q6, q7, hq, rfl⟩ := hc'
        rw [hq] at hp
        have lm : ∀ l : List Int, l.length = (l.map byteC).length := fun l => by simp
        rw [lm s.f, lm s.r, lm s.o] at hp
        refine Or.inl ?_
        refine And.intro (show wfB _ = true from by kernel_rfl) ?_
        repeat' (first
          | refine And.intro (show wfB _ = true from by kernel_rfl) ?_ | refine And.intro (And.intro rfl rfl) ?_ | exact And.intro rfl rfl | apply HeldC.intro | exact AV.top | (apply HeldF.intro; refine Exists.intro _ (And.intro (by assumption) ?_); refine And.intro (by decide) ?_; exact And.intro rfl rfl) | (refine And.intro (by (refine Exists.intro _ (And.intro (by assumption) ?_); refine And.intro (by decide) ?_; exact And.intro rfl rfl)) ?_) | refine Or.inl ?_
          | refine And.intro ?_ ?_
          | fail)
        all_goals first
          | exact closed_Int [q0, q1, q2, q3, q4, q5, q6, q7]
          | exact closed_bytes _
          | exact hp
  · exact hp.elim
end Go.Proofs.YtijjonafmmhhbaaGreat.Ab
