/- Drawn memories: Write's arguments. No condition. -/
import Derived.Test.YtegcfogbdgmajaaTMemD
namespace Go.Proofs.Ytegcfogbdgmajaa.Ab

def hDWrite : CH := fun args hl K => match args, hl with
  | [.imm _ _ 1 l], [] => ∃ bs, l = bs.map byteC ∧ BytesOk bs ∧ bs.length ≤ maxLen ∧ ∀ a s v : Int, I64 a → I64 v →
      K (.tup [.agg [.slc 0 0 (memX (bs.take 1000)).1.length false, .slc 1 0 (memX (bs.take 1000)).2.1.length false, .slc 2 0 (memX (bs.take 1000)).2.2.1.length false], .v (.int .i64 a), .v (.int .i64 s), .v (.int .i64 v)])
        [.lst 1 ((memX (bs.take 1000)).1.map byteC), .lst 1 ((memX (bs.take 1000)).2.1.map byteC), .lst 1 ((memX (bs.take 1000)).2.2.1.map byteC)]
  | _, _ => False
def cx_s_DrawWrite : Ctx := mkC [(78, callM [] false hOpenX), (99, callM [.rw] false hMemX), (100, callM [.rw, .ag [.rw, .rw, .rw]] false hWhere), (80, callM [.rw] false hNext)]
theorem cx_s_DrawWrite_ok : CtxOk Try.prog cx_s_DrawWrite := mkC_ok (mem1 ⟨s_l1OpenX, fnOk Try.func78 rfl rfl⟩ (mem1 ⟨s_l1MemX, fnOk Try.func99 rfl rfl⟩ (mem1 ⟨s_l1Where, fnOk Try.func100 rfl rfl⟩ (mem1 ⟨s_next, fnOk Try.func80 rfl rfl⟩ mem0))))
set_option maxRecDepth 100000 in
set_option pp.maxSteps 1500 in
set_option maxHeartbeats 8000000 in
theorem s_DrawWrite : HSound Try.prog 46 (callM [] false hDWrite) := by
  refine callM_sound cx_s_DrawWrite_ok mixed Try.func46 rfl fun args hl K hp => ?_
  unfold hDWrite at hp
  split at hp
  · rename_i t z l
    obtain ⟨cs, rfl, hcb, hcm, hp⟩ := hp
    refine Exists.intro cs (And.intro rfl (And.intro hcb (And.intro hcm ?_)))
    intro z
    have hb : BytesOk (cs.take 1000) := fun b h => hcb b (List.mem_of_mem_take h)
    have hn : (cs.take 1000).length ≤ 1000 := by simp; omega
    generalize cs.take 1000 = bs at *
    refine Exists.intro bs (And.intro rfl (And.intro hb (And.intro hn (And.intro rfl ?_))))
    intro q hq
    generalize memX bs = M at *
    obtain ⟨F, R, O, Q⟩ := M
    simp only at *
    repeat' ((first
      | refine And.intro (fun h1 => ?_) (fun h1 => ?_)
      | refine And.intro (by decide) ?_
      | refine And.intro (show Region.lexB _ _ = true from by kernel_rfl) ?_
      | (refine Exists.intro bs (And.intro rfl (And.intro hb (And.intro hn (And.intro (by first | assumption | omega) (And.intro (by first | assumption | omega) ?_))))); intro v q2 _ _ _ _)
      | refine And.intro (closed_bytes _) ?_
      | (refine Exists.intro bs (Exists.intro F (Exists.intro R (Exists.intro O (And.intro rfl (And.intro hb (And.intro hn (And.intro (by omega) (And.intro (by omega) (And.intro rfl (And.intro rfl (And.intro rfl ?_))))))))))); intro a s q1 ha _ _)
      | (refine Exists.intro _ (And.intro (lendB _) (And.intro (lenB _) (And.intro (closed_bytes _) ?_))))
      | exact hp _ _ _ (by assumption) (by first | exact wrap_I64 _ | assumption)
      | refine And.intro (show wfB _ = true from by kernel_rfl) ?_ | refine And.intro (And.intro rfl rfl) ?_ | exact And.intro rfl rfl | apply HeldC.intro | exact AV.top | (apply HeldF.intro; refine Exists.intro _ (And.intro (by assumption) ?_); refine And.intro (by decide) ?_; exact And.intro rfl rfl) | (refine And.intro (by (refine Exists.intro _ (And.intro (by assumption) ?_); refine And.intro (by decide) ?_; exact And.intro rfl rfl)) ?_) | refine Or.inl ?_) <;> try cases h1)
  · exact hp.elim
end Go.Proofs.Ytegcfogbdgmajaa.Ab
