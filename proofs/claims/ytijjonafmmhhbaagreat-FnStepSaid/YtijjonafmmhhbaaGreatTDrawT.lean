/- Drawn steps, whole: exactly. No condition. -/
import Derived.Test.YtijjonafmmhhbaaGreatTDrawS
namespace Go.Proofs.YtijjonafmmhhbaaGreat.Ab
set_option linter.unusedVariables false
set_option linter.unusedSimpArgs false

def rs3 (k : Int) : List Rg := [⟨0, 5, 0, false, false, true⟩, ⟨65536, 5, 0, true, true, false⟩, ⟨131072, 5, 0, k.tmod 16 == 3, true, false⟩]
def rs2 : List Rg := [⟨0, 14, 0, true, true, true⟩, ⟨65536, 14, 0, true, true, false⟩]
def dsC (bs : List Int) : Nat := (crX bs (adv bs (adv bs 0)) 8).2
def dsM (bs : List Int) : List Int × List Int × List Int × Nat := memZ bs (insQ bs (dsC bs))
def dsF (bs : List Int) : List Int := if dpX bs (adv bs 0) + 4 ≤ ((dsM bs).1.length : Int) ∧ 0 < (nxt bs 0).tmod 8 then putY (dsM bs).1 (dpX bs (adv bs 0)).toNat (wordX bs (dsC bs)) 4 else (dsM bs).1
def dsR (bs : List Int) : List Rg := if (nxt bs 0).tmod 16 = 6 then rs2 else if (nxt bs 0).tmod 8 = 7 then rs3 (nxt bs 0) ++ [rgX bs (dsM bs).2.2.2] else rs3 (nxt bs 0)
def hDStep : CH := fun args hl K => match args, hl with
  | [.imm _ _ 1 l], [] => ∃ cs : List Int, l = cs.map byteC ∧ BytesOk cs ∧ cs.length ≤ maxLen ∧
      K (.tup [.agg [.v (.int .i64 (dpX (cs.take 1000) (adv (cs.take 1000) 0))), .slc 0 0 (dnX (cs.take 1000) (adv (cs.take 1000) 0)) false], .agg [.slc 1 0 (dsF (cs.take 1000)).length false, .slc 2 0 (dsM (cs.take 1000)).2.1.length false, .slc 3 0 (dsM (cs.take 1000)).2.2.1.length false], .slc 4 0 (dsR (cs.take 1000)).length false])
        [.lst 1 ((drX (cs.take 1000) (adv (cs.take 1000) 0)).map intC), .lst 1 ((dsF (cs.take 1000)).map byteC), .lst 1 ((dsM (cs.take 1000)).2.1.map byteC), .lst 1 ((dsM (cs.take 1000)).2.2.1.map byteC), .lst 6 ((dsR (cs.take 1000)).map regC)]
  | _, _ => False
theorem dpX_bd {bs : List Int} (hb : BytesOk bs) (p : Nat) : 0 ≤ dpX bs p ∧ dpX bs p ≤ 20 := by
  obtain ⟨k0, k1⟩ := nxt_ok hb p
  unfold dpX
  generalize nxt bs p = k at *
  rw [Int.tmod_eq_emod_of_nonneg k0, Int.tmod_eq_emod_of_nonneg k0, Int.tdiv_eq_ediv_of_nonneg k0, wrap64 (x := k % 4 * 4) (by omega), wrap64 (x := k / 32) (by omega), wrap64 (x := k / 32 + 1) (by omega), wrap64 (by omega)]
  split <;> omega
theorem dnX_bd (bs : List Int) (p : Nat) : dnX bs p ≤ 8 := by unfold dnX; split <;> omega
def cx_s_DrawStepX : Ctx := mkC [(23, callM [] false hOpenX), (24, callM [.rw] false hNextX), (25, callM [.rw] false hCoreX), (26, callM [.rw] false hWordX), (27, callM [.rw] false hMemZ), (28, callM [.rw] false hLPut), (29, callM [.rw] false hRegX)]
theorem cx_s_DrawStepX_ok : CtxOk Tryz.prog cx_s_DrawStepX := mkC_ok (mem1 ⟨s_l1OpenX, fnOk Tryz.func23 rfl rfl⟩ (mem1 ⟨s_nextX, fnOk Tryz.func24 rfl rfl⟩ (mem1 ⟨s_l3DrawCoreX, fnOk Tryz.func25 rfl rfl⟩ (mem1 ⟨s_l3RandomX, fnOk Tryz.func26 rfl rfl⟩ (mem1 ⟨s_l1MemZ, fnOk Tryz.func27 rfl rfl⟩ (mem1 ⟨s_l1Put, fnOk Tryz.func28 rfl rfl⟩ (mem1 ⟨s_l2RegionX, fnOk Tryz.func29 rfl rfl⟩ mem0)))))))
set_option maxRecDepth 100000 in
set_option pp.maxSteps 1500 in
set_option maxHeartbeats 16000000 in
theorem s_DrawStepX : HSound Tryz.prog 5 (callM [] false hDStep) := by
  refine callM_sound cx_s_DrawStepX_ok mixed Tryz.func5 rfl fun args hl K hp => ?_
  unfold hDStep at hp
  split at hp
  · rename_i t z l
    obtain ⟨cs, rfl, hcb, hcm, hp⟩ := hp
    refine Or.inl ?_
    refine Exists.intro cs (And.intro rfl (And.intro hcb (And.intro hcm ?_)))
    intro z2
    have hb : BytesOk (cs.take 1000) := fun x hx => hcb x (List.mem_of_mem_take hx)
    have hn : (cs.take 1000).length ≤ 1000 := by rw [List.length_take]; omega
    generalize cs.take 1000 = bs at *
    have q0 : 0 ≤ bs.length := Nat.zero_le _
    have q1 := adv_le q0
    have q2 : dsC bs ≤ bs.length := crX_p (adv_le q1) 8
    have q3 := insQ_le q2
    obtain ⟨m1, m2, m3, m4, m5, m6, m7⟩ := memZ_ok hb q3
    obtain ⟨w0, w1⟩ := wordX_bd bs (dsC bs)
    obtain ⟨d0, d1⟩ := dpX_bd hb (adv bs 0)
    have hdn := dnX_bd bs (adv bs 0)
    have hdl := drX_len bs (adv bs 0)
    refine Exists.intro bs (Exists.intro 0 (And.intro rfl (And.intro hb (And.intro hn (And.intro rfl (And.intro q0 ?_))))))
    refine Exists.intro bs (Exists.intro (adv bs 0) (And.intro rfl (And.intro hb (And.intro hn (And.intro rfl (And.intro q1 ?_))))))
    refine Exists.intro bs (Exists.intro (dsC bs) (And.intro rfl (And.intro hb (And.intro hn (And.intro rfl (And.intro q2 ?_))))))
    refine Exists.intro bs (Exists.intro (insQ bs (dsC bs)) (And.intro rfl (And.intro hb (And.intro hn (And.intro rfl (And.intro q3 ?_))))))
    unfold dsF dsR dsM at hp
    generalize memZ bs (insQ bs (dsC bs)) = M at *
    obtain ⟨f, r, o, q4⟩ := M
    simp only at *
    generalize hD : dpX bs (adv bs 0) = D at *
    obtain ⟨N, rfl⟩ := Int.eq_ofNat_of_zero_le d0
    have hw4 : IntKind.i64.wrap ((N : Int) + 4) = (N : Int) + 4 := wrap64 (by omega)
    generalize wordX bs (dsC bs) = W at *
    generalize nxt bs 0 = k at *
    generalize dnX bs (adv bs 0) = dn at *
    generalize drX bs (adv bs 0) = dr at *
    repeat' ((first
      | refine And.intro (fun h1 => ?_) (fun h1 => ?_)
      | refine And.intro (by decide) ?_
      | refine And.intro (show Region.lexB _ _ = true from by kernel_rfl) ?_
      | refine Exists.intro f (Exists.intro N (Exists.intro 4 (And.intro rfl (And.intro rfl (And.intro rfl (And.intro rfl (And.intro (by decide) (And.intro (by simp only [hw4, List.length_map, decide_eq_true_eq] at *; omega) (And.intro (by omega) (And.intro w0 (And.intro w1 ?_)))))))))))
      | refine Exists.intro bs (Exists.intro q4 (And.intro rfl (And.intro hb (And.intro hn (And.intro rfl (And.intro m6 ?_))))))
      | refine And.intro (closed_bytes _) ?_
      | refine And.intro (closed_Int _) ?_
      | refine And.intro (closed_Region _) ?_
      | refine And.intro (closed_Region (rs3 k)) ?_
      | refine And.intro (closed_Region (rs3 k ++ [rgX bs q4])) ?_
      | refine And.intro (closed_Region rs2) ?_
      | refine Exists.intro [regC (rgX bs q4)] (And.intro rfl (And.intro rfl (And.intro (reg_notSl _) ?_)))
      | refine And.intro rfl (And.intro (by simp; done) (And.intro (by simp; done) ?_))
      | refine And.intro (show wfB _ = true from by kernel_rfl) ?_ | refine And.intro (And.intro rfl rfl) ?_ | exact And.intro rfl rfl | apply HeldC.intro | exact AV.top | (apply HeldF.intro; refine Exists.intro _ (And.intro (by assumption) ?_); refine And.intro (by decide) ?_; exact And.intro rfl rfl) | (refine And.intro (by (refine Exists.intro _ (And.intro (by assumption) ?_); refine And.intro (by decide) ?_; exact And.intro rfl rfl)) ?_) | refine Or.inl ?_
      | fail) <;> try cases h1)
    all_goals try (conv => whnf)
    all_goals simp only [hw4, decide_eq_true_eq, decide_eq_false_iff_not, beq_iff_eq, beq_eq_false_iff_ne, ne_eq, gt_iff_lt] at *
    all_goals generalize k.tmod 8 = k8 at *
    all_goals repeat' split at hp
    all_goals first
      | (exfalso; omega)
      | exact hp
      | (rw [putY_len] at hp; exact hp)
  · exact hp.elim
end Go.Proofs.YtijjonafmmhhbaaGreat.Ab
