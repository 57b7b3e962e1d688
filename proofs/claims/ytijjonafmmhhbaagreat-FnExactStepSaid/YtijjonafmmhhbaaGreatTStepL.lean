/- Step: the law. No condition. -/
import Derived.Test.YtijjonafmmhhbaaGreatTStep2
import Derived.Test.YtijjonafmmhhbaaGreatTStepE
import Derived.Test.YtijjonafmmhhbaaGreatTStepH
namespace Go.Proofs.YtijjonafmmhhbaaGreat.Ab
set_option linter.unusedVariables false
set_option linter.unusedSimpArgs false

def LenP (regs f r o : List Int) (s : StepR) : Prop := s.regs.length = regs.length ∧ s.f = f ∧ s.r.length = r.length ∧ s.o.length ≤ max o.length 5000
theorem exec_lens {op d a imm pc nx : Int} {regs f r o : List Int} {rs : List Rg} : LenP regs f r o (execF op d a imm pc nx regs f r o rs) := by
  unfold execF
  split
  · unfold memF
    have hw := writeF_len f r o ((regs.getD a.toNat 0 + wideF imm) % 4294967296) (sizeF op) (regs.getD d.toNat 0)
    repeat' split
    all_goals refine ⟨?_, rfl, ?_, ?_⟩
    all_goals simp only [List.length_set]
    all_goals omega
  · split
    · refine ⟨?_, rfl, rfl, ?_⟩
      · simp
      · simp only []; omega
    · refine ⟨rfl, rfl, rfl, ?_⟩
      simp only []; omega
theorem step_lens {pc : Int} {regs f r o : List Int} {rs : List Rg} : LenP regs f r o (stepF pc regs f r o rs) := by
  unfold stepF
  repeat' split
  all_goals first
    | exact exec_lens
    | exact ⟨rfl, rfl, rfl, by simp only []; omega⟩
theorem lendS (l : List (List AV)) : List.take l.length (List.drop 0 l) = l := by rw [List.drop_zero, List.take_length]
def cx4 : Ctx := mkCut [(9, callM [] true hSzCore), (10, callM [] true hSzM), (11, iSzRegionS), (12, callM [] true hToCore), (13, callM [] true hToM), (14, callM [] true hToRegion), (6, callM [] true hStep), (7, callM [] true hStepE), (15, callM [] true hEqCore), (16, callM [] true hEqM), (17, callM [] true hEqRegion), (18, callM [.ag [.ro, .rw]] false hMarkCore), (19, callM [.ag [.rw, .rw, .rw]] false hMarkM), (20, callM [.rw] false hMarkRegion), (21, callM [] true hHeldCore), (22, callM [] true hHeldM)]
theorem cx4_ok : CtxOk Tryz.prog cx4 := mkCut_ok (mem1 ⟨s_szCore, fnOk Tryz.func9 rfl rfl⟩ (mem1 ⟨s_szMem, fnOk Tryz.func10 rfl rfl⟩ (mem1 ⟨s_iSzRegionS, fnOk Tryz.func11 rfl rfl⟩ (mem1 ⟨s_toCore, fnOk Tryz.func12 rfl rfl⟩ (mem1 ⟨s_toMem, fnOk Tryz.func13 rfl rfl⟩ (mem1 ⟨s_toRegionS, fnOk Tryz.func14 rfl rfl⟩ (mem1 ⟨s_spec_Step, fnOk Tryz.func6 rfl rfl⟩ (mem1 ⟨s_impl_StepE, fnOk Tryz.func7 rfl rfl⟩ (mem1 ⟨s_eqCore, fnOk Tryz.func15 rfl rfl⟩ (mem1 ⟨s_eqMem, fnOk Tryz.func16 rfl rfl⟩ (mem1 ⟨s_eqRegionS, fnOk Tryz.func17 rfl rfl⟩ (mem1 ⟨s_markCore, fnOk Tryz.func18 rfl rfl⟩ (mem1 ⟨s_markMem, fnOk Tryz.func19 rfl rfl⟩ (mem1 ⟨s_markRegionS, fnOk Tryz.func20 rfl rfl⟩ (mem1 ⟨s_heldCore, fnOk Tryz.func21 rfl rfl⟩ (mem1 ⟨s_heldMem, fnOk Tryz.func22 rfl rfl⟩ mem0))))))))))))))))
set_option maxRecDepth 100000 in
set_option maxHeartbeats 100000000 in
set_option pp.maxSteps 1500 in
theorem s4 (xs : List AV) (hx : ArgsOf Tryz.prog 3 [35, 36, 37] xs) : inlH cx4 Tryz.f4.ntmps Tryz.f4.results.toList (Tryz.f4.body.getD .skip) xs [] fun x _ => x = .v (.bool true) := by
  obtain ⟨x, _, l1, rfl, hs, ha, x2, _, l2, rfl, hs2, ha2, x3, _, l3, rfl, hs3, ha3, rfl⟩ := hx
  obtain ⟨pc, regs, rfl, ipc, lg⟩ := arg_core hs ha
  obtain ⟨f, r, o, rfl, bf, br, bo, lf, lr, lo⟩ := arg_lmem hs2 ha2
  obtain ⟨rs, rfl, ls⟩ := arg_regS hs3 ha3
  have hmax : maxLen ≤ 9223372036854775807 := by decide
  refine And.intro (by decide) (And.intro (by decide) (And.intro (by simp; omega) ?_))
  refine Or.inl ?_
  refine And.intro (fun h1 => rfl) (fun h1 => ?_)
  have h1 := of_decide_eq_false h1
  simp only [List.length_map] at h1
  have h1 := szB_ge (by decide) h1
  refine And.intro (by simp only [List.length_map]; rw [szB_pos h1]; omega) (And.intro (by simp only [List.length_map]; rw [szB_pos h1]; omega) (And.intro (by simp; omega) (And.intro (by simp; omega) (And.intro (by simp; omega) ?_))))
  simp only [List.length_map]
  rw [szB_pos h1]
  refine Or.inl ?_
  refine And.intro (fun h2 => rfl) (fun h2 => ?_)
  have h2 := of_decide_eq_false h2
  have h2 : regs.length + f.length + r.length + o.length ≤ 1048576 := by
    simp only [szM] at h2
    split at h2 <;> omega
  refine And.intro (fun h3 => ?_) (fun h3 => ?_)
  · refine Or.inl ?_
    exact And.intro (fun _ => rfl) (fun h => by cases h)
  have h3 := of_decide_eq_false h3
  have l5 : rs.length ≤ 1048576 := by
    simp only [List.length_map, szM] at h3
    rw [if_neg (by omega), wrap64 (by omega)] at h3
    omega
  refine Or.inl ?_
  refine And.intro (fun _ => rfl) (fun h4 => ?_)
  have l1 : regs.length ≤ 1048576 := by omega
  have l2 : f.length ≤ 1048576 := by omega
  have l3 : r.length ≤ 1048576 := by omega
  have l4 : o.length ≤ 1048576 := by omega
  obtain ⟨n1, n2, n3, n4⟩ := step_lens (pc := pc) (regs := regs) (f := f) (r := r) (o := o) (rs := rs)
  have m1 : (stepF pc regs f r o rs).regs.length ≤ 1048576 := by omega
  have m2 : (stepF pc regs f r o rs).f.length ≤ 1048576 := by rw [n2]; omega
  have m3 : (stepF pc regs f r o rs).r.length ≤ 1048576 := by omega
  have m4 : (stepF pc regs f r o rs).o.length ≤ 1048576 := by omega
  clear h1 h2 h3 h4
  refine Or.inr (Exists.intro true (Exists.intro [2, 3, 4, 8, 9, 10, 11] (Exists.intro (fun vs h => vs = [.imm false false 6 (rs.map regC), .ptr 0 0 0 2, .ptr 1 0 0 3, .ptr 2 0 0 2, .ptr 3 0 0 3, .v (.int .i64 (stepF pc regs f r o rs).did), .v (.int .i64 (stepF pc regs f r o rs).n)] ∧
    h = [.box [.v (.int .i64 pc), .imm false false 1 (regs.map intC)], .box [.imm false false 1 (f.map byteC), .imm false false 1 (r.map byteC), .imm false false 1 (o.map byteC)], .box [.v (.int .i64 (stepF pc regs f r o rs).pc), .sl 1 ((stepF pc regs f r o rs).regs.map intC)],
      .box [.sl 1 ((stepF pc regs f r o rs).f.map byteC), .sl 1 ((stepF pc regs f r o rs).r.map byteC), .sl 1 ((stepF pc regs f r o rs).o.map byteC)]]) (And.intro ?_ ?_))))
  · refine Or.inl ?_
    refine And.intro (show wfB _ = true from by kernel_rfl) ?_
    repeat' (first
      | refine Exists.intro _ (And.intro (lendD _ _) (And.intro (List.length_map _) ?_))
      | (refine Exists.intro regs (And.intro rfl (And.intro l1 ?_)); exact And.intro rfl rfl)
      | (refine Exists.intro f (Exists.intro r (Exists.intro o (And.intro rfl (And.intro rfl (And.intro rfl (And.intro l2 (And.intro l3 (And.intro l4 ?_)))))))); exact And.intro rfl rfl)
      | (refine Exists.intro rs (And.intro rfl (And.intro l5 ?_)); exact And.intro rfl rfl)
      | refine And.intro (closed_Int _) ?_
      | refine And.intro (closed_bytes _) ?_
      | refine And.intro (closed_Region _) ?_
      | refine Exists.intro regs (Exists.intro f (Exists.intro r (Exists.intro o (Exists.intro rs (And.intro rfl (And.intro rfl (And.intro rfl (And.intro rfl (And.intro rfl (And.intro ipc (And.intro bf (And.intro br (And.intro bo (And.intro l1 (And.intro l2 (And.intro l3 (And.intro l4 (And.intro l5 ?_))))))))))))))))))
      | refine Exists.intro _ (And.intro (lendL _ _) (And.intro (List.length_map _) ?_))
      | refine And.intro (show wfB _ = true from by kernel_rfl) ?_ | refine And.intro (And.intro rfl rfl) ?_ | exact And.intro rfl rfl | apply HeldC.intro | exact AV.top | (apply HeldF.intro; refine Exists.intro _ (And.intro (by assumption) ?_); refine And.intro (by decide) ?_; exact And.intro rfl rfl) | (refine And.intro (by (refine Exists.intro _ (And.intro (by assumption) ?_); refine And.intro (by decide) ?_; exact And.intro rfl rfl)) ?_) | refine Or.inl ?_
      | refine Exists.intro [] ?_
      | refine And.intro ?_ ?_
      | fail)
  · intro vs h hI
    obtain ⟨rfl, rfl⟩ := hI
    obtain ⟨s, hs⟩ : ∃ s, stepF pc regs f r o rs = s := ⟨_, rfl⟩
    rw [hs] at n1 n2 n3 n4 m1 m2 m3 m4
    rw [hs]
    repeat' ((first
      | refine Exists.intro _ (And.intro (lendS _) (And.intro rfl ?_))
      | refine Exists.intro _ (And.intro List.take_length (And.intro rfl ?_))
      | refine Exists.intro _ (And.intro (lendD _ _) (And.intro (List.length_map _) ?_))
      | refine Exists.intro _ (And.intro (lendL _ _) (And.intro (List.length_map _) ?_))
      | refine Exists.intro _ (And.intro (marks_lendByte _ _) (And.intro (marks_lenByte _ _) ?_))
      | refine Exists.intro _ (And.intro (marks_lendInt _ _) (And.intro (marks_lenInt _ _) ?_))
      | refine And.intro (closed_Int _) ?_
      | refine And.intro (closed_bytes _) ?_
      | refine And.intro (closed_Region _) ?_
      | refine Exists.intro regs (Exists.intro f (Exists.intro r (Exists.intro o (Exists.intro rs (Exists.intro s (And.intro rfl (And.intro rfl (And.intro rfl (And.intro rfl (And.intro rfl (And.intro ipc (And.intro bf (And.intro br (And.intro bo (And.intro l1 (And.intro l2 (And.intro l3 (And.intro l4 (And.intro l5 (And.intro hs ?_))))))))))))))))))))
      | refine Exists.intro s.regs (And.intro rfl (And.intro rfl (And.intro m1 (And.intro rfl ?_))))
      | refine Exists.intro regs (And.intro rfl (And.intro rfl (And.intro l1 (And.intro rfl ?_))))
      | refine Exists.intro regs (And.intro rfl (And.intro rfl (And.intro l1 (And.intro (by omega) (And.intro (by omega) ?_)))))
      | refine Exists.intro s.regs (And.intro rfl (And.intro rfl (And.intro m1 (And.intro (by omega) (And.intro (by omega) ?_)))))
      | refine Exists.intro rs (And.intro rfl (And.intro rfl (And.intro l5 (And.intro (by omega) (And.intro (by omega) ?_)))))
      | refine Exists.intro rs (And.intro rfl (And.intro rfl (And.intro l5 ?_)))
      | refine Exists.intro f (Exists.intro r (Exists.intro o (And.intro rfl (And.intro rfl (And.intro rfl (And.intro rfl (And.intro rfl (And.intro rfl (And.intro l2 (And.intro l3 (And.intro l4 ?_)))))))))))
      | refine Exists.intro f (Exists.intro r (Exists.intro o (And.intro rfl (And.intro rfl (And.intro rfl (And.intro rfl (And.intro rfl (And.intro rfl (And.intro l2 (And.intro l3 (And.intro l4 (And.intro (by omega) (And.intro (by omega) ?_)))))))))))))
      | refine Exists.intro s.f (Exists.intro s.r (Exists.intro s.o (And.intro rfl (And.intro rfl (And.intro rfl (And.intro rfl (And.intro rfl (And.intro rfl (And.intro m2 (And.intro m3 (And.intro m4 ?_)))))))))))
      | refine Exists.intro s.f (Exists.intro s.r (Exists.intro s.o (And.intro rfl (And.intro rfl (And.intro rfl (And.intro rfl (And.intro rfl (And.intro rfl (And.intro m2 (And.intro m3 (And.intro m4 (And.intro (by omega) (And.intro (by omega) ?_)))))))))))))
      | refine Exists.intro regs (And.intro rfl (And.intro l1 ?_))
      | refine Exists.intro f (Exists.intro r (Exists.intro o (And.intro rfl (And.intro rfl (And.intro rfl (And.intro l2 (And.intro l3 (And.intro l4 ?_))))))))
      | refine Exists.intro rs (And.intro rfl (And.intro l5 ?_))
      | refine And.intro (show (0 : Int) ≤ _ by omega) (And.intro (by omega) ?_)
      | refine And.intro (fun h1 => ?_) (fun h1 => ?_)
      | refine And.intro (show wfB _ = true from by kernel_rfl) ?_ | refine And.intro (And.intro rfl rfl) ?_ | exact And.intro rfl rfl | apply HeldC.intro | exact AV.top | (apply HeldF.intro; refine Exists.intro _ (And.intro (by assumption) ?_); refine And.intro (by decide) ?_; exact And.intro rfl rfl) | (refine And.intro (by (refine Exists.intro _ (And.intro (by assumption) ?_); refine And.intro (by decide) ?_; exact And.intro rfl rfl)) ?_) | refine Or.inl ?_
      | fail) <;> try first | cases h1 | (exfalso; simp at h1; done) | (exfalso; simp at h1; omega))
    refine Exists.intro s.regs.length (And.intro rfl (And.intro m1 (And.intro (by omega) (And.intro (by omega) ?_))))
    refine Or.inl ?_
    refine And.intro (fun h1 => by exfalso; simp at h1; omega) (fun h1 => ?_)
    repeat' (first
      | refine Exists.intro _ (And.intro (marks_lendByte _ _) (And.intro (marks_lenByte _ _) ?_))
      | refine Exists.intro _ (And.intro (marks_lendInt _ _) (And.intro (marks_lenInt _ _) ?_))
      | refine And.intro (closed_Int _) ?_
      | refine And.intro (closed_bytes _) ?_
      | fail)
    refine Exists.intro s.f.length (Exists.intro s.r.length (Exists.intro s.o.length (And.intro rfl (And.intro rfl (And.intro rfl (And.intro m2 (And.intro m3 (And.intro m4 (And.intro (by omega) (And.intro (by omega) ?_))))))))))
    refine Or.inl ?_
    refine And.intro (fun h1 => by exfalso; simp at h1; omega) (fun h1 => ?_)
    refine Or.inr (Exists.intro true (Exists.intro [2, 3, 4, 8, 9, 10, 11] (Exists.intro (fun vs h => vs = [.imm false false 6 (rs.map regC), .ptr 0 0 0 2, .ptr 1 0 0 3, .ptr 2 0 0 2, .ptr 3 0 0 3, .v (.int .i64 s.did), .v (.int .i64 s.n)] ∧
      h = [.box [.v (.int .i64 pc), .imm false false 1 (regs.map intC)], .box [.imm false false 1 (f.map byteC), .imm false false 1 (r.map byteC), .imm false false 1 (o.map byteC)], .box [.v (.int .i64 s.pc), .sl 1 (s.regs.map intC)],
        .box [.sl 1 (s.f.map byteC), .sl 1 (s.r.map byteC), .sl 1 (s.o.map byteC)]]) (And.intro ?_ ?_))))
    · refine And.intro (fun h1 => by exfalso; simp at h1; done) (fun h1 => ?_)
      refine Exists.intro [] ?_
      repeat' (first
        | refine Exists.intro _ (And.intro List.take_length (And.intro rfl (And.intro (closed_Int _) ?_)))
        | refine Exists.intro _ (And.intro List.take_length (And.intro rfl (And.intro (closed_bytes _) ?_)))
        | fail)
      exact And.intro rfl rfl
    intro vs h hI
    obtain ⟨rfl, rfl⟩ := hI
    refine Or.inr (Exists.intro true (Exists.intro [8, 9, 10, 11, 22, 23, 24, 25] (Exists.intro (fun vs h => vs = [.ptr 0 0 0 2, .ptr 1 0 0 3, .v (.int .i64 s.did), .v (.int .i64 s.n), .ptr 2 0 0 2, .ptr 3 0 0 3, .v (.int .i64 s.did), .v (.int .i64 s.n)] ∧
      h = [.box [.v (.int .i64 s.pc), .sl 1 (s.regs.map intC)], .box [.sl 1 (s.f.map byteC), .sl 1 (s.r.map byteC), .sl 1 (s.o.map byteC)], .box [.v (.int .i64 s.pc), .sl 1 (s.regs.map intC)], .box [.sl 1 (s.f.map byteC), .sl 1 (s.r.map byteC), .sl 1 (s.o.map byteC)]]) (And.intro ?_ ?_))))
    · refine Or.inl ?_
      refine And.intro (show wfB _ = true from by kernel_rfl) ?_
      repeat' (first
        | refine Exists.intro _ (And.intro (lendD _ _) (And.intro (List.length_map _) ?_))
        | (refine Exists.intro regs (And.intro rfl (And.intro l1 ?_)); exact And.intro rfl rfl)
        | (refine Exists.intro f (Exists.intro r (Exists.intro o (And.intro rfl (And.intro rfl (And.intro rfl (And.intro l2 (And.intro l3 (And.intro l4 ?_)))))))); exact And.intro rfl rfl)
        | (refine Exists.intro rs (And.intro rfl (And.intro l5 ?_)); exact And.intro rfl rfl)
        | refine And.intro (closed_Int _) ?_
        | refine And.intro (closed_bytes _) ?_
        | refine And.intro (closed_Region _) ?_
        | refine Exists.intro regs (Exists.intro f (Exists.intro r (Exists.intro o (Exists.intro rs (Exists.intro s (And.intro rfl (And.intro rfl (And.intro rfl (And.intro rfl (And.intro rfl (And.intro ipc (And.intro bf (And.intro br (And.intro bo (And.intro l1 (And.intro l2 (And.intro l3 (And.intro l4 (And.intro l5 (And.intro hs ?_))))))))))))))))))))
        | refine Exists.intro _ (And.intro (lendL _ _) (And.intro (List.length_map _) ?_))
        | refine And.intro (show wfB _ = true from by kernel_rfl) ?_ | refine And.intro (And.intro rfl rfl) ?_ | exact And.intro rfl rfl | apply HeldC.intro | exact AV.top | (apply HeldF.intro; refine Exists.intro _ (And.intro (by assumption) ?_); refine And.intro (by decide) ?_; exact And.intro rfl rfl) | (refine And.intro (by (refine Exists.intro _ (And.intro (by assumption) ?_); refine And.intro (by decide) ?_; exact And.intro rfl rfl)) ?_) | refine Or.inl ?_
        | refine And.intro ?_ ?_
        | fail)
      all_goals refine Exists.intro [] ?_
      all_goals repeat' (first
        | refine Exists.intro _ (And.intro List.take_length (And.intro rfl (And.intro (closed_Int _) ?_)))
        | refine Exists.intro _ (And.intro List.take_length (And.intro rfl (And.intro (closed_bytes _) ?_)))
        | refine Exists.intro _ (And.intro (lendL _ _) (And.intro (List.length_map _) (And.intro (closed_Int _) ?_)))
        | refine Exists.intro _ (And.intro (lendL _ _) (And.intro (List.length_map _) (And.intro (closed_bytes _) ?_)))
        | fail)
      all_goals exact And.intro rfl rfl
    · intro vs h hI
      obtain ⟨rfl, rfl⟩ := hI
      repeat' ((first
        | refine Exists.intro _ (And.intro (lendS _) (And.intro rfl ?_))
        | refine Exists.intro _ (And.intro List.take_length (And.intro rfl ?_))
        | refine And.intro (closed_Int _) ?_
        | refine And.intro (closed_bytes _) ?_
        | refine Exists.intro s.regs (And.intro rfl (And.intro rfl (And.intro m1 (And.intro rfl ?_))))
        | refine Exists.intro s.f (Exists.intro s.r (Exists.intro s.o (And.intro rfl (And.intro rfl (And.intro rfl (And.intro rfl (And.intro rfl (And.intro rfl (And.intro m2 (And.intro m3 (And.intro m4 ?_)))))))))))
        | refine And.intro (fun h1 => ?_) (fun h1 => ?_)
        | exact rfl
        | refine Or.inl ?_
        | fail) <;> try first | cases h1 | (exfalso; simp at h1; done))
end Go.Proofs.YtijjonafmmhhbaaGreat.Ab
