/- Functions walked, part 14. No condition. -/
import Derived.Test.YtbfjkjdbdejnmaaGreatWalk13
import Derived.Test.YtbfjkjdbdejnmaaGreatWalk10
set_option linter.unusedVariables false
set_option linter.unusedSimpArgs false
/- Image: the law. No condition. -/
namespace Go.Proofs.YtbfjkjdbdejnmaaGreat.Ab
set_option linter.unusedVariables false
set_option linter.unusedSimpArgs false
set_option maxRecDepth 100000

theorem img_len (ms : List Mo) (l : La) : (imgF ms l).length ≤ 16384 ∧ (imgR ms l).length ≤ 16384 := by
  by_cases h : RealP ms l
  · obtain ⟨e1, e2, _⟩ := img_y h
    have hl := lim_of h
    rw [e1, e2, flashN_len, ramN_len hl]
    have := hl.fl
    have := hl.ram
    omega
  · obtain ⟨e1, e2, _⟩ := img_n h
    rw [e1, e2]
    simp
theorem lendT6 (l : List (List AV)) : List.take l.length (List.drop 0 l) = l := by rw [List.drop_zero, List.take_length]
def cx4 : Ctx := mkCut [(7, callM [] true hSzModule), (8, callM [] true hSzLa), (10, callM [] true hToModule), (11, callM [] true hToLa), (15, callM [] true hImage), (16, callM [] true hImage), (17, callM [] true hEqM), (13, callM [] true hEqModule), (14, callM [] true hEqLa), (18, callM [.rw] false hMarkMoS2), (19, callM [.ag [.rw, .ro, .rw, .ro, .ro, .rw]] false hMarkLa), (20, callM [.ag [.rw, .rw, .rw]] false hMarkM), (21, callM [] true hHeldM)]
theorem cx4_ok : CtxOk Tryz.prog cx4 := mkCut_ok (mem1 ⟨s_szModuleS, fnOk Tryz.func7 rfl rfl⟩ (mem1 ⟨s_szLayout, fnOk Tryz.func8 rfl rfl⟩ (mem1 ⟨s_toModuleS, fnOk Tryz.func10 rfl rfl⟩ (mem1 ⟨s_toLayout, fnOk Tryz.func11 rfl rfl⟩ (mem1 ⟨s_ImageS, fnOk Tryz.func15 rfl rfl⟩ (mem1 ⟨s_ImageI, fnOk Tryz.func16 rfl rfl⟩ (mem1 ⟨s_eqMem, fnOk Tryz.func17 rfl rfl⟩ (mem1 ⟨s_eqModuleS, fnOk Tryz.func13 rfl rfl⟩ (mem1 ⟨s_eqLayout, fnOk Tryz.func14 rfl rfl⟩ (mem1 ⟨s_markModuleS2, fnOk Tryz.func18 rfl rfl⟩ (mem1 ⟨s_markLayout, fnOk Tryz.func19 rfl rfl⟩ (mem1 ⟨s_markMem, fnOk Tryz.func20 rfl rfl⟩ (mem1 ⟨s_heldMem, fnOk Tryz.func21 rfl rfl⟩ mem0)))))))))))))
set_option maxRecDepth 100000 in
set_option maxHeartbeats 64000000 in
set_option pp.maxSteps 1500 in
theorem s4 (xs : List AV) (hx : ArgsOf Tryz.prog 6 [22, 27] xs) : inlH cx4 Tryz.f4.ntmps Tryz.f4.results.toList (Tryz.f4.body.getD .skip) xs [] fun x _ => x = .v (.bool true) := by
  obtain ⟨x, _, l1, rfl, hs, ha, x2, _, l2, rfl, hs2, ha2, rfl⟩ := hx
  obtain ⟨ms, rfl, hok, hlen⟩ := arg_moS hs ha
  obtain ⟨l, ⟨b1, z1, b2, z2, b3, z3, rfl⟩, hla⟩ := arg_la hs2 ha2
  refine Exists.intro ms (And.intro rfl (And.intro (fun m hm => (hok m hm).big) (And.intro hlen (And.intro (by decide) (And.intro (by decide) ?_)))))
  refine Or.inl ?_
  refine And.intro (fun h1 => rfl) (fun h1 => ?_)
  have h1 := of_decide_eq_false h1
  have q0 := szB_ge (by decide) h1
  have q1 := szB_pos q0
  clear h1
  have hw : wtModule ms ≤ 1048576 := by omega
  generalize szB 1048576 (wtModule ms) = c1 at *
  refine Exists.intro l (And.intro ⟨_, _, _, _, _, _, rfl⟩ (And.intro hla.big (And.intro (by omega) (And.intro (by omega) ?_))))
  refine Or.inl ?_
  refine And.intro (fun h1 => rfl) (fun h1 => ?_)
  have h1 := of_decide_eq_false h1
  have hsl : smLa l := smLa_of_wt (by have := szB_ge (by omega) h1; omega)
  clear h1
  have hl : ms.length ≤ 1048576 := by simp only [wtModule] at hw; omega
  have hsm : ∀ m ∈ ms, smMo m := fun m hm => sm_of_wt (by have := le_sum (f := wtMo) hm; simp only [wtModule] at hw; omega)
  have hby : ∀ m ∈ ms, BytesOk m.data := fun m hm => (hok m hm).data
  have hfr := img_len ms l
  have hmw : 0 ≤ markWL l := by simp only [markWL]; omega
  generalize hF : imgF ms l = f at *
  generalize hR : imgR ms l = r at *
  generalize hO : imgO ms l = o at *
  refine Or.inr (Exists.intro true (Exists.intro [0, 3, 6, 7] (Exists.intro (fun vs h => vs = [.imm false false 8 (ms.map moC), .ptr 0 0 0 6, .ptr 1 0 0 3, .v (.bool o)] ∧ h = [.box (laI l b1 z1 b2 z2 b3 z3), .box [.sl 1 (f.map byteC), .sl 1 (r.map byteC), .sl 1 []]]) (And.intro ?_ ?_))))
  · refine Or.inl ?_
    refine And.intro (show wfB _ = true from by kernel_rfl) ?_
    repeat' (first
      | (refine Exists.intro ms ?_; refine And.intro rfl ?_; refine And.intro hsm ?_; refine And.intro hl ?_; exact And.intro rfl rfl)
      | (refine Exists.intro l ?_; refine And.intro ⟨_, _, _, _, _, _, rfl⟩ ?_; refine And.intro hsl ?_; exact And.intro rfl rfl)
      | refine Exists.intro _ (And.intro (lendD _ _) (And.intro (List.length_map _) ?_))
      | refine Exists.intro _ (And.intro (lendT6 _) (And.intro rfl ?_))
      | refine And.intro (closed_Module _) ?_
      | refine And.intro (closed_Place _) ?_
      | refine And.intro (closed_Int _) ?_
      | refine And.intro (closed_TargetS _) ?_
      | (refine Exists.intro ms ?_; refine Exists.intro l ?_; refine And.intro rfl ?_; refine And.intro hl ?_; refine And.intro hsm ?_; refine And.intro hby ?_; refine And.intro ⟨_, _, _, _, _, _, rfl⟩ ?_; refine And.intro hsl ?_; rw [hF, hR, hO]; exact And.intro rfl rfl)
      | refine And.intro (show wfB _ = true from by kernel_rfl) ?_ | refine And.intro (And.intro rfl rfl) ?_ | exact And.intro rfl rfl | apply HeldC.intro | exact AV.top | (apply HeldF.intro; refine Exists.intro _ (And.intro (by assumption) ?_); refine And.intro (by decide) ?_; exact And.intro rfl rfl) | (refine And.intro (by (refine Exists.intro _ (And.intro (by assumption) ?_); refine And.intro (by decide) ?_; exact And.intro rfl rfl)) ?_) | refine Or.inl ?_
      | refine And.intro ?_ ?_
      | fail)
    all_goals refine Exists.intro [] ?_
    all_goals repeat' (first
      | refine Exists.intro [] (And.intro rfl (And.intro rfl (And.intro closed_nil ?_)))
      | refine Exists.intro _ (And.intro (lendL _ _) (And.intro (List.length_map _) (And.intro (closed_bytes _) ?_)))
      | refine Exists.intro _ (And.intro List.take_length (And.intro rfl (And.intro (closed_bytes _) ?_)))
      | fail)
    all_goals exact And.intro rfl rfl
  rintro vs h ⟨rfl, rfl⟩
  repeat' ((first
    | refine Exists.intro _ (And.intro (lendD _ _) (And.intro (List.length_map _) ?_))
    | refine Exists.intro _ (And.intro (lendT6 _) (And.intro rfl ?_))
    | refine Exists.intro [] (And.intro rfl (And.intro rfl ?_))
    | refine Exists.intro _ (And.intro (lendK (mkG_len _ _)).1 (And.intro (lendK (mkG_len _ _)).2 ?_))
    | refine Exists.intro _ (And.intro (lendK (marksInt_len _ _)).1 (And.intro (lendK (marksInt_len _ _)).2 ?_))
    | refine Exists.intro _ (And.intro (marks_lendByte _ _) (And.intro (marks_lenByte _ _) ?_))
    | refine And.intro (closed_Module _) ?_
    | refine And.intro (closed_Place _) ?_
    | refine And.intro (closed_Int _) ?_
    | refine And.intro (closed_TargetS _) ?_
    | refine And.intro (closed_bytes _) ?_
    | refine And.intro (closed_mByte _) ?_
    | refine And.intro closed_nil ?_
    | refine Exists.intro ms (And.intro rfl (And.intro hsm (And.intro hl ?_)))
    | refine Exists.intro l (And.intro ⟨_, _, _, _, _, _, rfl⟩ (And.intro hsl ?_))
    | (refine Exists.intro ms ?_; refine Exists.intro l ?_; refine And.intro rfl (And.intro hl (And.intro hsm (And.intro hby (And.intro ⟨_, _, _, _, _, _, rfl⟩ (And.intro hsl ?_))))); rw [hF, hR, hO])
    | refine Exists.intro ms (And.intro rfl (And.intro rfl (And.intro hsm (And.intro hl ?_))))
    | refine Exists.intro l (And.intro ⟨_, _, _, _, _, _, rfl⟩ (And.intro ⟨_, _, _, _, _, _, rfl⟩ (And.intro hsl ?_)))
    | (refine Exists.intro ms (And.intro rfl (And.intro rfl (And.intro hw (And.intro rfl ?_)))); intro q cs hq hq2 hcs)
    | refine Exists.intro l (And.intro rfl (And.intro rfl (And.intro rfl (And.intro rfl (And.intro rfl (And.intro rfl (And.intro rfl (And.intro rfl (And.intro rfl (And.intro hsl (And.intro (by omega) (And.intro (by omega) ?_))))))))))))
    | (refine Exists.intro f ?_; refine Exists.intro r ?_; refine Exists.intro [] ?_; refine And.intro rfl (And.intro rfl (And.intro rfl (And.intro rfl (And.intro rfl (And.intro rfl (And.intro (by omega) (And.intro (by omega) (And.intro (by simp; done) ?_)))))))))
    | (refine Exists.intro f ?_; refine Exists.intro r ?_; refine Exists.intro [] ?_; refine And.intro rfl (And.intro rfl (And.intro rfl (And.intro (by first | rfl | (simp; done)) (And.intro (by first | rfl | (simp; done)) (And.intro rfl (And.intro (by omega) (And.intro (by omega) (And.intro (by simp; done) (And.intro (by decide) (And.intro (by decide) ?_)))))))))))
    | (refine Exists.intro f.length ?_; refine Exists.intro r.length ?_; refine Exists.intro 0 ?_; refine And.intro rfl (And.intro rfl (And.intro rfl (And.intro (by omega) (And.intro (by omega) (And.intro (by omega) (And.intro (by decide) (And.intro (by decide) ?_))))))))
    | refine And.intro (by decide) (And.intro (by decide) ?_)
    | refine Or.inl ?_
    | refine And.intro (fun h1 => ?_) (fun h1 => ?_)
    | fail) <;> try first | (cases h1; done) | (exfalso; simp at h1; done) | (exfalso; simp at h1; omega))
  repeat' ((first
    | refine And.intro (closed_Module _) ?_
    | refine Exists.intro _ (And.intro (lendD _ _) (And.intro (List.length_map _) ?_))
    | refine Exists.intro _ (And.intro (lendT6 _) (And.intro rfl ?_))
    | refine And.intro (closed_Place _) ?_
    | refine And.intro (closed_Int _) ?_
    | refine And.intro (closed_TargetS _) ?_
    | (refine Exists.intro l ?_; refine And.intro ⟨_, _, _, _, _, _, rfl⟩ ?_; refine And.intro hsl ?_; exact And.intro rfl rfl)
    | (refine Exists.intro l ?_; refine And.intro ⟨_, _, _, _, _, _, rfl⟩ ?_; refine And.intro ⟨_, _, _, _, _, _, rfl⟩ ?_; refine And.intro hsl ?_; exact And.intro rfl rfl)
    | refine And.intro (show wfB _ = true from by kernel_rfl) ?_ | refine And.intro (And.intro rfl rfl) ?_ | exact And.intro rfl rfl | apply HeldC.intro | exact AV.top | (apply HeldF.intro; refine Exists.intro _ (And.intro (by assumption) ?_); refine And.intro (by decide) ?_; exact And.intro rfl rfl) | (refine And.intro (by (refine Exists.intro _ (And.intro (by assumption) ?_); refine And.intro (by decide) ?_; exact And.intro rfl rfl)) ?_) | refine Or.inl ?_
    | refine And.intro (fun h1 => ?_) (fun h1 => ?_)
    | refine And.intro ?_ ?_
    | fail) <;> try first | (cases h1; done) | (exfalso; simp at h1; done))
  repeat' ((first
    | refine Exists.intro _ (And.intro (lendD _ _) (And.intro (List.length_map _) ?_))
    | refine Exists.intro _ (And.intro (lendT6 _) (And.intro rfl ?_))
    | refine Exists.intro [] (And.intro rfl (And.intro rfl ?_))
    | refine Exists.intro _ (And.intro (lendK (mkG_len _ _)).1 (And.intro (lendK (mkG_len _ _)).2 ?_))
    | refine Exists.intro _ (And.intro (lendK (marksInt_len _ _)).1 (And.intro (lendK (marksInt_len _ _)).2 ?_))
    | refine Exists.intro _ (And.intro (marks_lendByte _ _) (And.intro (marks_lenByte _ _) ?_))
    | refine And.intro (closed_Module _) ?_
    | refine And.intro (closed_Place _) ?_
    | refine And.intro (closed_Int _) ?_
    | refine And.intro (closed_TargetS _) ?_
    | refine And.intro (closed_bytes _) ?_
    | refine And.intro (closed_mByte _) ?_
    | refine And.intro closed_nil ?_
    | refine Exists.intro ms (And.intro rfl (And.intro hsm (And.intro hl ?_)))
    | refine Exists.intro l (And.intro ⟨_, _, _, _, _, _, rfl⟩ (And.intro hsl ?_))
    | (refine Exists.intro ms ?_; refine Exists.intro l ?_; refine And.intro rfl (And.intro hl (And.intro hsm (And.intro hby (And.intro ⟨_, _, _, _, _, _, rfl⟩ (And.intro hsl ?_))))); rw [hF, hR, hO])
    | refine Exists.intro ms (And.intro rfl (And.intro rfl (And.intro hsm (And.intro hl ?_))))
    | refine Exists.intro l (And.intro ⟨_, _, _, _, _, _, rfl⟩ (And.intro ⟨_, _, _, _, _, _, rfl⟩ (And.intro hsl ?_)))
    | (refine Exists.intro ms (And.intro rfl (And.intro rfl (And.intro hw (And.intro rfl ?_)))); intro q cs hq hq2 hcs)
    | refine Exists.intro l (And.intro rfl (And.intro rfl (And.intro rfl (And.intro rfl (And.intro rfl (And.intro rfl (And.intro rfl (And.intro rfl (And.intro rfl (And.intro hsl (And.intro (by omega) (And.intro (by omega) ?_))))))))))))
    | (refine Exists.intro f ?_; refine Exists.intro r ?_; refine Exists.intro [] ?_; refine And.intro rfl (And.intro rfl (And.intro rfl (And.intro rfl (And.intro rfl (And.intro rfl (And.intro (by omega) (And.intro (by omega) (And.intro (by simp; done) ?_)))))))))
    | (refine Exists.intro f ?_; refine Exists.intro r ?_; refine Exists.intro [] ?_; refine And.intro rfl (And.intro rfl (And.intro rfl (And.intro (by first | rfl | (simp; done)) (And.intro (by first | rfl | (simp; done)) (And.intro rfl (And.intro (by omega) (And.intro (by omega) (And.intro (by simp; done) (And.intro (by decide) (And.intro (by decide) ?_)))))))))))
    | (refine Exists.intro f.length ?_; refine Exists.intro r.length ?_; refine Exists.intro 0 ?_; refine And.intro rfl (And.intro rfl (And.intro rfl (And.intro (by omega) (And.intro (by omega) (And.intro (by omega) (And.intro (by decide) (And.intro (by decide) ?_))))))))
    | refine And.intro (by decide) (And.intro (by decide) ?_)
    | refine Or.inl ?_
    | refine And.intro (fun h1 => ?_) (fun h1 => ?_)
    | fail) <;> try first | (cases h1; done) | (exfalso; simp at h1; done) | (exfalso; simp at h1; omega))
  refine And.intro (show wfB _ = true from by kernel_rfl) ?_
  repeat' ((first
    | (refine Exists.intro ms ?_; refine And.intro rfl ?_; refine And.intro hsm ?_; refine And.intro hl ?_; exact And.intro rfl rfl)
    | (refine Exists.intro l ?_; refine And.intro ⟨_, _, _, _, _, _, rfl⟩ ?_; refine And.intro hsl ?_; exact And.intro rfl rfl)
    | refine Exists.intro _ (And.intro (lendD _ _) (And.intro (List.length_map _) ?_))
    | refine Exists.intro _ (And.intro (lendT6 _) (And.intro rfl ?_))
    | refine And.intro (closed_Module _) ?_
    | refine And.intro (closed_Place _) ?_
    | refine And.intro (closed_Int _) ?_
    | refine And.intro (closed_TargetS _) ?_
    | (refine Exists.intro ms ?_; refine Exists.intro l ?_; refine And.intro rfl ?_; refine And.intro hl ?_; refine And.intro hsm ?_; refine And.intro hby ?_; refine And.intro ⟨_, _, _, _, _, _, rfl⟩ ?_; refine And.intro hsl ?_; rw [hF, hR, hO]; exact And.intro rfl rfl)
    | refine And.intro (closed_bytes _) ?_
    | refine And.intro closed_nil ?_
    | refine Exists.intro [] (And.intro rfl (And.intro rfl ?_))
    | (refine Exists.intro f ?_; refine Exists.intro r ?_; refine Exists.intro [] ?_; refine And.intro rfl (And.intro rfl (And.intro rfl (And.intro rfl (And.intro rfl (And.intro rfl (And.intro (by omega) (And.intro (by omega) (And.intro (by simp; done) ?_)))))))))
    | refine And.intro (show wfB _ = true from by kernel_rfl) ?_ | refine And.intro (And.intro rfl rfl) ?_ | exact And.intro rfl rfl | apply HeldC.intro | exact AV.top | (apply HeldF.intro; refine Exists.intro _ (And.intro (by assumption) ?_); refine And.intro (by decide) ?_; exact And.intro rfl rfl) | (refine And.intro (by (refine Exists.intro _ (And.intro (by assumption) ?_); refine And.intro (by decide) ?_; exact And.intro rfl rfl)) ?_) | refine Or.inl ?_
    | refine And.intro (fun h1 => ?_) (fun h1 => ?_)
    | refine And.intro ?_ ?_
    | fail) <;> try first | (cases h1; done) | (exfalso; simp at h1; done))
  all_goals exact rfl
end Go.Proofs.YtbfjkjdbdejnmaaGreat.Ab
