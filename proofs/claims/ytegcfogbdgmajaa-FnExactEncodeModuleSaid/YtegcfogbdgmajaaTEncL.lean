/- EncodeModule: the law. No condition. -/
import Derived.Test.YtegcfogbdgmajaaTEnc3
import Derived.Test.YtegcfogbdgmajaaTMark2
import Derived.Test.YtegcfogbdgmajaaTArgsM
namespace Go.Proofs.Ytegcfogbdgmajaa.Ab
set_option linter.unusedVariables false
set_option linter.unusedSimpArgs false

theorem enc_len {m : Mo} : (encodeF m).length ≤ 1048576 := by
  unfold encodeF
  split
  · rename_i h
    obtain ⟨g1, g2, g3, g4, g5, g6, g7, g8, g9, g10, g11, g12, g13⟩ := good_of h
    have a1 := flat_len (f := listB) (c := 258) (l := m.banks) (fun b hb => by rw [list_len]; have := (g5 b hb).1; omega)
    have a2 := flat_len (f := fun v => numB v 2) (c := 2) (l := m.rels) (fun b _ => by rw [num_len]; exact Nat.le_refl _)
    have a3 := flat_len (f := textB) (c := 26) (l := m.imps) (fun s hs => by rw [text_len]; have := g11 s hs; omega)
    have a4 := flat_len (f := exB) (c := 16) (l := m.exps) (fun e he => by rw [ex_len]; have := (g13 e he).1; omega)
    simp only [encM, enc1, enc2, enc3, enc4, enc5, List.length_append, num_len, text_len, list_len, List.length_cons, List.length_nil]
    omega
  · simp
def cx14 : Ctx := mkC [(57, callM [] true hSzMo), (59, callM [] true hToMo), (62, callM [] true hEncM), (63, callM [] true hEncM), (64, callM [] true hEqB), (61, callM [] true hEqMo), (65, callM [.ag [.ro, .rw, .rw, .rw, .ro, .rw, .rw, .rw]] false hMarkMo), (66, callM [.rw] false hMarkByte), (67, callM [] true hHeldByte)]
theorem cx14_ok : CtxOk Try.prog cx14 := mkC_ok (mem1 ⟨s_szModule, fnOk Try.func57 rfl rfl⟩ (mem1 ⟨s_toModule, fnOk Try.func59 rfl rfl⟩ (mem1 ⟨s_spec_EncodeM, fnOk Try.func62 rfl rfl⟩ (mem1 ⟨s_impl_EncodeM, fnOk Try.func63 rfl rfl⟩ (mem1 ⟨s_eqByteS, fnOk Try.func64 rfl rfl⟩ (mem1 ⟨s_eqModule, fnOk Try.func61 rfl rfl⟩ (mem1 ⟨s_markModule, fnOk Try.func65 rfl rfl⟩ (mem1 ⟨s_markByteS, fnOk Try.func66 rfl rfl⟩ (mem1 ⟨s_heldByteS, fnOk Try.func67 rfl rfl⟩ mem0)))))))))
set_option maxRecDepth 100000 in
set_option maxHeartbeats 16000000 in
set_option pp.maxSteps 1500 in
theorem s14 (xs : List AV) (hx : ArgsOf Try.prog 6 [85] xs) : inlH cx14 Try.f14.ntmps Try.f14.results.toList (Try.f14.body.getD .skip) xs [] fun x _ => x = .v (.bool true) := by
  obtain ⟨x, _, l1, rfl, hs, ha, rfl⟩ := hx
  obtain ⟨m, ⟨b1, z1, b2, z2, b3, z3, b4, z4, b5, z5, b6, z6, rfl⟩, hok⟩ := arg_mo hs ha
  refine Exists.intro m (And.intro ⟨_, _, _, _, _, _, _, _, _, _, _, _, rfl⟩ (And.intro hok.big (And.intro (by decide) (And.intro (by decide) ?_))))
  refine And.intro (fun h1 => rfl) (fun h1 => ?_)
  have h1 := of_decide_eq_false h1
  have hw : wtMo m ≤ 1048576 := by have := szB_ge (by decide) h1; omega
  clear h1
  have hsm := sm_of_wt hw
  have hel := enc_len (m := m)
  have hmw : 0 ≤ markW m := by simp only [markW]; omega
  refine Exists.intro m (And.intro ⟨_, _, _, _, _, _, _, _, _, _, _, _, rfl⟩ (And.intro hsm ?_))
  repeat' ((first
    | refine Exists.intro _ (And.intro (lendD _ _) (And.intro (List.length_map _) ?_))
    | refine And.intro (closed_Int _) ?_
    | refine And.intro (closed_IntS _) ?_
    | refine And.intro (closed_bytes _) ?_
    | refine And.intro (closed_String _) ?_
    | refine And.intro (closed_Export _) ?_
    | refine Exists.intro m (And.intro ⟨_, _, _, _, _, _, _, _, _, _, _, _, rfl⟩ (And.intro hsm ?_))
    | refine Exists.intro m (And.intro ⟨_, _, _, _, _, _, _, _, _, _, _, _, rfl⟩ (And.intro ⟨_, _, _, _, _, _, _, _, _, _, _, _, rfl⟩ (And.intro hsm ?_)))
    | refine Exists.intro (encodeF m) (Exists.intro (encodeF m) (And.intro rfl (And.intro rfl (And.intro hel ?_))))
    | refine And.intro (fun h1 => ?_) (fun h1 => ?_)
    | fail) <;> try first | cases h1 | (exfalso; simp at h1; done))
  refine Or.inl ?_
  refine And.intro (show wfB _ = true from by kernel_rfl) ?_
  apply HeldC.intro
  · refine Exists.intro m (And.intro ⟨_, _, _, _, _, _, _, _, _, _, _, _, rfl⟩ (And.intro hsm ?_))
    exact And.intro rfl rfl
  repeat' ((first
    | refine And.intro (And.intro rfl rfl) ?_
    | exact And.intro rfl rfl
    | refine Exists.intro _ (And.intro (lendD _ _) (And.intro (List.length_map _) ?_))
    | refine And.intro (closed_Int _) ?_
    | refine And.intro (closed_IntS _) ?_
    | refine And.intro (closed_bytes _) ?_
    | refine And.intro (closed_String _) ?_
    | refine And.intro (closed_Export _) ?_
    | refine Exists.intro m (And.intro ⟨_, _, _, _, _, _, _, _, _, _, _, _, rfl⟩ (And.intro ⟨_, _, _, _, _, _, _, _, _, _, _, _, rfl⟩ (And.intro hsm ?_)))
    | refine Exists.intro m (And.intro rfl (And.intro rfl (And.intro rfl (And.intro rfl (And.intro rfl (And.intro rfl (And.intro rfl (And.intro rfl (And.intro rfl (And.intro rfl (And.intro rfl (And.intro rfl (And.intro hw (And.intro (by decide) (And.intro (by decide) ?_)))))))))))))))
    | refine Exists.intro (encodeF m) (Exists.intro (encodeF m) (And.intro rfl (And.intro rfl (And.intro hel ?_))))
    | refine Exists.intro (encodeF m) (And.intro rfl (And.intro rfl (And.intro hel (And.intro (by decide) (And.intro (by decide) ?_)))))
    | refine Exists.intro (encodeF m).length (And.intro rfl (And.intro hel (And.intro (by decide) (And.intro (by decide) ?_))))
    | refine Exists.intro _ (And.intro (marks_lendByte _ _) (And.intro (marks_lenByte _ _) (And.intro (closed_bytes _) ?_)))
    | refine Exists.intro m (And.intro ⟨_, _, _, _, _, _, _, _, _, _, _, _, rfl⟩ (And.intro hsm ?_))
    | refine And.intro (fun h1 => ?_) (fun h1 => ?_)
    | apply HeldC.intro
    | exact rfl
    | fail) <;> try first | cases h1 | (exfalso; simp at h1; done) | (exfalso; simp at h1; omega))
end Go.Proofs.Ytegcfogbdgmajaa.Ab
