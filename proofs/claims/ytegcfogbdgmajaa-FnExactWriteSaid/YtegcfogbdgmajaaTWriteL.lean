/- Write: the law. No condition. -/
import Derived.Test.YtegcfogbdgmajaaTMemM
namespace Go.Proofs.Ytegcfogbdgmajaa.Ab

theorem writeF_len (f r o : List Int) (a s v : Int) : (writeF f r o a s v).1.length = r.length ∧ (writeF f r o a s v).2.1.length ≤ max o.length 5000 := by
  unfold writeF
  repeat' split
  all_goals simp [putY_len]
  all_goals omega
def cx10 : Ctx := mkC [(18, callM [] true hSzM), (20, callM [] true hToM), (42, callM [] true hWrite), (43, callM [] true hWrite), (22, callM [] true hEqM), (44, callM [.ag [.rw, .rw, .rw]] false hMarkM), (45, callM [] true hHeldM)]
theorem cx10_ok : CtxOk Try.prog cx10 := mkC_ok (mem1 ⟨s_szMem, fnOk Try.func18 rfl rfl⟩ (mem1 ⟨s_toMem, fnOk Try.func20 rfl rfl⟩ (mem1 ⟨s_spec_Write, fnOk Try.func42 rfl rfl⟩ (mem1 ⟨s_impl_Write, fnOk Try.func43 rfl rfl⟩ (mem1 ⟨s_eqMem, fnOk Try.func22 rfl rfl⟩ (mem1 ⟨s_markMem, fnOk Try.func44 rfl rfl⟩ (mem1 ⟨s_heldMem, fnOk Try.func45 rfl rfl⟩ mem0)))))))
set_option maxRecDepth 100000 in
set_option maxHeartbeats 16000000 in
set_option pp.maxSteps 1500 in
theorem s10 (xs : List AV) (hx : ArgsOf Try.prog 3 [34, 3, 3, 3] xs) : inlH cx10 Try.f10.ntmps Try.f10.results.toList (Try.f10.body.getD .skip) xs [] fun x _ => x = .v (.bool true) := by
  obtain ⟨x, _, l1, rfl, hs, ha, x2, _, l2, rfl, hs2, ha2, x3, _, l3, rfl, hs3, ha3, x4, _, l4, rfl, hs4, ha4, rfl⟩ := hx
  obtain ⟨f, r, o, rfl, bf, br, bo, lf, lr, lo⟩ := arg_mem hs ha
  obtain ⟨a, rfl, wa⟩ := arg_int hs2 ha2
  obtain ⟨b, rfl, wb⟩ := arg_int hs3 ha3
  obtain ⟨v, rfl, wv⟩ := arg_int hs4 ha4
  have hmax : maxLen ≤ 9223372036854775807 := by decide
  refine And.intro (by decide) (And.intro (by decide) (And.intro (by simp; omega) (And.intro (by simp; omega) (And.intro (by simp; omega) ?_))))
  refine And.intro (fun h1 => rfl) (fun h1 => ?_)
  have h1 := of_decide_eq_false h1
  have hl : f.length + r.length + o.length ≤ 1048576 := by
    simp only [szM, List.length_map] at h1
    split at h1 <;> omega
  have l1 : f.length ≤ 1048576 := by omega
  have l2 : r.length ≤ 1048576 := by omega
  have l3 : o.length ≤ 1048576 := by omega
  clear h1
  obtain ⟨w1, w2⟩ := writeF_len f r o a b v
  have l2' : (writeF f r o a b v).1.length ≤ 1048576 := by omega
  have l3' : (writeF f r o a b v).2.1.length ≤ 1048576 := by omega
  repeat' ((first
    | refine Exists.intro f (Exists.intro r (Exists.intro o (And.intro rfl (And.intro rfl (And.intro rfl (And.intro rfl (And.intro rfl (And.intro rfl (And.intro l1 (And.intro l2 (And.intro l3 ?_)))))))))))
    | refine Exists.intro f (Exists.intro r (Exists.intro o (And.intro rfl (And.intro rfl (And.intro rfl (And.intro rfl (And.intro rfl (And.intro rfl (And.intro l1 (And.intro l2 (And.intro l3 (And.intro (by decide) (And.intro (by decide) ?_)))))))))))))
    | refine Exists.intro f (Exists.intro r (Exists.intro o (And.intro rfl (And.intro rfl (And.intro rfl (And.intro l1 (And.intro l2 (And.intro l3 (And.intro wa (And.intro wv ?_))))))))))
    | refine Exists.intro f (Exists.intro r (Exists.intro o (And.intro rfl (And.intro rfl (And.intro rfl (And.intro l1 (And.intro l2 (And.intro l3 ?_))))))))
    | refine Exists.intro f (Exists.intro (writeF f r o a b v).1 (Exists.intro (writeF f r o a b v).2.1 (And.intro rfl (And.intro rfl (And.intro rfl (And.intro rfl (And.intro rfl (And.intro rfl (And.intro l1 (And.intro l2' (And.intro l3' ?_)))))))))))
    | refine Exists.intro f.length (Exists.intro (writeF f r o a b v).1.length (Exists.intro (writeF f r o a b v).2.1.length (And.intro rfl (And.intro rfl (And.intro rfl (And.intro l1 (And.intro l2' (And.intro l3' (And.intro (by decide) (And.intro (by decide) ?_))))))))))
    | refine Exists.intro _ (And.intro (lendB _) (And.intro (lenB _) (And.intro (closed_bytes _) ?_)))
    | refine Exists.intro _ (And.intro (marks_lendByte _ _) (And.intro (marks_lenByte _ _) (And.intro (closed_bytes _) ?_)))
    | refine And.intro (closed_bytes _) ?_
    | refine And.intro (by decide) ?_
    | refine And.intro (fun h1 => ?_) (fun h1 => ?_)
    | refine And.intro (show wfB _ = true from by kernel_rfl) ?_ | refine And.intro (And.intro rfl rfl) ?_ | exact And.intro rfl rfl | apply HeldC.intro | exact AV.top | (apply HeldF.intro; refine Exists.intro _ (And.intro (by assumption) ?_); refine And.intro (by decide) ?_; exact And.intro rfl rfl) | (refine And.intro (by (refine Exists.intro _ (And.intro (by assumption) ?_); refine And.intro (by decide) ?_; exact And.intro rfl rfl)) ?_) | refine Or.inl ?_) <;> try first | cases h1 | (exfalso; simp at h1; done) | (exfalso; simp at h1; omega))
  all_goals exact rfl
end Go.Proofs.Ytegcfogbdgmajaa.Ab
