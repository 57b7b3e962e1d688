/- MemOk: both programs answer alike (the structs). No condition. -/
import Derived.Test.YtijjonafmmhhbaaGreatTMem
namespace Go.Proofs.YtijjonafmmhhbaaGreat.Ab

def cxSz : Ctx := mkC [(52, callM [] true hSzB)]
theorem cxSz_ok : CtxOk Tryz.prog cxSz := mkC_ok (mem1 ⟨s_szByteS, fnOk Tryz.func52 rfl rfl⟩ mem0)
def szM (n : Int) (a b c : Nat) : Int := if n - a - b - c < 0 then -1 else n - a - b - c
def hSzM : CH := fun args hl K => match args, hl with
  | [.agg [.imm _ _ 1 a, .imm _ _ 1 b, .imm _ _ 1 c], .v (.int .i64 n)], [] => 0 ≤ n ∧ n ≤ 1048576 ∧ (a.length : Int) ≤ 9223372036854775807 ∧ (b.length : Int) ≤ 9223372036854775807 ∧ (c.length : Int) ≤ 9223372036854775807 ∧ K (.v (.int .i64 (szM n a.length b.length c.length))) []
  | _, _ => False
set_option maxRecDepth 100000 in
theorem s_szMem : HSound Tryz.prog 10 (callM [] true hSzM) := by
  refine callM_sound cxSz_ok mixed Tryz.func10 rfl fun args hl K hp => ?_
  unfold hSzM at hp
  split at hp
  · rename_i _ _ a _ _ b _ _ c n
    obtain ⟨h0, h1, ha, hb, hc, hp⟩ := hp
    refine And.intro h0 (And.intro h1 (And.intro ha ?_))
    refine And.intro (fun h1 => ?_) (fun h1 => ?_)
    · have h1 := of_decide_eq_true h1
      simp only [szB] at h1
      refine fin_i hp ?_
      simp only [szM]
      split at h1 <;> split <;> omega
    simp only [decide_eq_false_iff_not] at h1
    have e1 : szB n a.length = n - a.length := by simp only [szB] at *; split at h1 <;> omega
    refine And.intro (by omega) (And.intro (by omega) (And.intro hb ?_))
    refine And.intro (fun h2 => ?_) (fun h2 => ?_)
    · have h2 := of_decide_eq_true h2
      rw [e1] at h2
      simp only [szB] at h2
      refine fin_i hp ?_
      simp only [szM]
      split at h2 <;> split <;> omega
    simp only [decide_eq_false_iff_not] at h2
    have e2 : szB (szB n a.length) b.length = n - a.length - b.length := by rw [e1] at *; simp only [szB] at *; split at h2 <;> omega
    refine And.intro (by omega) (And.intro (by omega) (And.intro hc ?_))
    refine And.intro (fun h3 => ?_) (fun h3 => ?_)
    · have h3 := of_decide_eq_true h3
      rw [e2] at h3
      simp only [szB] at h3
      refine fin_i hp ?_
      simp only [szM]
      split at h3 <;> split <;> omega
    · refine fin_i hp ?_
      rw [e2] at *
      simp only [decide_eq_false_iff_not, szB, szM] at *
      try rfl
  · exact hp.elim

def hToM : CH := fun args hl K => match args, hl with
  | [.agg [.imm _ _ 1 a, .imm _ _ 1 b, .imm _ _ 1 c]], [] => ∃ as' bs cs : List Int, a = as'.map byteC ∧ b = bs.map byteC ∧ c = cs.map byteC ∧ as'.length ≤ 1048576 ∧ bs.length ≤ 1048576 ∧ cs.length ≤ 1048576 ∧
      K (.agg [.slc 0 0 as'.length false, .slc 1 0 bs.length false, .slc 2 0 cs.length false]) [.lst 1 (as'.map byteC), .lst 1 (bs.map byteC), .lst 1 (cs.map byteC)]
  | _, _ => False
def cxTo : Ctx := mkC [(54, callM [] true hToB)]
theorem cxTo_ok : CtxOk Tryz.prog cxTo := mkC_ok (mem1 ⟨s_toByteS, fnOk Tryz.func54 rfl rfl⟩ mem0)
set_option maxRecDepth 100000 in
theorem s_toMem : HSound Tryz.prog 13 (callM [] true hToM) := by
  refine callM_sound cxTo_ok mixed Tryz.func13 rfl fun args hl K hp => ?_
  unfold hToM at hp
  split at hp
  · obtain ⟨a, b, c, rfl, rfl, rfl, ha, hb, hc, hp⟩ := hp
    refine Exists.intro a (And.intro rfl (And.intro ha ?_))
    refine Exists.intro b (And.intro rfl (And.intro hb ?_))
    refine Exists.intro c (And.intro rfl (And.intro hc ?_))
    refine And.intro (closed_bytes a) ?_
    refine And.intro (closed_bytes b) ?_
    refine And.intro (closed_bytes c) ?_
    exact hp
  · exact hp.elim

def memOk (a b c : Nat) : Bool := decide (a ≤ 16384 ∧ b ≤ 16384 ∧ c ≤ 5000)
def hMemOk : CH := fun args hl K => match args, hl with
  | [.agg [.imm _ _ 1 a, .imm _ _ 1 b, .imm _ _ 1 c]], [] => K (.v (.bool (memOk a.length b.length c.length))) []
  | _, _ => False
set_option maxRecDepth 100000 in
theorem s_spec_MemOk : HSound Tryz.prog 33 (callM [] true hMemOk) := by
  refine callM_sound cx0_ok mixed Tryz.func33 rfl fun args hl K hp => ?_
  unfold hMemOk at hp
  split at hp
  · repeat' ((first | refine And.intro (fun h1 => ?_) (fun h1 => ?_) | refine And.intro (by decide) ?_ | refine And.intro (show wfB _ = true from by kernel_rfl) ?_ | refine And.intro (And.intro rfl rfl) ?_ | exact And.intro rfl rfl | apply HeldC.intro | exact AV.top | (apply HeldF.intro; refine Exists.intro _ (And.intro (by assumption) ?_); refine And.intro (by decide) ?_; exact And.intro rfl rfl) | (refine And.intro (by (refine Exists.intro _ (And.intro (by assumption) ?_); refine And.intro (by decide) ?_; exact And.intro rfl rfl)) ?_) | refine Or.inl ?_) <;> try cases h1)
    all_goals refine fin_b hp ?_
    all_goals clear hp
    all_goals rw [Bool.eq_iff_iff]
    all_goals simp only [memOk, decide_eq_true_eq, decide_eq_false_iff_not, reduceCtorEq, iff_false, iff_true] at *
    all_goals omega
  · exact hp.elim
set_option maxRecDepth 100000 in
theorem s_impl_MemOk : HSound Tryz.prog 45 (callM [] true hMemOk) := by
  refine callM_sound cx0_ok mixed Tryz.func45 rfl fun args hl K hp => ?_
  unfold hMemOk at hp
  split at hp
  · repeat' ((first | refine And.intro (fun h1 => ?_) (fun h1 => ?_) | refine And.intro (by decide) ?_ | refine And.intro (show wfB _ = true from by kernel_rfl) ?_ | refine And.intro (And.intro rfl rfl) ?_ | exact And.intro rfl rfl | apply HeldC.intro | exact AV.top | (apply HeldF.intro; refine Exists.intro _ (And.intro (by assumption) ?_); refine And.intro (by decide) ?_; exact And.intro rfl rfl) | (refine And.intro (by (refine Exists.intro _ (And.intro (by assumption) ?_); refine And.intro (by decide) ?_; exact And.intro rfl rfl)) ?_) | refine Or.inl ?_) <;> try cases h1)
    all_goals refine fin_b hp ?_
    all_goals clear hp
    all_goals rw [Bool.eq_iff_iff]
    all_goals simp only [memOk, decide_eq_true_eq, decide_eq_false_iff_not, reduceCtorEq, iff_false, iff_true] at *
    all_goals omega
  · exact hp.elim

def hEqM : CH := fun args hl K => match args, hl with
  | [.agg [.imm _ _ 1 a, .imm _ _ 1 b, .imm _ _ 1 c], .agg [.imm _ _ 1 a', .imm _ _ 1 b', .imm _ _ 1 c']], [] => ∃ x y z : List Int, a = x.map byteC ∧ b = y.map byteC ∧ c = z.map byteC ∧ a' = x.map byteC ∧ b' = y.map byteC ∧ c' = z.map byteC ∧
      x.length ≤ 1048576 ∧ y.length ≤ 1048576 ∧ z.length ≤ 1048576 ∧ K (.v (.bool true)) []
  | _, _ => False
def cxEq : Ctx := mkC [(57, callM [] true hEqB)]
theorem cxEq_ok : CtxOk Tryz.prog cxEq := mkC_ok (mem1 ⟨s_eqByteS, fnOk Tryz.func57 rfl rfl⟩ mem0)
set_option maxRecDepth 100000 in
theorem s_eqMem : HSound Tryz.prog 16 (callM [] true hEqM) := by
  refine callM_sound cxEq_ok mixed Tryz.func16 rfl fun args hl K hp => ?_
  unfold hEqM at hp
  split at hp
  · obtain ⟨x, y, z, rfl, rfl, rfl, rfl, rfl, rfl, hx, hy, hz, hp⟩ := hp
    refine Exists.intro x (Exists.intro x (And.intro rfl (And.intro rfl (And.intro hx ?_))))
    refine And.intro (fun h1 => ?_) (fun h1 => ?_)
    · simp at h1
    refine Exists.intro y (Exists.intro y (And.intro rfl (And.intro rfl (And.intro hy ?_))))
    refine And.intro (fun h1 => ?_) (fun h1 => ?_)
    · simp at h1
    refine Exists.intro z (Exists.intro z (And.intro rfl (And.intro rfl (And.intro hz ?_))))
    refine And.intro (fun h1 => ?_) (fun h1 => ?_)
    · simp at h1
    exact hp
  · exact hp.elim
end Go.Proofs.YtijjonafmmhhbaaGreat.Ab
