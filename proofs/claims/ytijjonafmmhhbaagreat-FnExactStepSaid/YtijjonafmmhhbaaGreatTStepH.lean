/- Cores: laid, compared, measured, marked and found again; what a law's arguments are. No condition. -/
import Derived.Test.YtijjonafmmhhbaaGreatTStep1
import Derived.Test.YtijjonafmmhhbaaGreatTInts3
import Derived.Test.YtijjonafmmhhbaaGreatTMemM
import Derived.Test.YtijjonafmmhhbaaGreatTRegs2
import Derived.Test.YtijjonafmmhhbaaGreatTArgs2
namespace Go.Proofs.YtijjonafmmhhbaaGreat.Ab
set_option linter.unusedVariables false
set_option linter.unusedSimpArgs false

def hSzCore : CH := fun args hl K => match args, hl with
  | [.agg [.v _, .imm _ _ 1 R], .v (.int .i64 n)], [] => 0 ≤ n ∧ n ≤ 1048576 ∧ (R.length : Int) ≤ 9223372036854775807 ∧ K (.v (.int .i64 (szB n R.length))) []
  | _, _ => False
def cx_s_szCore : Ctx := mkC [(51, callM [] true hSzB)]
theorem cx_s_szCore_ok : CtxOk Tryz.prog cx_s_szCore := mkC_ok (mem1 ⟨s_szIntS, fnOk Tryz.func51 rfl rfl⟩ mem0)
set_option maxRecDepth 100000 in
set_option pp.maxSteps 1500 in
theorem s_szCore : HSound Tryz.prog 9 (callM [] true hSzCore) := by
  refine callM_sound cx_s_szCore_ok mixed Tryz.func9 rfl fun args hl K hp => ?_
  unfold hSzCore at hp
  split at hp
  · rename_i _ _ _ R n
    obtain ⟨h0, h1, h2, hp⟩ := hp
    refine And.intro h0 (And.intro h1 (And.intro h2 ?_))
    refine And.intro (fun h3 => ?_) (fun h3 => ?_)
    · have h3 := of_decide_eq_true h3
      refine fin_i hp ?_
      simp only [szB] at *
      split at h3 <;> omega
    · exact hp
  · exact hp.elim
def hEqCore : CH := fun args hl K => match args, hl with
  | [.agg [.v (.int .i64 p), .imm _ _ 1 a], .agg [.v (.int .i64 q), .imm _ _ 1 b]], [] => ∃ rs : List Int, a = rs.map intC ∧ b = rs.map intC ∧ rs.length ≤ 1048576 ∧ p = q ∧ K (.v (.bool true)) []
  | _, _ => False
def cx_s_eqCore : Ctx := mkC [(56, callM [] true hEqInt)]
theorem cx_s_eqCore_ok : CtxOk Tryz.prog cx_s_eqCore := mkC_ok (mem1 ⟨s_eqIntS, fnOk Tryz.func56 rfl rfl⟩ mem0)
set_option maxRecDepth 100000 in
set_option pp.maxSteps 1500 in
theorem s_eqCore : HSound Tryz.prog 15 (callM [] true hEqCore) := by
  refine callM_sound cx_s_eqCore_ok mixed Tryz.func15 rfl fun args hl K hp => ?_
  unfold hEqCore at hp
  split at hp
  · obtain ⟨rs, rfl, rfl, hl, rfl, hp⟩ := hp
    refine And.intro (fun h1 => ?_) (fun h1 => ?_)
    · exfalso; simp at h1
    refine Exists.intro rs (And.intro rfl (And.intro rfl (And.intro hl ?_)))
    refine And.intro (fun h1 => ?_) (fun h1 => ?_)
    · exfalso; simp at h1
    exact hp
  · exact hp.elim
def hMarkCore : CH := fun args hl K => match args, hl with
  | [.agg [.v _, .slc 0 0 n _], .v (.int .i64 k)], [.lst 1 L] => ∃ bs : List Int, L = bs.map intC ∧ n = bs.length ∧ bs.length ≤ 1048576 ∧ 0 ≤ k ∧ k ≤ 1099511627776 ∧ K (.v (.int .i64 (k + n))) [.lst 1 ((marksInt k n).map intC)]
  | _, _ => False
def cx_s_markCore : Ctx := mkC [(59, callM [.rw] false hMarkInt)]
theorem cx_s_markCore_ok : CtxOk Tryz.prog cx_s_markCore := mkC_ok (mem1 ⟨s_markIntS, fnOk Tryz.func59 rfl rfl⟩ mem0)
set_option maxRecDepth 100000 in
set_option pp.maxSteps 1500 in
theorem s_markCore : HSound Tryz.prog 18 (callM [.ag [.ro, .rw]] false hMarkCore) := by
  refine callM_sound cx_s_markCore_ok mixed Tryz.func18 rfl fun args hl K hp => ?_
  unfold hMarkCore at hp
  split at hp
  · obtain ⟨bs, rfl, rfl, hl, h0, h1, hp⟩ := hp
    refine And.intro (closed_Int bs) ?_
    refine Exists.intro bs (And.intro rfl (And.intro rfl (And.intro hl (And.intro h0 (And.intro h1 ?_)))))
    refine And.intro (closed_mInt _) ?_
    exact hp
  · exact hp.elim
def hHeldCore : CH := fun args hl K => match args, hl with
  | [.agg [.v _, .imm _ _ 1 L], .v (.int .i64 k)], [] => ∃ n : Nat, L = (marksInt k n).map intC ∧ n ≤ 1048576 ∧ 0 ≤ k ∧ k ≤ 1099511627776 ∧ K (.v (.int .i64 (k + n))) []
  | _, _ => False
def cx_s_heldCore : Ctx := mkC [(61, callM [] true hHeldInt)]
theorem cx_s_heldCore_ok : CtxOk Tryz.prog cx_s_heldCore := mkC_ok (mem1 ⟨s_heldIntS, fnOk Tryz.func61 rfl rfl⟩ mem0)
set_option maxRecDepth 100000 in
set_option pp.maxSteps 1500 in
theorem s_heldCore : HSound Tryz.prog 21 (callM [] true hHeldCore) := by
  refine callM_sound cx_s_heldCore_ok mixed Tryz.func21 rfl fun args hl K hp => ?_
  unfold hHeldCore at hp
  split at hp
  · obtain ⟨n, rfl, hl, h0, h1, hp⟩ := hp
    refine Exists.intro n (And.intro rfl (And.intro hl (And.intro h0 (And.intro h1 ?_))))
    refine And.intro (fun h1 => ?_) (fun h1 => ?_)
    · exfalso; simp at h1; omega
    exact hp
  · exact hp.elim

set_option maxRecDepth 100000
theorem sh_intS {n : Nat} {c : List AV} (hs : Sh Tryz.prog (n + 2) 23 c) : ∃ rs : List Int, c = [.sl 1 (rs.map intC)] ∧ rs.length ≤ maxLen := by
  have h5 : Tryz.prog.cellsOf 3 = 1 := by kernel_rfl
  unfold Sh at hs
  simp only [Tryz.underlying23, h5] at hs
  obtain ⟨l1, rfl, t1, _, m1⟩ := hs
  obtain ⟨rs, rfl, _⟩ := list_of (C := intC) (Q := I64) (fun el h => by obtain ⟨a, rfl, ha⟩ := sh_int h; exact ⟨a, rfl, ha⟩) l1 t1
  exact ⟨rs, rfl, by simpa using m1⟩
theorem arg_core {n : Nat} {c : List AV} {x : AV} (hs : Sh Tryz.prog (n + 3) 35 c) (ha : ArgOf Tryz.prog 35 c x) : ∃ (pc : Int) (rs : List Int), x = .agg [.v (.int .i64 pc), .imm false false 1 (rs.map intC)] ∧ I64 pc ∧ rs.length ≤ maxLen := by
  simp only [ArgOf, Tryz.underlying35] at ha
  unfold Sh at hs
  simp only [Tryz.underlying35] at hs
  obtain ⟨_, _, rfl, s1, _, _, rfl, s2, rfl⟩ := hs
  obtain ⟨pc, rfl, hpc⟩ := sh_int s1
  obtain ⟨rs, rfl, hl⟩ := sh_intS s2
  exact ⟨pc, rs, ha, hpc, hl⟩
theorem arg_lmem {n : Nat} {c : List AV} {x : AV} (hs : Sh Tryz.prog (n + 3) 36 c) (ha : ArgOf Tryz.prog 36 c x) : ∃ f r o, x = .agg [.imm false false 1 (f.map byteC), .imm false false 1 (r.map byteC), .imm false false 1 (o.map byteC)] ∧
    BytesOk f ∧ BytesOk r ∧ BytesOk o ∧ f.length ≤ maxLen ∧ r.length ≤ maxLen ∧ o.length ≤ maxLen := by
  simp only [ArgOf, Tryz.underlying36] at ha
  unfold Sh at hs
  simp only [Tryz.underlying36] at hs
  obtain ⟨_, _, rfl, s1, _, _, rfl, s2, _, _, rfl, s3, rfl⟩ := hs
  obtain ⟨f, rfl, f1, f2⟩ := sh_byteS Tryz.underlying22 s1
  obtain ⟨r, rfl, r1, r2⟩ := sh_byteS Tryz.underlying22 s2
  obtain ⟨o, rfl, o1, o2⟩ := sh_byteS Tryz.underlying22 s3
  exact ⟨f, r, o, ha, f1, r1, o1, f2, r2, o2⟩
end Go.Proofs.YtijjonafmmhhbaaGreat.Ab
