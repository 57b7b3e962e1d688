/- Modules: a whole one, marked. No condition. -/
import Derived.Test.YtijjonafmmhhbaaTMark1
namespace Go.Proofs.Ytijjonafmmhhbaa.Ab
set_option linter.unusedVariables false
set_option linter.unusedSimpArgs false

def markMo (k : Int) (m : Mo) : Mo :=
  let k2 := k + m.text.length
  let k3 := k2 + lensB m.banks
  let k4 := k3 + m.data.length
  let k5 := k4 + m.rels.length
  let k6 := k5 + m.imps.length
  { m with text := marksInt k m.text.length, banks := markBk k2 m.banks, data := marksByte k3 m.data.length, rels := marksInt k4 m.rels.length, imps := marksString k5 m.imps.length, exps := marksExport k6 m.exps.length }
def markW (m : Mo) : Int := m.text.length + lensB m.banks + m.data.length + m.rels.length + m.imps.length + 3 * m.exps.length
def hMarkMo : CH := fun args hl K => match args, hl with
  | [.agg [.v _, .slc 0 0 a _, .slc 1 0 b _, .slc 2 0 c _, .v _, .slc 3 0 d _, .slc 4 0 e _, .slc 5 0 f _], .v (.int .i64 k)], [.lst 1 A, .lst 1 B, .lst 1 C, .lst 1 D, .lst 1 E, .lst 3 F] => ∃ m : Mo, A = m.text.map intC ∧ B = m.banks.map bankC ∧ C = m.data.map byteC ∧ D = m.rels.map intC ∧ E = m.imps.map strC ∧ F = m.exps.map exC ∧
      a = m.text.length ∧ b = m.banks.length ∧ c = m.data.length ∧ d = m.rels.length ∧ e = m.imps.length ∧ f = m.exps.length ∧ wtMo m ≤ 1048576 ∧ 0 ≤ k ∧ k ≤ 536870912 ∧ K (.v (.int .i64 (k + markW m))) (moH (markMo k m))
  | _, _ => False
def cx_s_markModule : Ctx := mkC [(58, callM [.rw] false hMarkInt), (59, callM [.rw] false hMarkIntSS), (17, callM [.rw] false hMarkByte), (60, callM [.rw] false hMarkString), (61, callM [.rw] false hMarkExport)]
theorem cx_s_markModule_ok : CtxOk Try.prog cx_s_markModule := mkC_ok (mem1 ⟨s_markIntS, fnOk Try.func58 rfl rfl⟩ (mem1 ⟨s_markIntSS, fnOk Try.func59 rfl rfl⟩ (mem1 ⟨s_markByteS, fnOk Try.func17 rfl rfl⟩ (mem1 ⟨s_markStringS, fnOk Try.func60 rfl rfl⟩ (mem1 ⟨s_markExportS, fnOk Try.func61 rfl rfl⟩ mem0)))))
set_option maxRecDepth 100000 in
set_option pp.maxSteps 1500 in
set_option maxHeartbeats 4000000 in
theorem s_markModule : HSound Try.prog 18 (callM [.ag [.ro, .rw, .rw, .rw, .ro, .rw, .rw, .rw]] false hMarkMo) := by
  refine callM_sound cx_s_markModule_ok mixed Try.func18 rfl fun args hl K hp => ?_
  unfold hMarkMo at hp
  split at hp
  · obtain ⟨m, rfl, rfl, rfl, rfl, rfl, rfl, rfl, rfl, rfl, rfl, rfl, rfl, hw, hk0, hk1, hp⟩ := hp
    have hsm := sm_of_wt hw
    have hbk : lensB m.banks ≤ 1048576 := by simp only [wtMo, wtIntS] at hw; simp only [lensB]; omega
    obtain ⟨g0, g1, g2, g3, g4, g5, g6, g7, g8, g9⟩ := hsm
    repeat' (first
      | refine Exists.intro m.text (And.intro rfl (And.intro rfl (And.intro g1 (And.intro (by omega) (And.intro (by omega) ?_)))))
      | refine Exists.intro m.banks (And.intro rfl (And.intro rfl (And.intro g2 (And.intro hbk (And.intro (by omega) (And.intro (by omega) ?_))))))
      | refine Exists.intro m.data (And.intro rfl (And.intro rfl (And.intro g4 (And.intro (by omega) (And.intro (by omega) ?_)))))
      | refine Exists.intro m.rels (And.intro rfl (And.intro rfl (And.intro g5 (And.intro (by omega) (And.intro (by omega) ?_)))))
      | refine Exists.intro m.imps (And.intro rfl (And.intro rfl (And.intro g6 (And.intro (by omega) (And.intro (by omega) ?_)))))
      | refine Exists.intro m.exps (And.intro rfl (And.intro rfl (And.intro g8 (And.intro (by omega) (And.intro (by omega) ?_)))))
      | refine And.intro (closed_Int _) ?_
      | refine And.intro (closed_IntS _) ?_
      | refine And.intro (closed_bytes _) ?_
      | refine And.intro (closed_String _) ?_
      | refine And.intro (closed_Export _) ?_
      | fail)
    refine fin_i hp ?_
    simp only [markW]
    omega
  · exact hp.elim
end Go.Proofs.Ytijjonafmmhhbaa.Ab
