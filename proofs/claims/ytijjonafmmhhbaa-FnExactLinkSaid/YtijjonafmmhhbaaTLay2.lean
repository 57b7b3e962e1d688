/- Modules of a list: marked. No condition. -/
import Derived.Test.YtijjonafmmhhbaaTMark2
namespace Go.Proofs.Ytijjonafmmhhbaa.Ab
set_option linter.unusedVariables false
set_option linter.unusedSimpArgs false

def hMarkMoS : CH := fun args hl K => match args, hl with
  | [.slc 0 0 n _, .v (.int .i64 k)], [.lst 8 L] => ∃ bs : List Mo, L = bs.map moC ∧ n = bs.length ∧ wtModule bs ≤ 1048576 ∧ k = 1 ∧ ∀ (q : Int) (cs : List Mo), 0 ≤ q → cs.length = bs.length → K (.v (.int .i64 q)) [.lst 8 (cs.map moC)]
  | _, _ => False
theorem clo_set {L : List (List AV)} {cs : List Mo} {i : Nat} (hcs : ∀ m' : Mo, ((cs.set i m').map moC) = L.set (0 + i) (moC m')) (m' : Mo) : ClosedL (L.set (0 + i) (moC m')) := by
  rw [← hcs]
  exact closed_Module _
def cx_s_markModuleS : Ctx := mkC [(80, callM [] false hMkText), (58, callM [.rw] false hMarkInt), (59, callM [.rw] false hMarkIntSS), (17, callM [.rw] false hMarkByte), (60, callM [.rw] false hMarkString), (61, callM [.rw] false hMarkExport)]
theorem cx_s_markModuleS_ok : CtxOk Try.prog cx_s_markModuleS := mkC_ok (mem1 ⟨s_markText, fnOk Try.func80 rfl rfl⟩ (mem1 ⟨s_markIntS, fnOk Try.func58 rfl rfl⟩ (mem1 ⟨s_markIntSS, fnOk Try.func59 rfl rfl⟩ (mem1 ⟨s_markByteS, fnOk Try.func17 rfl rfl⟩ (mem1 ⟨s_markStringS, fnOk Try.func60 rfl rfl⟩ (mem1 ⟨s_markExportS, fnOk Try.func61 rfl rfl⟩ mem0))))))
set_option maxRecDepth 100000 in
set_option pp.maxSteps 1500 in
set_option maxHeartbeats 8000000 in
theorem s_markModuleS : HSound Try.prog 28 (callM [.rw] false hMarkMoS) := by
  refine callM_sound cx_s_markModuleS_ok mixed Try.func28 rfl fun args hl K hp => ?_
  unfold hMarkMoS at hp
  split at hp
  · rename_i n z0 k _
    obtain ⟨bs, rfl, rfl, hw, rfl, hp⟩ := hp
    simp only [wtModule] at hw
    refine Exists.intro true (Exists.intro [0, 1, 5] (Exists.intro (fun m vs h => ∃ (i : Nat) (q : Int) (cs : List Mo), i ≤ bs.length ∧ m = bs.length - i ∧ 0 ≤ q ∧ q ≤ 1 + 3 * (((bs.take i).map wtMo).sum : Nat) + 2 * (i : Int) ∧ cs.length = bs.length ∧ (∀ k, i ≤ k → cs[k]? = bs[k]?) ∧ vs = [.slc 0 0 bs.length false, .v (.int .i64 q), .v (.int .i64 i)] ∧ h = [.lst 8 (cs.map moC)]) (And.intro ?_ ?_)))
    · refine Exists.intro [] ?_
      refine And.intro (closed_Module _) ?_
      exact Exists.intro bs.length ⟨0, 1, bs, by omega, rfl, by omega, by simp, rfl, fun _ _ => rfl, rfl, rfl⟩
    intro m vs h hI
    obtain ⟨i, q, cs, hi, rfl, hq0, hq1, hcl, hck, rfl, rfl⟩ := hI
    refine And.intro (fun h1 => ?_) (fun h1 => ?_)
    · have h1 := of_decide_eq_true h1
      have hlt : i < bs.length := by omega
      obtain ⟨b, hb⟩ : ∃ b, bs[i]? = some b := ⟨_, List.getElem?_eq_getElem hlt⟩
      have hcb : cs[i]? = some b := by rw [hck i (Nat.le_refl i), hb]
      have hst := sum_take (f := wtMo) hb
      have hle := sum_take_le wtMo bs (i + 1)
      have hwb : wtMo b ≤ 1048576 := by omega
      have hsm := sm_of_wt hwb
      have hbk : lensB b.banks ≤ 1048576 := by simp only [wtMo, wtIntS] at hwb; simp only [lensB]; omega
      have hW : (b.text.length + lensB b.banks + b.data.length + b.rels.length + b.imps.length + 3 * b.exps.length : Int) ≤ 3 * (wtMo b : Nat) := by
        simp only [wtMo, wtIntS, wtString, wtExport, lensB]
        omega
      generalize ((bs.take i).map wtMo).sum = S0 at *
      generalize hS1 : ((bs.take (i + 1)).map wtMo).sum = S1 at *
      have hg : (cs.map moC)[0 + i]? = some (moC b) := by rw [Nat.zero_add]; exact get_map hcb
      have hLl : (cs.map moC).length = bs.length := by rw [List.length_map, hcl]
      have hiL : 0 + i < (cs.map moC).length := by omega
      have hcs : ∀ m' : Mo, ((cs.set i m').map moC) = (cs.map moC).set (0 + i) (moC m') := fun m' => by rw [Nat.zero_add, List.map_set]
      generalize cs.map moC = L at *
      obtain ⟨g0, g1, g2, g3, g4, g5, g6, g7, g8, g9⟩ := hsm
      have hgs : ∀ (M : List (List AV)) (e : List AV), M.length = L.length → (M.set (0 + i) e)[0 + i]? = some e := fun M e hM => get_set (by omega)
      have j1 : (b.text.map intC).length = b.text.length := List.length_map _
      have j2 : (b.banks.map bankC).length = b.banks.length := List.length_map _
      have j3 : (b.data.map byteC).length = b.data.length := List.length_map _
      have j4 : (b.rels.map intC).length = b.rels.length := List.length_map _
      have j5 : (b.imps.map strC).length = b.imps.length := List.length_map _
      have j6 : (b.exps.map exC).length = b.exps.length := List.length_map _
      have hw1 : IntKind.i64.wrap (q + 1) = q + 1 := wrap64 (by omega)
      have hw2 : IntKind.i64.wrap (IntKind.i64.wrap (q + 1) + ((b.text.map intC).length : Int) + (lensB b.banks : Int) + ((b.data.map byteC).length : Int) + 1) = q + 1 + b.text.length + lensB b.banks + b.data.length + 1 := by rw [hw1, j1, j3]; exact wrap64 (by omega)
      repeat' (first
        | refine And.intro (by omega) (And.intro (by omega) ?_)
        | refine Exists.intro i (And.intro rfl (And.intro hlt ?_))
        | refine Exists.intro _ (And.intro hg (And.intro (by decide) ?_))
        | refine Exists.intro _ (And.intro (hgs _ _ (by simp only [List.length_set])) (And.intro (by decide) ?_))
        | refine And.intro (closed_Int _) ?_
        | refine And.intro (closed_bytes _) ?_
        | refine And.intro (closed_IntS _) ?_
        | refine And.intro (closed_String _) ?_
        | refine And.intro (closed_Export _) ?_
        | refine Exists.intro b.text (And.intro rfl (And.intro (List.length_map _) (And.intro g1 (And.intro (by omega) (And.intro (by omega) ?_)))))
        | refine Exists.intro b.banks (And.intro rfl (And.intro (List.length_map _) (And.intro g2 (And.intro hbk (And.intro (by omega) (And.intro (by omega) ?_))))))
        | refine Exists.intro b.data (And.intro rfl (And.intro (List.length_map _) (And.intro g4 (And.intro (by omega) (And.intro (by omega) ?_)))))
        | refine Exists.intro b.rels (And.intro rfl (And.intro (List.length_map _) (And.intro g5 (And.intro (by omega) (And.intro (by omega) ?_)))))
        | refine Exists.intro b.imps (And.intro rfl (And.intro (List.length_map _) (And.intro g6 (And.intro (by omega) (And.intro (by omega) ?_)))))
        | refine Exists.intro b.exps (And.intro rfl (And.intro (List.length_map _) (And.intro g8 (And.intro (by omega) (And.intro (by omega) ?_)))))
        | fail)
      have hkS : ∀ (k : Int) (n : Nat), ((marksString k n).map strC).length = n := fun k n => by simp [marksString]
      have hkE : ∀ (k : Int) (n : Nat), ((marksExport k n).map exC).length = n := fun k n => by simp [marksExport]
      have hkI : ∀ (k : Int) (n : Nat), ((marksInt k n).map intC).length = n := fun k n => by simp [marksInt]
      have hkB : ∀ (k : Int) (n : Nat), ((marksByte k n).map byteC).length = n := fun k n => by simp [marksByte]
      have hkK : ∀ (k : Int), ((markBk k b.banks).map bankC).length = (b.banks.map bankC).length := fun k => by rw [List.length_map, List.length_map, markBk_len]
      refine Exists.intro [(0, 0 + i, 1), (0, 0 + i, 2), (0, 0 + i, 3), (0, 0 + i, 5), (0, 0 + i, 6), (0, 0 + i, 7)] ?_
      repeat' (first
        | refine Exists.intro _ (And.intro (hgs _ _ (by simp only [List.length_set])) ?_)
        | refine Exists.intro _ (And.intro (List.take_of_length_le (Nat.le_of_eq (hkI _ _))) (And.intro (hkI _ _) (And.intro (closed_Int _) ?_)))
        | refine Exists.intro _ (And.intro (List.take_of_length_le (Nat.le_of_eq (hkK _))) (And.intro (hkK _) (And.intro (closed_IntS _) ?_)))
        | refine Exists.intro _ (And.intro (List.take_of_length_le (Nat.le_of_eq (hkB _ _))) (And.intro (hkB _ _) (And.intro (closed_bytes _) ?_)))
        | refine Exists.intro _ (And.intro (List.take_of_length_le (Nat.le_of_eq (hkS _ _))) (And.intro (hkS _ _) (And.intro (closed_String _) ?_)))
        | refine Exists.intro _ (And.intro (List.take_of_length_le (Nat.le_of_eq (hkE _ _))) (And.intro (hkE _ _) (And.intro (closed_Export _) ?_)))
        | fail)
      simp only [List.set_set]
      refine And.intro (clo_set hcs ⟨_, _, _, _, _, _, _, _⟩) ?_
      refine Exists.intro (bs.length - (i + 1)) (And.intro (by omega) ⟨i + 1, IntKind.i64.wrap (IntKind.i64.wrap (q + 1) + ((b.text.map intC).length : Int) + (lensB b.banks : Int) + ((b.data.map byteC).length : Int) + 1) + ((b.rels.map intC).length : Int) + ((b.imps.map strC).length : Int) + 3 * ((b.exps.map exC).length : Int), cs.set i ⟨_, _, _, _, _, _, _, _⟩, by omega, rfl, ?_, ?_, by rw [List.length_set, hcl], fun k hk => ?_, ?_, congrArg (fun l => [Root.lst 8 l]) (hcs ⟨_, _, _, _, _, _, _, _⟩).symm⟩)
      · rw [hw2]
        omega
      · rw [hw2, hS1]
        omega
      · rw [List.getElem?_set_ne (by omega)]
        exact hck k (by omega)
      · rw [wrap_succ hlt (by omega)]
    · have h1 := of_decide_eq_false h1
      refine And.intro (closed_Module _) ?_
      exact hp q cs hq0 hcl
  · exact hp.elim
end Go.Proofs.Ytijjonafmmhhbaa.Ab
