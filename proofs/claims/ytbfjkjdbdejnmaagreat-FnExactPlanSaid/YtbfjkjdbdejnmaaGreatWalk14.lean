/- Functions walked, part 14. No condition. -/
import Derived.Test.YtbfjkjdbdejnmaaGreatWalk9
import Derived.Test.YtbfjkjdbdejnmaaGreatWalk13
import Derived.Test.YtbfjkjdbdejnmaaGreatWalk2
set_option linter.unusedVariables false
set_option linter.unusedSimpArgs false
/- Modules of a list: marked, with a bound. No condition. -/
namespace Go.Proofs.YtbfjkjdbdejnmaaGreat.Ab
set_option linter.unusedVariables false
set_option linter.unusedSimpArgs false

def hMarkMoS2 : CH := fun args hl K => match args, hl with
  | [.slc 0 0 n _, .v (.int .i64 k)], [.lst 8 L] => ∃ bs : List Mo, L = bs.map moC ∧ n = bs.length ∧ wtModule bs ≤ 1048576 ∧ k = 1 ∧ ∀ (q : Int) (cs : List Mo), 0 ≤ q → q ≤ 8388608 → cs.length = bs.length → K (.v (.int .i64 q)) [.lst 8 (cs.map moC)]
  | _, _ => False
def cx_s_markModuleS2 : Ctx := mkC [(55, callM [] false hMkText), (56, callM [.rw] false hMarkInt), (57, callM [.rw] false hMarkIntSS), (58, callM [.rw] false hMarkByte), (59, callM [.rw] false hMarkString), (60, callM [.rw] false hMarkExport)]
theorem cx_s_markModuleS2_ok : CtxOk Tryz.prog cx_s_markModuleS2 := mkC_ok (mem1 ⟨s_markText, fnOk Tryz.func55 rfl rfl⟩ (mem1 ⟨s_markIntS, fnOk Tryz.func56 rfl rfl⟩ (mem1 ⟨s_markIntSS, fnOk Tryz.func57 rfl rfl⟩ (mem1 ⟨s_markByteS, fnOk Tryz.func58 rfl rfl⟩ (mem1 ⟨s_markStringS, fnOk Tryz.func59 rfl rfl⟩ (mem1 ⟨s_markExportS, fnOk Tryz.func60 rfl rfl⟩ mem0))))))
set_option maxRecDepth 100000 in
set_option pp.maxSteps 1500 in
set_option maxHeartbeats 8000000 in
theorem s_markModuleS2 : HSound Tryz.prog 18 (callM [.rw] false hMarkMoS2) := by
  refine callM_sound cx_s_markModuleS2_ok mixed Tryz.func18 rfl fun args hl K hp => ?_
  unfold hMarkMoS2 at hp
  split at hp
  · rename_i n z0 k _
    obtain ⟨bs, rfl, rfl, hw, rfl, hp⟩ := hp
    simp only [wtModule] at hw
    refine Exists.intro true (Exists.intro [0, 1, 5] (Exists.intro (fun m vs h => ∃ (i : Nat) (q : Int) (cs : List Mo), i ≤ bs.length ∧ m = bs.length - i ∧ 0 ≤ q ∧ q ≤ 1 + 3 * (((bs.take i).map wtMo).sum : Nat) + 2 * (i : Int) ∧ cs.length = bs.length ∧ (∀ k, i ≤ k → cs[k]? = bs[k]?) ∧ vs = [.slc 0 0 bs.length false, .v (.int .i64 q), .v (.int .i64 i)] ∧ h = [.lst 8 (cs.map moC)]) (And.intro ?_ ?_)))
    · refine Exists.intro [] ?_
      refine And.intro (closed_Module _) ?_
      exact Exists.intro bs.length ⟨0, 1, bs, by omega, rfl, by omega, by simp, rfl, fun _ _ => rfl, rfl, rfl⟩
    intro m vs h hI
    obtain ⟨i, q, cs, hi, rfl, hq0, hq1, hcl, hck, rfl, rfl⟩ := hI
    refine And.intro (fun h1 => ?_) (fun h1 => ?_)
    · have h1 := of_decide_eq_true h1
      have hlt : i < bs.length := by omega
      obtain ⟨b, hb⟩ : ∃ b, bs[i]? = some b := ⟨_, List.getElem?_eq_getElem hlt⟩
      have hcb : cs[i]? = some b := by rw [hck i (Nat.le_refl i), hb]
      have hst := sum_take (f := wtMo) hb
      have hle := sum_take_le wtMo bs (i + 1)
      have hwb : wtMo b ≤ 1048576 := by omega
      have hsm := sm_of_wt hwb
      have hbk : lensB b.banks ≤ 1048576 := by simp only [wtMo, wtIntS] at hwb; simp only [lensB]; omega
      have hW : (b.text.length + lensB b.banks + b.data.length + b.rels.length + b.imps.length + 3 * b.exps.length : Int) ≤ 3 * (wtMo b : Nat) := by
        simp only [wtMo, wtIntS, wtString, wtExport, lensB]
        omega
      generalize ((bs.take i).map wtMo).sum = S0 at *
      generalize hS1 : ((bs.take (i + 1)).map wtMo).sum = S1 at *
      have hg : (cs.map moC)[0 + i]? = some (moC b) := by rw [Nat.zero_add]; exact get_map hcb
      have hLl : (cs.map moC).length = bs.length := by rw [List.length_map, hcl]
      have hiL : 0 + i < (cs.map moC).length := by omega
      have hcs : ∀ m' : Mo, ((cs.set i m').map moC) = (cs.map moC).set (0 + i) (moC m') := fun m' => by rw [Nat.zero_add, List.map_set]
      generalize cs.map moC = L at *
      obtain ⟨g0, g1, g2, g3, g4, g5, g6, g7, g8, g9⟩ := hsm
      have hgs : ∀ (M : List (List AV)) (e : List AV), M.length = L.length → (M.set (0 + i) e)[0 + i]? = some e := fun M e hM => get_set (by omega)
      have j1 : (b.text.map intC).length = b.text.length := List.length_map _
      have j2 : (b.banks.map bankC).length = b.banks.length := List.length_map _
      have j3 : (b.data.map byteC).length = b.data.length := List.length_map _
      have j4 : (b.rels.map intC).length = b.rels.length := List.length_map _
      have j5 : (b.imps.map strC).length = b.imps.length := List.length_map _
      have j6 : (b.exps.map exC).length = b.exps.length := List.length_map _
      have hw1 : IntKind.i64.wrap (q + 1) = q + 1 := wrap64 (by omega)
      have hw2 : IntKind.i64.wrap (IntKind.i64.wrap (q + 1) + ((b.text.map intC).length : Int) + (lensB b.banks : Int) + ((b.data.map byteC).length : Int) + 1) = q + 1 + b.text.length + lensB b.banks + b.data.length + 1 := by rw [hw1, j1, j3]; exact wrap64 (by omega)
      repeat' (first
        | refine And.intro (by omega) (And.intro (by omega) ?_)
        | refine Exists.intro i (And.intro rfl (And.intro hlt ?_))
        | refine Exists.intro _ (And.intro hg (And.intro (by decide) ?_))
        | refine Exists.intro _ (And.intro (hgs _ _ (by simp only [List.length_set])) (And.intro (by decide) ?_))
        | refine And.intro (closed_Int _) ?_
        | refine And.intro (closed_bytes _) ?_
        | refine And.intro (closed_IntS _) ?_
        | refine And.intro (closed_String _) ?_
        | refine And.intro (closed_Export _) ?_
        | refine Exists.intro b.text (And.intro rfl (And.intro (List.length_map _) (And.intro g1 (And.intro (by omega) (And.intro (by omega) ?_)))))
        | refine Exists.intro b.banks (And.intro rfl (And.intro (List.length_map _) (And.intro g2 (And.intro hbk (And.intro (by omega) (And.intro (by omega) ?_))))))
        | refine Exists.intro b.data (And.intro rfl (And.intro (List.length_map _) (And.intro g4 (And.intro (by omega) (And.intro (by omega) ?_)))))
        | refine Exists.intro b.rels (And.intro rfl (And.intro (List.length_map _) (And.intro g5 (And.intro (by omega) (And.intro (by omega) ?_)))))
        | refine Exists.intro b.imps (And.intro rfl (And.intro (List.length_map _) (And.intro g6 (And.intro (by omega) (And.intro (by omega) ?_)))))
        | refine Exists.intro b.exps (And.intro rfl (And.intro (List.length_map _) (And.intro g8 (And.intro (by omega) (And.intro (by omega) ?_)))))
        | fail)
      have hkS : ∀ (k : Int) (n : Nat), ((marksString k n).map strC).length = n := fun k n => by simp [marksString]
      have hkE : ∀ (k : Int) (n : Nat), ((marksExport k n).map exC).length = n := fun k n => by simp [marksExport]
      have hkI : ∀ (k : Int) (n : Nat), ((marksInt k n).map intC).length = n := fun k n => by simp [marksInt]
      have hkB : ∀ (k : Int) (n : Nat), ((marksByte k n).map byteC).length = n := fun k n => by simp [marksByte]
      have hkK : ∀ (k : Int), ((markBk k b.banks).map bankC).length = (b.banks.map bankC).length := fun k => by rw [List.length_map, List.length_map, markBk_len]
      refine Exists.intro [(0, 0 + i, 1), (0, 0 + i, 2), (0, 0 + i, 3), (0, 0 + i, 5), (0, 0 + i, 6), (0, 0 + i, 7)] ?_
      repeat' (first
        | refine Exists.intro _ (And.intro (hgs _ _ (by simp only [List.length_set])) ?_)
        | refine Exists.intro _ (And.intro (List.take_of_length_le (Nat.le_of_eq (hkI _ _))) (And.intro (hkI _ _) (And.intro (closed_Int _) ?_)))
        | refine Exists.intro _ (And.intro (List.take_of_length_le (Nat.le_of_eq (hkK _))) (And.intro (hkK _) (And.intro (closed_IntS _) ?_)))
        | refine Exists.intro _ (And.intro (List.take_of_length_le (Nat.le_of_eq (hkB _ _))) (And.intro (hkB _ _) (And.intro (closed_bytes _) ?_)))
        | refine Exists.intro _ (And.intro (List.take_of_length_le (Nat.le_of_eq (hkS _ _))) (And.intro (hkS _ _) (And.intro (closed_String _) ?_)))
        | refine Exists.intro _ (And.intro (List.take_of_length_le (Nat.le_of_eq (hkE _ _))) (And.intro (hkE _ _) (And.intro (closed_Export _) ?_)))
        | fail)
      simp only [List.set_set]
      refine And.intro (clo_set hcs ⟨_, _, _, _, _, _, _, _⟩) ?_
      refine Exists.intro (bs.length - (i + 1)) (And.intro (by omega) ⟨i + 1, IntKind.i64.wrap (IntKind.i64.wrap (q + 1) + ((b.text.map intC).length : Int) + (lensB b.banks : Int) + ((b.data.map byteC).length : Int) + 1) + ((b.rels.map intC).length : Int) + ((b.imps.map strC).length : Int) + 3 * ((b.exps.map exC).length : Int), cs.set i ⟨_, _, _, _, _, _, _, _⟩, by omega, rfl, ?_, ?_, by rw [List.length_set, hcl], fun k hk => ?_, ?_, congrArg (fun l => [Root.lst 8 l]) (hcs ⟨_, _, _, _, _, _, _, _⟩).symm⟩)
      · rw [hw2]
        omega
      · rw [hw2, hS1]
        omega
      · rw [List.getElem?_set_ne (by omega)]
        exact hck k (by omega)
      · rw [wrap_succ hlt (by omega)]
    · have h1 := of_decide_eq_false h1
      refine And.intro (closed_Module _) ?_
      exact hp q cs hq0 (by have := sum_take_le wtMo bs i; omega) hcl
  · exact hp.elim
end Go.Proofs.YtbfjkjdbdejnmaaGreat.Ab

/- Plan: the law. No condition. -/
namespace Go.Proofs.YtbfjkjdbdejnmaaGreat.Ab
set_option linter.unusedVariables false
set_option linter.unusedSimpArgs false
set_option maxRecDepth 100000

theorem plan_len (ms : List Mo) (l : La) (i b s : Int) : (planR ms l i b s).length ≤ 8 := by
  by_cases h : RealP ms l
  · cases hp : planF ms l i b s with
    | none => rw [(planR_none (Or.inr hp)).1]; simp
    | some rs =>
      rw [(planR_some h hp).1]
      unfold planF at hp
      split at hp
      · split at hp
        · split at hp
          · rename_i q
            cases hp
            simp only [Bool.and_eq_true, decide_eq_true_eq] at q
            exact q.2
          · cases hp
        · cases hp
      · cases hp
  · rw [(planR_none (Or.inl h)).1]
    simp
theorem lendT6 (l : List (List AV)) : List.take l.length (List.drop 0 l) = l := by rw [List.drop_zero, List.take_length]
theorem arg_tg {n : Nat} {c : List AV} {x : AV} (hs : Sh Tryz.prog (n + 2) 51 c) (ha : ArgOf Tryz.prog 51 c x) : ∃ a b d : Int, x = .agg [.v (.int .i64 a), .v (.int .i64 b), .v (.int .i64 d)] := by
  simp only [ArgOf, Tryz.underlying51] at ha
  obtain ⟨e, rfl, _⟩ := sh_tg _ hs
  exact ⟨_, _, _, ha⟩
def cx5 : Ctx := mkCut [(7, callM [] true hSzModule), (8, callM [] true hSzLa), (10, callM [] true hToModule), (11, callM [] true hToLa), (23, callM [] false hConvTarget), (22, callM [] true hPlan), (24, callM [] true hPlan), (25, callM [] true hEqRegion), (13, callM [] true hEqModule), (14, callM [] true hEqLa), (18, callM [.rw] false hMarkMoS2), (19, callM [.ag [.rw, .ro, .rw, .ro, .ro, .rw]] false hMarkLa), (26, callM [.rw] false hMarkRegion), (27, callM [] true hHeldRegion)]
theorem cx5_ok : CtxOk Tryz.prog cx5 := mkCut_ok (mem1 ⟨s_szModuleS, fnOk Tryz.func7 rfl rfl⟩ (mem1 ⟨s_szLayout, fnOk Tryz.func8 rfl rfl⟩ (mem1 ⟨s_toModuleS, fnOk Tryz.func10 rfl rfl⟩ (mem1 ⟨s_toLayout, fnOk Tryz.func11 rfl rfl⟩ (mem1 ⟨s_toTarget, fnOk Tryz.func23 rfl rfl⟩ (mem1 ⟨s_PlanS, fnOk Tryz.func22 rfl rfl⟩ (mem1 ⟨s_PlanI, fnOk Tryz.func24 rfl rfl⟩ (mem1 ⟨s_eqRegionS, fnOk Tryz.func25 rfl rfl⟩ (mem1 ⟨s_eqModuleS, fnOk Tryz.func13 rfl rfl⟩ (mem1 ⟨s_eqLayout, fnOk Tryz.func14 rfl rfl⟩ (mem1 ⟨s_markModuleS2, fnOk Tryz.func18 rfl rfl⟩ (mem1 ⟨s_markLayout, fnOk Tryz.func19 rfl rfl⟩ (mem1 ⟨s_markRegionS, fnOk Tryz.func26 rfl rfl⟩ (mem1 ⟨s_heldRegionS, fnOk Tryz.func27 rfl rfl⟩ mem0))))))))))))))
set_option maxRecDepth 100000 in
set_option maxHeartbeats 64000000 in
set_option pp.maxSteps 1500 in
theorem s5 (xs : List AV) (hx : ArgsOf Tryz.prog 6 [22, 27, 51, 3] xs) : inlH cx5 Tryz.f5.ntmps Tryz.f5.results.toList (Tryz.f5.body.getD .skip) xs [] fun x _ => x = .v (.bool true) := by
  obtain ⟨x, _, l1, rfl, hs, ha, x2, _, l2, rfl, hs2, ha2, x3, _, l3, rfl, hs3, ha3, x4, _, l4, rfl, hs4, ha4, rfl⟩ := hx
  obtain ⟨ms, rfl, hok, hlen⟩ := arg_moS hs ha
  obtain ⟨l, ⟨b1, z1, b2, z2, b3, z3, rfl⟩, hla⟩ := arg_la hs2 ha2
  obtain ⟨ti, tb, tp, rfl⟩ := arg_tg hs3 ha3
  obtain ⟨sl, rfl, _⟩ := arg_int hs4 ha4
  refine Exists.intro ms (And.intro rfl (And.intro (fun m hm => (hok m hm).big) (And.intro hlen (And.intro (by decide) (And.intro (by decide) ?_)))))
  refine Or.inl ?_
  refine And.intro (fun h1 => rfl) (fun h1 => ?_)
  have h1 := of_decide_eq_false h1
  have q0 := szB_ge (by decide) h1
  have q1 := szB_pos q0
  clear h1
  have hw : wtModule ms ≤ 1048576 := by omega
  generalize szB 1048576 (wtModule ms) = c1 at *
  refine Exists.intro l (And.intro ⟨_, _, _, _, _, _, rfl⟩ (And.intro hla.big (And.intro (by omega) (And.intro (by omega) ?_))))
  refine Or.inl ?_
  refine And.intro (fun h1 => rfl) (fun h1 => ?_)
  have h1 := of_decide_eq_false h1
  have hsl : smLa l := smLa_of_wt (by have := szB_ge (by omega) h1; omega)
  clear h1
  have hl : ms.length ≤ 1048576 := by simp only [wtModule] at hw; omega
  have hsm : ∀ m ∈ ms, smMo m := fun m hm => sm_of_wt (by have := le_sum (f := wtMo) hm; simp only [wtModule] at hw; omega)
  have hrl := plan_len ms l ti tb sl
  have hmw : 0 ≤ markWL l := by simp only [markWL]; omega
  generalize hP : planR ms l ti tb sl = rs at *
  generalize hO : planO ms l ti tb sl = o at *
  refine Or.inr (Exists.intro true (Exists.intro [0, 3, 5, 6, 10, 11] (Exists.intro (fun vs h => vs = [.imm false false 8 (ms.map moC), .v (.int .i64 sl), .ptr 0 0 0 6, .ptr 1 0 0 3, .slc 2 0 rs.length false, .v (.bool o)] ∧ h = [.box (laI l b1 z1 b2 z2 b3 z3), .box [.v (.int .i64 ti), .v (.int .i64 tb), .v (.int .i64 tp)], .lst 6 (rs.map regC)]) (And.intro ?_ ?_))))
  · refine Or.inl ?_
    refine And.intro (show wfB _ = true from by kernel_rfl) ?_
    repeat' (first
      | (refine Exists.intro ms ?_; refine And.intro rfl ?_; refine And.intro hsm ?_; refine And.intro hl ?_; exact And.intro rfl rfl)
      | (refine Exists.intro l ?_; refine And.intro ⟨_, _, _, _, _, _, rfl⟩ ?_; refine And.intro hsl ?_; exact And.intro rfl rfl)
      | (refine Exists.intro l ?_; refine And.intro ⟨_, _, _, _, _, _, rfl⟩ ?_; refine And.intro ⟨_, _, _, _, _, _, rfl⟩ ?_; refine And.intro hsl ?_; exact And.intro rfl rfl)
      | refine Exists.intro _ (And.intro (lendD _ _) (And.intro (List.length_map _) ?_))
      | refine Exists.intro _ (And.intro (lendT6 _) (And.intro rfl ?_))
      | refine And.intro (closed_Module _) ?_
      | refine And.intro (closed_Place _) ?_
      | refine And.intro (closed_Int _) ?_
      | refine And.intro (closed_TargetS _) ?_
      | refine And.intro (closed_Region _) ?_
      | (refine Exists.intro ms ?_; refine Exists.intro l ?_; refine And.intro rfl ?_; refine And.intro hl ?_; refine And.intro hsm ?_; refine And.intro ⟨_, _, _, _, _, _, rfl⟩ ?_; refine And.intro hsl ?_; rw [hP, hO]; exact And.intro rfl rfl)
      | (refine Exists.intro rs ?_; refine And.intro rfl ?_; refine And.intro rfl ?_; refine And.intro (by omega) ?_; exact And.intro rfl rfl)
      | refine And.intro (show wfB _ = true from by kernel_rfl) ?_ | refine And.intro (And.intro rfl rfl) ?_ | exact And.intro rfl rfl | apply HeldC.intro | exact AV.top | (apply HeldF.intro; refine Exists.intro _ (And.intro (by assumption) ?_); refine And.intro (by decide) ?_; exact And.intro rfl rfl) | (refine And.intro (by (refine Exists.intro _ (And.intro (by assumption) ?_); refine And.intro (by decide) ?_; exact And.intro rfl rfl)) ?_) | refine Or.inl ?_
      | refine And.intro ?_ ?_
      | fail)
    all_goals refine Exists.intro [] ?_
    all_goals refine And.intro (closed_Region _) ?_
    all_goals exact And.intro rfl rfl
  rintro vs h ⟨rfl, rfl⟩
  repeat' ((first
    | refine Exists.intro _ (And.intro (lendD _ _) (And.intro (List.length_map _) ?_))
    | refine Exists.intro _ (And.intro (lendT6 _) (And.intro rfl ?_))
    | refine Exists.intro [] (And.intro rfl (And.intro rfl ?_))
    | refine Exists.intro _ (And.intro (lendK (mkG_len _ _)).1 (And.intro (lendK (mkG_len _ _)).2 ?_))
    | refine Exists.intro _ (And.intro (lendK (marksInt_len _ _)).1 (And.intro (lendK (marksInt_len _ _)).2 ?_))
    | refine Exists.intro _ (And.intro (marks_lendRegion _ _) (And.intro (marks_lenRegion _ _) ?_))
    | refine And.intro (closed_Module _) ?_
    | refine And.intro (closed_Place _) ?_
    | refine And.intro (closed_Int _) ?_
    | refine And.intro (closed_TargetS _) ?_
    | refine And.intro (closed_Region _) ?_
    | refine Exists.intro ms (And.intro rfl (And.intro hsm (And.intro hl ?_)))
    | refine Exists.intro l (And.intro ⟨_, _, _, _, _, _, rfl⟩ (And.intro hsl ?_))
    | refine Exists.intro ms (And.intro rfl (And.intro rfl (And.intro hsm (And.intro hl ?_))))
    | refine Exists.intro l (And.intro ⟨_, _, _, _, _, _, rfl⟩ (And.intro ⟨_, _, _, _, _, _, rfl⟩ (And.intro hsl ?_)))
    | (refine Exists.intro ms (And.intro rfl (And.intro rfl (And.intro hw (And.intro rfl ?_)))); intro q cs hq hq2 hcs)
    | refine Exists.intro l (And.intro rfl (And.intro rfl (And.intro rfl (And.intro rfl (And.intro rfl (And.intro rfl (And.intro rfl (And.intro rfl (And.intro rfl (And.intro hsl (And.intro (by omega) (And.intro (by omega) ?_))))))))))))
    | (refine Exists.intro rs ?_; refine And.intro rfl (And.intro rfl (And.intro (by omega) (And.intro (by decide) (And.intro (by decide) ?_)))))
    | (refine Exists.intro rs ?_; refine And.intro rfl (And.intro rfl (And.intro (by omega) ?_)))
    | (refine Exists.intro rs.length ?_; refine And.intro rfl (And.intro (by omega) (And.intro (by decide) (And.intro (by decide) ?_))))
    | refine Or.inl ?_
    | refine And.intro (fun h1 => ?_) (fun h1 => ?_)
    | fail) <;> try first | (cases h1; done) | (exfalso; simp at h1; done) | (exfalso; simp at h1; omega))
  refine And.intro (show wfB _ = true from by kernel_rfl) ?_
  repeat' ((first
    | (refine Exists.intro ms ?_; refine And.intro rfl ?_; refine And.intro hsm ?_; refine And.intro hl ?_; exact And.intro rfl rfl)
    | (refine Exists.intro l ?_; refine And.intro ⟨_, _, _, _, _, _, rfl⟩ ?_; refine And.intro hsl ?_; exact And.intro rfl rfl)
    | (refine Exists.intro l ?_; refine And.intro ⟨_, _, _, _, _, _, rfl⟩ ?_; refine And.intro ⟨_, _, _, _, _, _, rfl⟩ ?_; refine And.intro hsl ?_; exact And.intro rfl rfl)
    | refine Exists.intro _ (And.intro (lendD _ _) (And.intro (List.length_map _) ?_))
    | refine Exists.intro _ (And.intro (lendT6 _) (And.intro rfl ?_))
    | refine And.intro (closed_Module _) ?_
    | refine And.intro (closed_Place _) ?_
    | refine And.intro (closed_Int _) ?_
    | refine And.intro (closed_TargetS _) ?_
    | refine And.intro (closed_Region _) ?_
    | (refine Exists.intro ms ?_; refine Exists.intro l ?_; refine And.intro rfl ?_; refine And.intro hl ?_; refine And.intro hsm ?_; refine And.intro ⟨_, _, _, _, _, _, rfl⟩ ?_; refine And.intro hsl ?_; rw [hP, hO]; exact And.intro rfl rfl)
    | (refine Exists.intro rs ?_; refine And.intro rfl ?_; refine And.intro rfl ?_; refine And.intro (by omega) ?_; exact And.intro rfl rfl)
    | refine And.intro (show wfB _ = true from by kernel_rfl) ?_ | refine And.intro (And.intro rfl rfl) ?_ | exact And.intro rfl rfl | apply HeldC.intro | exact AV.top | (apply HeldF.intro; refine Exists.intro _ (And.intro (by assumption) ?_); refine And.intro (by decide) ?_; exact And.intro rfl rfl) | (refine And.intro (by (refine Exists.intro _ (And.intro (by assumption) ?_); refine And.intro (by decide) ?_; exact And.intro rfl rfl)) ?_) | refine Or.inl ?_
    | (refine Exists.intro rs ?_; refine And.intro rfl ?_; refine And.intro rfl ?_; refine And.intro (by omega) ?_)
    | refine And.intro (fun h1 => ?_) (fun h1 => ?_)
    | refine And.intro ?_ ?_
    | fail) <;> try first | (cases h1; done) | (exfalso; simp at h1; done))
  repeat' ((first
    | refine Exists.intro _ (And.intro (lendD _ _) (And.intro (List.length_map _) ?_))
    | refine Exists.intro _ (And.intro (lendT6 _) (And.intro rfl ?_))
    | refine Exists.intro [] (And.intro rfl (And.intro rfl ?_))
    | refine Exists.intro _ (And.intro (lendK (mkG_len _ _)).1 (And.intro (lendK (mkG_len _ _)).2 ?_))
    | refine Exists.intro _ (And.intro (lendK (marksInt_len _ _)).1 (And.intro (lendK (marksInt_len _ _)).2 ?_))
    | refine Exists.intro _ (And.intro (marks_lendRegion _ _) (And.intro (marks_lenRegion _ _) ?_))
    | refine And.intro (closed_Module _) ?_
    | refine And.intro (closed_Place _) ?_
    | refine And.intro (closed_Int _) ?_
    | refine And.intro (closed_TargetS _) ?_
    | refine And.intro (closed_Region _) ?_
    | refine Exists.intro ms (And.intro rfl (And.intro hsm (And.intro hl ?_)))
    | refine Exists.intro l (And.intro ⟨_, _, _, _, _, _, rfl⟩ (And.intro hsl ?_))
    | refine Exists.intro ms (And.intro rfl (And.intro rfl (And.intro hsm (And.intro hl ?_))))
    | refine Exists.intro l (And.intro ⟨_, _, _, _, _, _, rfl⟩ (And.intro ⟨_, _, _, _, _, _, rfl⟩ (And.intro hsl ?_)))
    | (refine Exists.intro ms (And.intro rfl (And.intro rfl (And.intro hw (And.intro rfl ?_)))); intro q cs hq hq2 hcs)
    | refine Exists.intro l (And.intro rfl (And.intro rfl (And.intro rfl (And.intro rfl (And.intro rfl (And.intro rfl (And.intro rfl (And.intro rfl (And.intro rfl (And.intro hsl (And.intro (by omega) (And.intro (by omega) ?_))))))))))))
    | (refine Exists.intro rs ?_; refine And.intro rfl (And.intro rfl (And.intro (by omega) (And.intro (by decide) (And.intro (by decide) ?_)))))
    | (refine Exists.intro rs ?_; refine And.intro rfl (And.intro rfl (And.intro (by omega) ?_)))
    | (refine Exists.intro rs.length ?_; refine And.intro rfl (And.intro (by omega) (And.intro (by decide) (And.intro (by decide) ?_))))
    | refine Or.inl ?_
    | refine And.intro (fun h1 => ?_) (fun h1 => ?_)
    | fail) <;> try first | (cases h1; done) | (exfalso; simp at h1; done) | (exfalso; simp at h1; omega))
  refine And.intro (show wfB _ = true from by kernel_rfl) ?_
  repeat' ((first
    | (refine Exists.intro ms ?_; refine And.intro rfl ?_; refine And.intro hsm ?_; refine And.intro hl ?_; exact And.intro rfl rfl)
    | (refine Exists.intro l ?_; refine And.intro ⟨_, _, _, _, _, _, rfl⟩ ?_; refine And.intro hsl ?_; exact And.intro rfl rfl)
    | (refine Exists.intro l ?_; refine And.intro ⟨_, _, _, _, _, _, rfl⟩ ?_; refine And.intro ⟨_, _, _, _, _, _, rfl⟩ ?_; refine And.intro hsl ?_; exact And.intro rfl rfl)
    | refine Exists.intro _ (And.intro (lendD _ _) (And.intro (List.length_map _) ?_))
    | refine Exists.intro _ (And.intro (lendT6 _) (And.intro rfl ?_))
    | refine And.intro (closed_Module _) ?_
    | refine And.intro (closed_Place _) ?_
    | refine And.intro (closed_Int _) ?_
    | refine And.intro (closed_TargetS _) ?_
    | refine And.intro (closed_Region _) ?_
    | (refine Exists.intro ms ?_; refine Exists.intro l ?_; refine And.intro rfl ?_; refine And.intro hl ?_; refine And.intro hsm ?_; refine And.intro ⟨_, _, _, _, _, _, rfl⟩ ?_; refine And.intro hsl ?_; rw [hP, hO]; exact And.intro rfl rfl)
    | (refine Exists.intro rs ?_; refine And.intro rfl ?_; refine And.intro rfl ?_; refine And.intro (by omega) ?_; exact And.intro rfl rfl)
    | refine And.intro (show wfB _ = true from by kernel_rfl) ?_ | refine And.intro (And.intro rfl rfl) ?_ | exact And.intro rfl rfl | apply HeldC.intro | exact AV.top | (apply HeldF.intro; refine Exists.intro _ (And.intro (by assumption) ?_); refine And.intro (by decide) ?_; exact And.intro rfl rfl) | (refine And.intro (by (refine Exists.intro _ (And.intro (by assumption) ?_); refine And.intro (by decide) ?_; exact And.intro rfl rfl)) ?_) | refine Or.inl ?_
    | (refine Exists.intro rs ?_; refine And.intro rfl ?_; refine And.intro rfl ?_; refine And.intro (by omega) ?_)
    | refine And.intro (fun h1 => ?_) (fun h1 => ?_)
    | refine And.intro ?_ ?_
    | fail) <;> try first | (cases h1; done) | (exfalso; simp at h1; done))
  repeat' ((first
    | refine Exists.intro _ (And.intro (lendD _ _) (And.intro (List.length_map _) ?_))
    | refine Exists.intro _ (And.intro (lendT6 _) (And.intro rfl ?_))
    | refine Exists.intro [] (And.intro rfl (And.intro rfl ?_))
    | refine Exists.intro _ (And.intro (lendK (mkG_len _ _)).1 (And.intro (lendK (mkG_len _ _)).2 ?_))
    | refine Exists.intro _ (And.intro (lendK (marksInt_len _ _)).1 (And.intro (lendK (marksInt_len _ _)).2 ?_))
    | refine Exists.intro _ (And.intro (marks_lendRegion _ _) (And.intro (marks_lenRegion _ _) ?_))
    | refine And.intro (closed_Module _) ?_
    | refine And.intro (closed_Place _) ?_
    | refine And.intro (closed_Int _) ?_
    | refine And.intro (closed_TargetS _) ?_
    | refine And.intro (closed_Region _) ?_
    | refine Exists.intro ms (And.intro rfl (And.intro hsm (And.intro hl ?_)))
    | refine Exists.intro l (And.intro ⟨_, _, _, _, _, _, rfl⟩ (And.intro hsl ?_))
    | refine Exists.intro ms (And.intro rfl (And.intro rfl (And.intro hsm (And.intro hl ?_))))
    | refine Exists.intro l (And.intro ⟨_, _, _, _, _, _, rfl⟩ (And.intro ⟨_, _, _, _, _, _, rfl⟩ (And.intro hsl ?_)))
    | (refine Exists.intro ms (And.intro rfl (And.intro rfl (And.intro hw (And.intro rfl ?_)))); intro q cs hq hq2 hcs)
    | refine Exists.intro l (And.intro rfl (And.intro rfl (And.intro rfl (And.intro rfl (And.intro rfl (And.intro rfl (And.intro rfl (And.intro rfl (And.intro rfl (And.intro hsl (And.intro (by omega) (And.intro (by omega) ?_))))))))))))
    | (refine Exists.intro rs ?_; refine And.intro rfl (And.intro rfl (And.intro (by omega) (And.intro (by decide) (And.intro (by decide) ?_)))))
    | (refine Exists.intro rs ?_; refine And.intro rfl (And.intro rfl (And.intro (by omega) ?_)))
    | (refine Exists.intro rs.length ?_; refine And.intro rfl (And.intro (by omega) (And.intro (by decide) (And.intro (by decide) ?_))))
    | refine Or.inl ?_
    | refine And.intro (fun h1 => ?_) (fun h1 => ?_)
    | fail) <;> try first | (cases h1; done) | (exfalso; simp at h1; done) | (exfalso; simp at h1; omega))
  refine And.intro (show wfB _ = true from by kernel_rfl) ?_
  repeat' ((first
    | (refine Exists.intro ms ?_; refine And.intro rfl ?_; refine And.intro hsm ?_; refine And.intro hl ?_; exact And.intro rfl rfl)
    | (refine Exists.intro l ?_; refine And.intro ⟨_, _, _, _, _, _, rfl⟩ ?_; refine And.intro hsl ?_; exact And.intro rfl rfl)
    | (refine Exists.intro l ?_; refine And.intro ⟨_, _, _, _, _, _, rfl⟩ ?_; refine And.intro ⟨_, _, _, _, _, _, rfl⟩ ?_; refine And.intro hsl ?_; exact And.intro rfl rfl)
    | refine Exists.intro _ (And.intro (lendD _ _) (And.intro (List.length_map _) ?_))
    | refine Exists.intro _ (And.intro (lendT6 _) (And.intro rfl ?_))
    | refine And.intro (closed_Module _) ?_
    | refine And.intro (closed_Place _) ?_
    | refine And.intro (closed_Int _) ?_
    | refine And.intro (closed_TargetS _) ?_
    | refine And.intro (closed_Region _) ?_
    | (refine Exists.intro ms ?_; refine Exists.intro l ?_; refine And.intro rfl ?_; refine And.intro hl ?_; refine And.intro hsm ?_; refine And.intro ⟨_, _, _, _, _, _, rfl⟩ ?_; refine And.intro hsl ?_; rw [hP, hO]; exact And.intro rfl rfl)
    | (refine Exists.intro rs ?_; refine And.intro rfl ?_; refine And.intro rfl ?_; refine And.intro (by omega) ?_; exact And.intro rfl rfl)
    | refine And.intro (show wfB _ = true from by kernel_rfl) ?_ | refine And.intro (And.intro rfl rfl) ?_ | exact And.intro rfl rfl | apply HeldC.intro | exact AV.top | (apply HeldF.intro; refine Exists.intro _ (And.intro (by assumption) ?_); refine And.intro (by decide) ?_; exact And.intro rfl rfl) | (refine And.intro (by (refine Exists.intro _ (And.intro (by assumption) ?_); refine And.intro (by decide) ?_; exact And.intro rfl rfl)) ?_) | refine Or.inl ?_
    | (refine Exists.intro rs ?_; refine And.intro rfl ?_; refine And.intro rfl ?_; refine And.intro (by omega) ?_)
    | refine And.intro (fun h1 => ?_) (fun h1 => ?_)
    | refine And.intro ?_ ?_
    | fail) <;> try first | (cases h1; done) | (exfalso; simp at h1; done))
  all_goals exact rfl
end Go.Proofs.YtbfjkjdbdejnmaaGreat.Ab
