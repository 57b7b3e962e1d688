/- Functions walked, part 11. No condition. -/
import Derived.Test.YtbfjkjdbdejnmaaGreatWalk10
import Derived.Test.YtbfjkjdbdejnmaaGreatWalk6
import Derived.Test.YtbfjkjdbdejnmaaGreatWalk7
import Derived.Test.YtbfjkjdbdejnmaaGreatWalk9
import Derived.Test.YtbfjkjdbdejnmaaGreatWalk1
import Derived.Test.YtbfjkjdbdejnmaaGreatWalk2
set_option linter.unusedVariables false
set_option linter.unusedSimpArgs false
/- Modules of a list: marked. No condition. -/
namespace Go.Proofs.YtbfjkjdbdejnmaaGreat.Ab
set_option linter.unusedVariables false
set_option linter.unusedSimpArgs false

def hMarkMoS : CH := fun args hl K => match args, hl with
  | [.slc 0 0 n _, .v (.int .i64 k)], [.lst 8 L] => ∃ bs : List Mo, L = bs.map moC ∧ n = bs.length ∧ wtModule bs ≤ 1048576 ∧ k = 1 ∧ ∀ (q : Int) (cs : List Mo), 0 ≤ q → cs.length = bs.length → K (.v (.int .i64 q)) [.lst 8 (cs.map moC)]
  | _, _ => False
theorem clo_set {L : List (List AV)} {cs : List Mo} {i : Nat} (hcs : ∀ m' : Mo, ((cs.set i m').map moC) = L.set (0 + i) (moC m')) (m' : Mo) : ClosedL (L.set (0 + i) (moC m')) := by
  rw [← hcs]
  exact closed_Module _
def cx_s_markModuleS : Ctx := mkC [(55, callM [] false hMkText), (56, callM [.rw] false hMarkInt), (57, callM [.rw] false hMarkIntSS), (58, callM [.rw] false hMarkByte), (59, callM [.rw] false hMarkString), (60, callM [.rw] false hMarkExport)]
theorem cx_s_markModuleS_ok : CtxOk Tryz.prog cx_s_markModuleS := mkC_ok (mem1 ⟨s_markText, fnOk Tryz.func55 rfl rfl⟩ (mem1 ⟨s_markIntS, fnOk Tryz.func56 rfl rfl⟩ (mem1 ⟨s_markIntSS, fnOk Tryz.func57 rfl rfl⟩ (mem1 ⟨s_markByteS, fnOk Tryz.func58 rfl rfl⟩ (mem1 ⟨s_markStringS, fnOk Tryz.func59 rfl rfl⟩ (mem1 ⟨s_markExportS, fnOk Tryz.func60 rfl rfl⟩ mem0))))))
set_option maxRecDepth 100000 in
set_option pp.maxSteps 1500 in
set_option maxHeartbeats 8000000 in
theorem s_markModuleS : HSound Tryz.prog 18 (callM [.rw] false hMarkMoS) := by
  refine callM_sound cx_s_markModuleS_ok mixed Tryz.func18 rfl fun args hl K hp => ?_
  unfold hMarkMoS at hp
  split at hp
  · rename_i n z0 k _
    obtain ⟨bs, rfl, rfl, hw, rfl, hp⟩ := hp
    simp only [wtModule] at hw
    refine Exists.intro true (Exists.intro [0, 1, 5] (Exists.intro (fun m vs h => ∃ (i : Nat) (q : Int) (cs : List Mo), i ≤ bs.length ∧ m = bs.length - i ∧ 0 ≤ q ∧ q ≤ 1 + 3 * (((bs.take i).map wtMo).sum : Nat) + 2 * (i : Int) ∧ cs.length = bs.length ∧ (∀ k, i ≤ k → cs[k]? = bs[k]?) ∧ vs = [.slc 0 0 bs.length false, .v (.int .i64 q), .v (.int .i64 i)] ∧ h = [.lst 8 (cs.map moC)]) (And.intro ?_ ?_)))
    · refine Exists.intro [] ?_
      refine And.intro (closed_Module _) ?_
      exact Exists.intro bs.length ⟨0, 1, bs, by omega, rfl, by omega, by simp, rfl, fun _ _ => rfl, rfl, rfl⟩
    intro m vs h hI
    obtain ⟨i, q, cs, hi, rfl, hq0, hq1, hcl, hck, rfl, rfl⟩ := hI
    refine And.intro (fun h1 => ?_) (fun h1 => ?_)
    · have h1 := of_decide_eq_true h1
      have hlt : i < bs.length := by omega
      obtain ⟨b, hb⟩ : ∃ b, bs[i]? = some b := ⟨_, List.getElem?_eq_getElem hlt⟩
      have hcb : cs[i]? = some b := by rw [hck i (Nat.le_refl i), hb]
      have hst := sum_take (f := wtMo) hb
      have hle := sum_take_le wtMo bs (i + 1)
      have hwb : wtMo b ≤ 1048576 := by omega
      have hsm := sm_of_wt hwb
      have hbk : lensB b.banks ≤ 1048576 := by simp only [wtMo, wtIntS] at hwb; simp only [lensB]; omega
      have hW : (b.text.length + lensB b.banks + b.data.length + b.rels.length + b.imps.length + 3 * b.exps.length : Int) ≤ 3 * (wtMo b : Nat) := by
        simp only [wtMo, wtIntS, wtString, wtExport, lensB]
        omega
      generalize ((bs.take i).map wtMo).sum = S0 at *
      generalize hS1 : ((bs.take (i + 1)).map wtMo).sum = S1 at *
      have hg : (cs.map moC)[0 + i]? = some (moC b) := by rw [Nat.zero_add]; exact get_map hcb
      have hLl : (cs.map moC).length = bs.length := by rw [List.length_map, hcl]
      have hiL : 0 + i < (cs.map moC).length := by omega
      have hcs : ∀ m' : Mo, ((cs.set i m').map moC) = (cs.map moC).set (0 + i) (moC m') := fun m' => by rw [Nat.zero_add, List.map_set]
      generalize cs.map moC = L at *
      obtain ⟨g0, g1, g2, g3, g4, g5, g6, g7, g8, g9⟩ := hsm
      have hgs : ∀ (M : List (List AV)) (e : List AV), M.length = L.length → (M.set (0 + i) e)[0 + i]? = some e := fun M e hM => get_set (by omega)
      have j1 : (b.text.map intC).length = b.text.length := List.length_map _
      have j2 : (b.banks.map bankC).length = b.banks.length := List.length_map _
      have j3 : (b.data.map byteC).length = b.data.length := List.length_map _
      have j4 : (b.rels.map intC).length = b.rels.length := List.length_map _
      have j5 : (b.imps.map strC).length = b.imps.length := List.length_map _
      have j6 : (b.exps.map exC).length = b.exps.length := List.length_map _
      have hw1 : IntKind.i64.wrap (q + 1) = q + 1 := wrap64 (by omega)
      have hw2 : IntKind.i64.wrap (IntKind.i64.wrap (q + 1) + ((b.text.map intC).length : Int) + (lensB b.banks : Int) + ((b.data.map byteC).length : Int) + 1) = q + 1 + b.text.length + lensB b.banks + b.data.length + 1 := by rw [hw1, j1, j3]; exact wrap64 (by omega)
      repeat' (first
        | refine And.intro (by omega) (And.intro (by omega) ?_)
        | refine Exists.intro i (And.intro rfl (And.intro hlt ?_))
        | refine Exists.intro _ (And.intro hg (And.intro (by decide) ?_))
        | refine Exists.intro _ (And.intro (hgs _ _ (by simp only [List.length_set])) (And.intro (by decide) ?_))
        | refine And.intro (closed_Int _) ?_
        | refine And.intro (closed_bytes _) ?_
        | refine And.intro (closed_IntS _) ?_
        | refine And.intro (closed_String _) ?_
        | refine And.intro (closed_Export _) ?_
        | refine Exists.intro b.text (And.intro rfl (And.intro (List.length_map _) (And.intro g1 (And.intro (by omega) (And.intro (by omega) ?_)))))
        | refine Exists.intro b.banks (And.intro rfl (And.intro (List.length_map _) (And.intro g2 (And.intro hbk (And.intro (by omega) (And.intro (by omega) ?_))))))
        | refine Exists.intro b.data (And.intro rfl (And.intro (List.length_map _) (And.intro g4 (And.intro (by omega) (And.intro (by omega) ?_)))))
        | refine Exists.intro b.rels (And.intro rfl (And.intro (List.length_map _) (And.intro g5 (And.intro (by omega) (And.intro (by omega) ?_)))))
        | refine Exists.intro b.imps (And.intro rfl (And.intro (List.length_map _) (And.intro g6 (And.intro (by omega) (And.intro (by omega) ?_)))))
        | refine Exists.intro b.exps (And.intro rfl (And.intro (List.length_map _) (And.intro g8 (And.intro (by omega) (And.intro (by omega) ?_)))))
        | fail)
      have hkS : ∀ (k : Int) (n : Nat), ((marksString k n).map strC).length = n := fun k n => by simp [marksString]
      have hkE : ∀ (k : Int) (n : Nat), ((marksExport k n).map exC).length = n := fun k n => by simp [marksExport]
      have hkI : ∀ (k : Int) (n : Nat), ((marksInt k n).map intC).length = n := fun k n => by simp [marksInt]
      have hkB : ∀ (k : Int) (n : Nat), ((marksByte k n).map byteC).length = n := fun k n => by simp [marksByte]
      have hkK : ∀ (k : Int), ((markBk k b.banks).map bankC).length = (b.banks.map bankC).length := fun k => by rw [List.length_map, List.length_map, markBk_len]
      refine Exists.intro [(0, 0 + i, 1), (0, 0 + i, 2), (0, 0 + i, 3), (0, 0 + i, 5), (0, 0 + i, 6), (0, 0 + i, 7)] ?_
      repeat' (first
        | refine Exists.intro _ (And.intro (hgs _ _ (by simp only [List.length_set])) ?_)
        | refine Exists.intro _ (And.intro (List.take_of_length_le (Nat.le_of_eq (hkI _ _))) (And.intro (hkI _ _) (And.intro (closed_Int _) ?_)))
        | refine Exists.intro _ (And.intro (List.take_of_length_le (Nat.le_of_eq (hkK _))) (And.intro (hkK _) (And.intro (closed_IntS _) ?_)))
        | refine Exists.intro _ (And.intro (List.take_of_length_le (Nat.le_of_eq (hkB _ _))) (And.intro (hkB _ _) (And.intro (closed_bytes _) ?_)))
        | refine Exists.intro _ (And.intro (List.take_of_length_le (Nat.le_of_eq (hkS _ _))) (And.intro (hkS _ _) (And.intro (closed_String _) ?_)))
        | refine Exists.intro _ (And.intro (List.take_of_length_le (Nat.le_of_eq (hkE _ _))) (And.intro (hkE _ _) (And.intro (closed_Export _) ?_)))
        | fail)
      simp only [List.set_set]
      refine And.intro (clo_set hcs ⟨_, _, _, _, _, _, _, _⟩) ?_
      refine Exists.intro (bs.length - (i + 1)) (And.intro (by omega) ⟨i + 1, IntKind.i64.wrap (IntKind.i64.wrap (q + 1) + ((b.text.map intC).length : Int) + (lensB b.banks : Int) + ((b.data.map byteC).length : Int) + 1) + ((b.rels.map intC).length : Int) + ((b.imps.map strC).length : Int) + 3 * ((b.exps.map exC).length : Int), cs.set i ⟨_, _, _, _, _, _, _, _⟩, by omega, rfl, ?_, ?_, by rw [List.length_set, hcl], fun k hk => ?_, ?_, congrArg (fun l => [Root.lst 8 l]) (hcs ⟨_, _, _, _, _, _, _, _⟩).symm⟩)
      · rw [hw2]
        omega
      · rw [hw2, hS1]
        omega
      · rw [List.getElem?_set_ne (by omega)]
        exact hck k (by omega)
      · rw [wrap_succ hlt (by omega)]
    · have h1 := of_decide_eq_false h1
      refine And.intro (closed_Module _) ?_
      exact hp q cs hq0 hcl
  · exact hp.elim
end Go.Proofs.YtbfjkjdbdejnmaaGreat.Ab

/- Layouts: compared, marked, found again. No condition. -/
namespace Go.Proofs.YtbfjkjdbdejnmaaGreat.Ab
set_option linter.unusedVariables false
set_option linter.unusedSimpArgs false

def mkG {α : Type} (w : α → Nat) (g : Int → α → α) (k : Int) : List α → List α
  | [] => []
  | a :: l => g k a :: mkG w g (k + w a) l
section
variable {α : Type} {w : α → Nat} {g : Int → α → α}
theorem mkG_app (k : Int) : ∀ (l r : List α), mkG w g k (l ++ r) = mkG w g k l ++ mkG w g (k + ((l.map w).sum : Nat)) r
  | [], r => by simp [mkG]
  | a :: l, r => by
    simp only [List.cons_append, mkG, List.map_cons, List.sum_cons]
    rw [mkG_app, show k + (w a : Int) + ((List.map w l).sum : Nat) = k + ((w a + (List.map w l).sum : Nat) : Int) by omega]
theorem mkG_len (k : Int) : ∀ l : List α, (mkG w g k l).length = l.length
  | [] => rfl
  | a :: l => by simp [mkG, mkG_len (k + w a) l]
theorem mkG_step {l : List α} {k : Int} {i : Nat} {a : α} (h : l[i]? = some a) : (mkG w g k (l.take i) ++ l.drop i).set i (g (k + (((l.take i).map w).sum : Nat)) a) = mkG w g k (l.take (i + 1)) ++ l.drop (i + 1) := by
  obtain ⟨hi, hb⟩ := List.getElem?_eq_some_iff.1 h
  have hl : (mkG w g k (l.take i)).length = i := by rw [mkG_len, List.length_take]; omega
  rw [List.set_append_right _ _ (by omega), hl, Nat.sub_self, List.drop_eq_getElem_cons hi, List.set_cons_zero, List.take_add_one, h]
  simp only [Option.toList]
  rw [mkG_app]
  simp [mkG]
theorem mkG_at {l : List α} {k : Int} {i : Nat} {a : α} (h : l[i]? = some a) : (mkG w g k (l.take i) ++ l.drop i)[i]? = some a := by
  have e : (mkG w g k (l.take i)).length = i := by
    obtain ⟨hi, hb⟩ := List.getElem?_eq_some_iff.1 h
    rw [mkG_len, List.length_take]; omega
  rw [List.getElem?_append_right (by omega), e, Nat.sub_self, List.getElem?_drop, Nat.add_zero, h]
theorem mkG_get {l : List α} {k : Int} {i : Nat} {a : α} (h : l[i]? = some a) : (mkG w g k l)[i]? = some (g (k + (((l.take i).map w).sum : Nat)) a) := by
  obtain ⟨hi, hb⟩ := List.getElem?_eq_some_iff.1 h
  have e : l = l.take i ++ a :: l.drop (i + 1) := by
    conv => lhs; rw [← List.take_append_drop i l, List.drop_eq_getElem_cons hi, hb]
  have el : (mkG w g k (l.take i)).length = i := by rw [mkG_len, List.length_take]; omega
  conv => lhs; rw [e]
  rw [mkG_app, List.getElem?_append_right (by omega), el, Nat.sub_self]
  simp [mkG]
end
def wP (p : Pl) : Nat := p.banks.length + 3
def gP (k : Int) (p : Pl) : Pl := ⟨k, marksInt (k + 1) p.banks.length, k + 1 + p.banks.length, k + 1 + p.banks.length + 1⟩
def wT (t : List Tg) : Nat := 3 * t.length
def gT (k : Int) (t : List Tg) : List Tg := marksTarget k t.length
abbrev sumW {α : Type} (w : α → Nat) (l : List α) : Nat := (l.map w).sum

/-! ### Lists of targets -/

def hMarkTgS : CH := fun args hl K => match args, hl with
  | [.slc 0 0 n _, .v (.int .i64 k)], [.lst 1 L] => ∃ bs : List (List Tg), L = bs.map tgsC ∧ n = bs.length ∧ bs.length ≤ 1048576 ∧ sumW wT bs ≤ 3145728 ∧ 0 ≤ k ∧ k ≤ 1073741824 ∧ K (.v (.int .i64 (k + sumW wT bs))) [.lst 1 ((mkG wT gT k bs).map tgsC)]
  | _, _ => False
def cx_s_markTargetSS : Ctx := mkC [(113, callM [.rw] false hMarkTarget)]
theorem cx_s_markTargetSS_ok : CtxOk Tryz.prog cx_s_markTargetSS := mkC_ok (mem1 ⟨s_markTargetS, fnOk Tryz.func113 rfl rfl⟩ mem0)
set_option maxRecDepth 100000 in
set_option pp.maxSteps 1500 in
set_option maxHeartbeats 4000000 in
theorem s_markTargetSS : HSound Tryz.prog 62 (callM [.rw] false hMarkTgS) := by
  refine callM_sound cx_s_markTargetSS_ok mixed Tryz.func62 rfl fun args hl K hp => ?_
  unfold hMarkTgS at hp
  split at hp
  · rename_i n z0 k _
    obtain ⟨bs, rfl, rfl, hb, hw, hk0, hk1, hp⟩ := hp
    refine Exists.intro true (Exists.intro [0, 1, 5] (Exists.intro (fun m vs h => ∃ i : Nat, i ≤ bs.length ∧ m = bs.length - i ∧ vs = [.slc 0 0 bs.length false, .v (.int .i64 (k + sumW wT (bs.take i))), .v (.int .i64 i)] ∧ h = [.lst 1 ((mkG wT gT k (bs.take i) ++ bs.drop i).map tgsC)]) (And.intro ?_ ?_)))
    · refine Exists.intro [] ?_
      refine And.intro (closed_TargetS _) ?_
      refine Exists.intro bs.length ?_
      exact ⟨0, by omega, rfl, by simp [sumW], rfl⟩
    · intro m vs h hI
      obtain ⟨i, hi, rfl, rfl, rfl⟩ := hI
      refine And.intro (fun h1 => ?_) (fun h1 => ?_)
      · simp only [decide_eq_true_eq] at h1
        have hlt : i < bs.length := by omega
        obtain ⟨b, hbi⟩ : ∃ b, bs[i]? = some b := ⟨_, List.getElem?_eq_getElem hlt⟩
        have hst := mkG_step (w := wT) (g := gT) (k := k) hbi
        have hcl := closed_TargetS (mkG wT gT k (bs.take (i + 1)) ++ bs.drop (i + 1))
        have hle := sum_take_le wT bs i
        have hsum := sum_take (f := wT) hbi
        have hbl : wT b ≤ 3145728 := by have := le_sum (f := wT) (List.mem_of_getElem? hbi); simp only [sumW] at hw; omega
        have hg : ((mkG wT gT k (bs.take i) ++ bs.drop i).map tgsC)[0 + i]? = some (tgsC b) := by rw [Nat.zero_add]; exact get_map (mkG_at hbi)
        have hlen : ((mkG wT gT k (bs.take i) ++ bs.drop i).map tgsC).length = bs.length := by rw [List.length_map, List.length_append, mkG_len, List.length_take, List.length_drop]; omega
        rw [← hst, List.map_set] at hcl
        have hst2 : (mkG wT gT k (bs.take (i + 1)) ++ bs.drop (i + 1)).map tgsC = ((mkG wT gT k (bs.take i) ++ bs.drop i).map tgsC).set i (tgsC (gT (k + (((bs.take i).map wT).sum : Nat)) b)) := by rw [← hst, List.map_set]
        generalize (mkG wT gT k (bs.take i) ++ bs.drop i).map tgsC = L at *
        simp only [sumW] at *
        generalize hS : ((bs.take i).map wT).sum = S at *
        simp only [wT] at hbl hsum
        refine Exists.intro i (And.intro rfl (And.intro hlt ?_))
        refine Exists.intro _ (And.intro hg (And.intro (by decide) ?_))
        refine And.intro (closed_Target _) ?_
        refine Exists.intro b (And.intro rfl (And.intro (List.length_map _) (And.intro (by omega) (And.intro (by omega) (And.intro (by omega) ?_)))))
        refine Exists.intro [(0, 0 + i, 0)] ?_
        refine Exists.intro _ (And.intro (get_set (by omega)) ?_)
        refine Exists.intro _ (And.intro (List.take_of_length_le (by simp only [List.length_map, marksTarget, List.length_range]; exact Nat.le_refl _)) (And.intro (by simp only [List.length_map, marksTarget, List.length_range]) (And.intro (closed_Target _) ?_)))
        have e9 : (L.set (0 + i) [.slc 1 0 (List.map tgC b).length false]).set (0 + i) [.sl 3 ((marksTarget (k + S) (List.map tgC b).length).map tgC)] = L.set i (tgsC (gT (k + S) b)) := by
          rw [List.set_set, Nat.zero_add, List.length_map]
          rfl
        refine And.intro (show ClosedL ((L.set (0 + i) _).set (0 + i) _) from e9 ▸ hcl) ?_
        refine Exists.intro (bs.length - (i + 1)) (And.intro (by omega) ⟨i + 1, by omega, rfl, ?_, ?_⟩)
        · rw [wrap_succ hlt (by omega), hsum, List.length_map, show k + (S : Int) + 3 * (b.length : Int) = k + ((S + 3 * b.length : Nat) : Int) by omega]
        · rw [hst2, ← e9]
      · simp only [decide_eq_false_iff_not] at h1
        have hil : i = bs.length := by omega
        subst hil
        rw [List.drop_length, List.append_nil, List.take_length]
        refine And.intro (closed_TargetS _) ?_
        exact hp
  · exact hp.elim
def hHeldTgS : CH := fun args hl K => match args, hl with
  | [.imm _ _ 1 L, .v (.int .i64 k)], [] => ∃ bs : List (List Tg), L = (mkG wT gT k bs).map tgsC ∧ bs.length ≤ 1048576 ∧ sumW wT bs ≤ 3145728 ∧ 0 ≤ k ∧ k ≤ 1073741824 ∧ K (.v (.int .i64 (k + sumW wT bs))) []
  | _, _ => False
end Go.Proofs.YtbfjkjdbdejnmaaGreat.Ab

/- Layouts: compared, marked, found again. No condition. -/
namespace Go.Proofs.YtbfjkjdbdejnmaaGreat.Ab
set_option linter.unusedVariables false
set_option linter.unusedSimpArgs false

theorem clo_setP {L : List (List AV)} {cs : List Pl} {i : Nat} (hcs : ∀ p : Pl, ((cs.set i p).map plC) = L.set (0 + i) (plC p)) (p : Pl) : ClosedL (L.set (0 + i) (plC p)) := by
  rw [← hcs]
  exact closed_Place _
def hMarkPl : CH := fun args hl K => match args, hl with
  | [.slc 0 0 n _, .v (.int .i64 k)], [.lst 4 L] => ∃ bs : List Pl, L = bs.map plC ∧ n = bs.length ∧ bs.length ≤ 1048576 ∧ (sumW wP bs ≤ 3145728 ∧ ∀ b ∈ bs, smPl b) ∧ 0 ≤ k ∧ k ≤ 1073741824 ∧ K (.v (.int .i64 (k + sumW wP bs))) [.lst 4 ((mkG wP gP k bs).map plC)]
  | _, _ => False
def cx_s_markPlaceS : Ctx := mkC [(56, callM [.rw] false hMarkInt)]
theorem cx_s_markPlaceS_ok : CtxOk Tryz.prog cx_s_markPlaceS := mkC_ok (mem1 ⟨s_markIntS, fnOk Tryz.func56 rfl rfl⟩ mem0)
set_option maxRecDepth 100000 in
set_option pp.maxSteps 1500 in
set_option maxHeartbeats 8000000 in
theorem s_markPlaceS : HSound Tryz.prog 61 (callM [.rw] false hMarkPl) := by
  refine callM_sound cx_s_markPlaceS_ok mixed Tryz.func61 rfl fun args hl K hp => ?_
  unfold hMarkPl at hp
  split at hp
  · rename_i n z0 k _
    obtain ⟨bs, rfl, rfl, hb, ⟨hw, hsp⟩, hk0, hk1, hp⟩ := hp
    refine Exists.intro true (Exists.intro [0, 1, 5] (Exists.intro (fun m vs h => ∃ i : Nat, i ≤ bs.length ∧ m = bs.length - i ∧ vs = [.slc 0 0 bs.length false, .v (.int .i64 (k + sumW wP (bs.take i))), .v (.int .i64 i)] ∧ h = [.lst 4 ((mkG wP gP k (bs.take i) ++ bs.drop i).map plC)]) (And.intro ?_ ?_)))
    · refine Exists.intro [] ?_
      refine And.intro (closed_Place _) ?_
      refine Exists.intro bs.length ?_
      exact ⟨0, by omega, rfl, by simp [sumW], rfl⟩
    · intro m vs h hI
      obtain ⟨i, hi, rfl, rfl, rfl⟩ := hI
      refine And.intro (fun h1 => ?_) (fun h1 => ?_)
      · simp only [decide_eq_true_eq] at h1
        have hlt : i < bs.length := by omega
        obtain ⟨b, hbi⟩ : ∃ b, bs[i]? = some b := ⟨_, List.getElem?_eq_getElem hlt⟩
        have hst := mkG_step (w := wP) (g := gP) (k := k) hbi
        have hle := sum_take_le wP bs i
        have hsum := sum_take (f := wP) hbi
        have hbs : b.banks.length ≤ 1048576 := hsp b (List.mem_of_getElem? hbi)
        have hbl : wP b ≤ 3145728 := by have := le_sum (f := wP) (List.mem_of_getElem? hbi); simp only [sumW] at hw; omega
        have hg : ((mkG wP gP k (bs.take i) ++ bs.drop i).map plC)[0 + i]? = some (plC b) := by rw [Nat.zero_add]; exact get_map (mkG_at hbi)
        have hlen : ((mkG wP gP k (bs.take i) ++ bs.drop i).map plC).length = bs.length := by rw [List.length_map, List.length_append, mkG_len, List.length_take, List.length_drop]; omega
        have hcs : ∀ p : Pl, (((mkG wP gP k (bs.take i) ++ bs.drop i).set i p).map plC) = ((mkG wP gP k (bs.take i) ++ bs.drop i).map plC).set (0 + i) (plC p) := fun p => by rw [Nat.zero_add, List.map_set]
        generalize mkG wP gP k (bs.take i) ++ bs.drop i = CS at *
        generalize CS.map plC = L at *
        simp only [sumW] at *
        generalize hS : ((bs.take i).map wP).sum = S at *
        simp only [wP] at hbl hsum
        generalize hκ : k + (S : Int) = κ at *
        have j1 : (b.banks.map intC).length = b.banks.length := List.length_map _
        have hw1 : IntKind.i64.wrap (κ + 1) = κ + 1 := wrap64 (by omega)
        have hw2 : IntKind.i64.wrap (IntKind.i64.wrap (κ + 1) + ((b.banks.map intC).length : Int) + 1) = κ + 1 + b.banks.length + 1 := by rw [hw1, j1]; exact wrap64 (by omega)
        have hw3 : IntKind.i64.wrap (IntKind.i64.wrap (IntKind.i64.wrap (κ + 1) + ((b.banks.map intC).length : Int) + 1) + 1) = κ + 1 + b.banks.length + 1 + 1 := by rw [hw2]; exact wrap64 (by omega)
        have hgs : ∀ (M : List (List AV)) (e : List AV), M.length = L.length → (M.set (0 + i) e)[0 + i]? = some e := fun M e hM => get_set (by omega)
        have hkI : ∀ (k : Int) (n : Nat), ((marksInt k n).map intC).length = n := fun k n => by simp [marksInt]
        repeat' (first
          | refine Exists.intro i (And.intro rfl (And.intro hlt ?_))
          | refine Exists.intro _ (And.intro hg (And.intro (by decide) ?_))
          | refine Exists.intro _ (And.intro (hgs _ _ (by simp only [List.length_set])) (And.intro (by decide) ?_))
          | refine And.intro (by decide) ?_
          | refine And.intro (closed_Int _) ?_
          | refine Exists.intro b.banks (And.intro rfl (And.intro (List.length_map _) (And.intro (by omega) (And.intro (by omega) (And.intro (by omega) ?_)))))
          | fail)
        refine Exists.intro [(0, 0 + i, 1)] ?_
        refine Exists.intro _ (And.intro (hgs _ _ (by simp only [List.length_set])) ?_)
        refine Exists.intro _ (And.intro (List.take_of_length_le (Nat.le_of_eq (hkI _ _))) (And.intro (hkI _ _) (And.intro (closed_Int _) ?_)))
        simp only [List.set_set]
        have e9 : gP κ b = ⟨κ, marksInt (κ + 1) b.banks.length, κ + 1 + b.banks.length, κ + 1 + b.banks.length + 1⟩ := rfl
        rw [hw2, hw1, j1]
        refine And.intro (clo_setP hcs ⟨_, _, _, _⟩) ?_
        refine Exists.intro (bs.length - (i + 1)) (And.intro (by omega) ⟨i + 1, by omega, rfl, ?_, ?_⟩)
        · rw [wrap_succ hlt (by omega), hsum, show IntKind.i64.wrap (κ + 1 + (b.banks.length : Int) + 1 + 1) = k + ((S + (b.banks.length + 3) : Nat) : Int) by rw [wrap64 (by omega)]; omega]
        · rw [← hst, e9]
          exact congrArg (fun l => [Root.lst 4 l]) (hcs ⟨_, _, _, _⟩).symm
      · simp only [decide_eq_false_iff_not] at h1
        have hil : i = bs.length := by omega
        subst hil
        rw [List.drop_length, List.append_nil, List.take_length]
        refine And.intro (closed_Place _) ?_
        exact hp
  · exact hp.elim
def hHeldPl : CH := fun args hl K => match args, hl with
  | [.imm _ _ 4 L, .v (.int .i64 k)], [] => ∃ bs : List Pl, L = (mkG wP gP k bs).map plC ∧ bs.length ≤ 1048576 ∧ (sumW wP bs ≤ 3145728 ∧ ∀ b ∈ bs, smPl b) ∧ 0 ≤ k ∧ k ≤ 1073741824 ∧ K (.v (.int .i64 (k + sumW wP bs))) []
  | _, _ => False
/-! ### Layouts -/

def LaV (a : AV) (l : La) : Prop := ∃ b1 z1 b2 z2 b3 z3, a = .agg [.imm b1 z1 4 (l.pls.map plC), .v (.int .i64 l.stack), .imm b2 z2 1 (l.slots.map intC), .v (.int .i64 l.flash), .v (.int .i64 l.ram), .imm b3 z3 1 (l.tgts.map tgsC)]
structure smLa (l : La) : Prop where
  pls : l.pls.length ≤ 1048576
  pl : ∀ p ∈ l.pls, smPl p
  plw : sumW wP l.pls ≤ 3145728
  slots : l.slots.length ≤ 1048576
  tgts : l.tgts.length ≤ 1048576
  tg : ∀ t ∈ l.tgts, smTgs t
  tgw : sumW wT l.tgts ≤ 3145728
def hEqLa : CH := fun args hl K => match args, hl with
  | [a, b], [] => ∃ l, LaV a l ∧ LaV b l ∧ smLa l ∧ K (.v (.bool true)) []
  | _, _ => False
def cx_s_eqLayout : Ctx := mkC [(46, callM [] true hEqPlace), (47, callM [] true hEqInt), (48, callM [] true hEqTargetS)]
theorem cx_s_eqLayout_ok : CtxOk Tryz.prog cx_s_eqLayout := mkC_ok (mem1 ⟨s_eqPlaceS, fnOk Tryz.func46 rfl rfl⟩ (mem1 ⟨s_eqIntS, fnOk Tryz.func47 rfl rfl⟩ (mem1 ⟨s_eqTargetSS, fnOk Tryz.func48 rfl rfl⟩ mem0)))
set_option maxRecDepth 100000 in
set_option pp.maxSteps 1500 in
set_option maxHeartbeats 4000000 in
theorem s_eqLayout : HSound Tryz.prog 14 (callM [] true hEqLa) := by
  refine callM_sound cx_s_eqLayout_ok mixed Tryz.func14 rfl fun args hl K hp => ?_
  unfold hEqLa at hp
  split at hp
  · rename_i a b
    obtain ⟨l, ⟨b1, z1, b2, z2, b3, z3, rfl⟩, ⟨b1', z1', b2', z2', b3', z3', rfl⟩, hb, hp⟩ := hp
    obtain ⟨g1, g2, _, g3, g4, g5, _⟩ := hb
    repeat' ((first
      | refine Exists.intro l.pls (And.intro rfl (And.intro rfl (And.intro g2 (And.intro g1 ?_))))
      | refine Exists.intro l.slots (And.intro rfl (And.intro rfl (And.intro g3 ?_)))
      | refine Exists.intro l.tgts (And.intro rfl (And.intro rfl (And.intro g5 (And.intro g4 ?_))))
      | refine And.intro (fun h => ?_) (fun h => ?_)
      | fail) <;> try first | (exfalso; simp at h; done) | cases h)
    all_goals exact hp
  · exact hp.elim
def markLa (k : Int) (l : La) : La := ⟨mkG wP gP k l.pls, l.stack, marksInt (k + sumW wP l.pls) l.slots.length, l.flash, l.ram, mkG wT gT (k + sumW wP l.pls + l.slots.length) l.tgts⟩
def markWL (l : La) : Int := (sumW wP l.pls : Int) + l.slots.length + (sumW wT l.tgts : Int)
def hMarkLa : CH := fun args hl K => match args, hl with
  | [.agg [.slc 0 0 a _, .v (.int .i64 s), .slc 1 0 b _, .v (.int .i64 f), .v (.int .i64 r), .slc 2 0 c _], .v (.int .i64 k)], [.lst 4 P, .lst 1 S, .lst 1 T] => ∃ l : La, P = l.pls.map plC ∧ S = l.slots.map intC ∧ T = l.tgts.map tgsC ∧ a = l.pls.length ∧ b = l.slots.length ∧ c = l.tgts.length ∧ s = l.stack ∧ f = l.flash ∧ r = l.ram ∧ smLa l ∧ 0 ≤ k ∧ k ≤ 536870912 ∧ K (.v (.int .i64 (k + markWL l))) (laH (markLa k l))
  | _, _ => False
def cx_s_markLayout : Ctx := mkC [(61, callM [.rw] false hMarkPl), (56, callM [.rw] false hMarkInt), (62, callM [.rw] false hMarkTgS)]
theorem cx_s_markLayout_ok : CtxOk Tryz.prog cx_s_markLayout := mkC_ok (mem1 ⟨s_markPlaceS, fnOk Tryz.func61 rfl rfl⟩ (mem1 ⟨s_markIntS, fnOk Tryz.func56 rfl rfl⟩ (mem1 ⟨s_markTargetSS, fnOk Tryz.func62 rfl rfl⟩ mem0)))
set_option maxRecDepth 100000 in
set_option pp.maxSteps 1500 in
set_option maxHeartbeats 4000000 in
theorem s_markLayout : HSound Tryz.prog 19 (callM [.ag [.rw, .ro, .rw, .ro, .ro, .rw]] false hMarkLa) := by
  refine callM_sound cx_s_markLayout_ok mixed Tryz.func19 rfl fun args hl K hp => ?_
  unfold hMarkLa at hp
  split at hp
  · obtain ⟨l, rfl, rfl, rfl, rfl, rfl, rfl, rfl, rfl, rfl, hb, hk0, hk1, hp⟩ := hp
    obtain ⟨g1, g2, gw, g3, g4, g5, gv⟩ := hb
    repeat' (first
      | refine Exists.intro l.pls (And.intro rfl (And.intro rfl (And.intro g1 (And.intro ⟨gw, g2⟩ (And.intro (by omega) (And.intro (by omega) ?_))))))
      | refine Exists.intro l.slots (And.intro rfl (And.intro rfl (And.intro g3 (And.intro (by omega) (And.intro (by omega) ?_)))))
      | refine Exists.intro l.tgts (And.intro rfl (And.intro rfl (And.intro g4 (And.intro gv (And.intro (by omega) (And.intro (by omega) ?_))))))
      | refine And.intro (closed_Place _) ?_
      | refine And.intro (closed_Int _) ?_
      | refine And.intro (closed_TargetS _) ?_
      | fail)
    try (conv => whnf)
    simp only [markWL, ← Int.add_assoc] at hp
    exact hp
  · exact hp.elim
def hHeldLa : CH := fun args hl K => match args, hl with
  | [a, .v (.int .i64 k)], [] => ∃ l, LaV a (markLa k l) ∧ smLa l ∧ 0 ≤ k ∧ k ≤ 536870912 ∧ K (.v (.int .i64 (k + markWL l))) []
  | _, _ => False
end Go.Proofs.YtbfjkjdbdejnmaaGreat.Ab

/- Layouts compared, in both answers. No condition. -/
namespace Go.Proofs.YtbfjkjdbdejnmaaGreat.Ab
set_option linter.unusedVariables false
set_option linter.unusedSimpArgs false
set_option maxRecDepth 100000

theorem take_stepG {α : Type} {xs ys : List α} {i : Nat} {a : α} (h : xs.take i = ys.take i) (ha : xs[i]? = some a) (hb : ys[i]? = some a) : xs.take (i + 1) = ys.take (i + 1) := by
  rw [List.take_add_one, List.take_add_one, h, ha, hb]
theorem take_end {α : Type} {xs ys : List α} {i : Nat} (h : xs.take i = ys.take i) (hl : xs.length = ys.length) (hi : ¬ i < xs.length) : xs = ys := by
  rw [List.take_of_length_le (by omega), List.take_of_length_le (by omega)] at h
  exact h
theorem ne_at {α : Type} {xs ys : List α} {i : Nat} {a b : α} (ha : xs[i]? = some a) (hb : ys[i]? = some b) (h : a ≠ b) : xs ≠ ys := by
  rintro rfl
  rw [ha] at hb
  cases hb
  exact h rfl
def hEqNum : CH := fun args hl K => match args, hl with
  | [.imm _ _ 1 l, .imm _ _ 1 r], [] => ∃ xs ys : List Int, l = xs.map intC ∧ r = ys.map intC ∧ xs.length ≤ 1048576 ∧ (xs = ys → K (.v (.bool true)) []) ∧ (xs ≠ ys → K (.v (.bool false)) [])
  | _, _ => False
def cx_s_EqualInt : Ctx := mkC []
theorem cx_s_EqualInt_ok : CtxOk Tryz.prog cx_s_EqualInt := cx0_ok
set_option maxRecDepth 100000 in
set_option pp.maxSteps 1500 in
theorem s_EqualInt : HSound Tryz.prog 150 (callM [] true hEqNum) := by
  refine callM_sound cx_s_EqualInt_ok mixed Tryz.func150 rfl fun args hl K hp => ?_
  unfold hEqNum at hp
  split at hp
  · rename_i t z l t' z' r
    obtain ⟨xs, ys, rfl, rfl, ha, hp1, hp2⟩ := hp
    refine And.intro (fun h1 => ?_) (fun h1 => ?_)
    · exact hp2 (by rintro rfl; simp at h1)
    have hlen : xs.length = ys.length := by simp at h1; omega
    clear h1
    refine Exists.intro false (Exists.intro [0, 1, 12, 13] (Exists.intro (fun m vs h => ∃ i : Nat, i ≤ xs.length ∧ m = xs.length - i ∧ xs.take i = ys.take i ∧ vs = [.imm t z 1 (xs.map intC), .imm t' z' 1 (ys.map intC), .v (.int .i64 xs.length), .v (.int .i64 i)] ∧ h = []) (And.intro ?_ ?_)))
    · refine Exists.intro xs.length ?_
      exact ⟨0, by omega, rfl, rfl, by rw [List.length_map]; rfl, rfl⟩
    · intro m vs h hI
      obtain ⟨i, hi, rfl, htk, rfl, rfl⟩ := hI
      refine And.intro (fun h1 => ?_) (fun h1 => ?_)
      · have h1 := of_decide_eq_true h1
        have hlt : i < xs.length := by omega
        obtain ⟨a, hai⟩ : ∃ a, xs[i]? = some a := ⟨_, List.getElem?_eq_getElem hlt⟩
        obtain ⟨b, hbi⟩ : ∃ b, ys[i]? = some b := ⟨_, List.getElem?_eq_getElem (by omega)⟩
        refine And.intro (show Region.lexB _ _ = true from by kernel_rfl) ?_
        refine Exists.intro i (And.intro rfl (Exists.intro (intC a) (And.intro (get_map hai) ?_)))
        refine Exists.intro i (And.intro rfl (Exists.intro (intC b) (And.intro (get_map hbi) ?_)))
        refine And.intro (fun h2 => ?_) (fun h2 => ?_)
        · exact hp2 (ne_at hai hbi (by simpa using h2))
        · have hab : a = b := by simpa using h2
          subst hab
          refine Exists.intro (xs.length - (i + 1)) (And.intro (by omega) ⟨i + 1, by omega, rfl, take_stepG htk hai hbi, ?_, rfl⟩)
          rw [wrap_succ hlt (by omega)]
      · have h1 := of_decide_eq_false h1
        exact hp1 (take_end htk hlen (by omega))
  · exact hp.elim
def cx_s_l5SameNums : Ctx := mkC []
theorem cx_s_l5SameNums_ok : CtxOk Tryz.prog cx_s_l5SameNums := cx0_ok
set_option maxRecDepth 100000 in
set_option pp.maxSteps 1500 in
theorem s_l5SameNums : HSound Tryz.prog 142 (callM [] true hEqNum) := by
  refine callM_sound cx_s_l5SameNums_ok mixed Tryz.func142 rfl fun args hl K hp => ?_
  unfold hEqNum at hp
  split at hp
  · rename_i t z l t' z' r
    obtain ⟨xs, ys, rfl, rfl, ha, hp1, hp2⟩ := hp
    refine And.intro (fun h1 => ?_) (fun h1 => ?_)
    · exact hp2 (by rintro rfl; simp at h1)
    have hlen : xs.length = ys.length := by simp at h1; omega
    clear h1
    refine Exists.intro false (Exists.intro [0, 1, 5] (Exists.intro (fun m vs h => ∃ i : Nat, i ≤ xs.length ∧ m = xs.length - i ∧ xs.take i = ys.take i ∧ vs = [.imm t z 1 (xs.map intC), .imm t' z' 1 (ys.map intC), .v (.int .i64 i)] ∧ h = []) (And.intro ?_ ?_)))
    · refine Exists.intro xs.length ?_
      exact ⟨0, by omega, rfl, rfl, rfl, rfl⟩
    · intro m vs h hI
      obtain ⟨i, hi, rfl, htk, rfl, rfl⟩ := hI
      refine And.intro (fun h1 => ?_) (fun h1 => ?_)
      · have h1 := of_decide_eq_true h1
        rw [List.length_map] at h1
        have hlt : i < xs.length := by omega
        obtain ⟨a, hai⟩ : ∃ a, xs[i]? = some a := ⟨_, List.getElem?_eq_getElem hlt⟩
        obtain ⟨b, hbi⟩ : ∃ b, ys[i]? = some b := ⟨_, List.getElem?_eq_getElem (by omega)⟩
        refine And.intro (show Region.lexB _ _ = true from by kernel_rfl) ?_
        refine Exists.intro i (And.intro rfl (Exists.intro (intC a) (And.intro (get_map hai) ?_)))
        refine Exists.intro i (And.intro rfl (Exists.intro (intC b) (And.intro (get_map hbi) ?_)))
        refine And.intro (fun h2 => ?_) (fun h2 => ?_)
        · exact hp2 (ne_at hai hbi (by simpa using h2))
        · have hab : a = b := by simpa using h2
          subst hab
          refine Exists.intro (xs.length - (i + 1)) (And.intro (by omega) ⟨i + 1, by omega, rfl, take_stepG htk hai hbi, ?_, rfl⟩)
          rw [wrap_succ hlt (by omega)]
      · have h1 := of_decide_eq_false h1
        rw [List.length_map] at h1
        exact hp1 (take_end htk hlen (by omega))
  · exact hp.elim
def hEqTgs : CH := fun args hl K => match args, hl with
  | [.imm _ _ 3 l, .imm _ _ 3 r], [] => ∃ xs ys : List Tg, l = xs.map tgC ∧ r = ys.map tgC ∧ xs.length ≤ 1048576 ∧ (xs = ys → K (.v (.bool true)) []) ∧ (xs ≠ ys → K (.v (.bool false)) [])
  | _, _ => False
def cx_s_EqualTg : Ctx := mkC []
theorem cx_s_EqualTg_ok : CtxOk Tryz.prog cx_s_EqualTg := cx0_ok
set_option maxRecDepth 100000 in
set_option pp.maxSteps 1500 in
theorem s_EqualTg : HSound Tryz.prog 153 (callM [] true hEqTgs) := by
  refine callM_sound cx_s_EqualTg_ok mixed Tryz.func153 rfl fun args hl K hp => ?_
  unfold hEqTgs at hp
  split at hp
  · rename_i t z l t' z' r
    obtain ⟨xs, ys, rfl, rfl, ha, hp1, hp2⟩ := hp
    refine And.intro (fun h1 => ?_) (fun h1 => ?_)
    · exact hp2 (by rintro rfl; simp at h1)
    have hlen : xs.length = ys.length := by simp at h1; omega
    clear h1
    refine Exists.intro false (Exists.intro [0, 1, 12, 13] (Exists.intro (fun m vs h => ∃ i : Nat, i ≤ xs.length ∧ m = xs.length - i ∧ xs.take i = ys.take i ∧ vs = [.imm t z 3 (xs.map tgC), .imm t' z' 3 (ys.map tgC), .v (.int .i64 xs.length), .v (.int .i64 i)] ∧ h = []) (And.intro ?_ ?_)))
    · refine Exists.intro xs.length ?_
      exact ⟨0, by omega, rfl, rfl, by rw [List.length_map]; rfl, rfl⟩
    · intro m vs h hI
      obtain ⟨i, hi, rfl, htk, rfl, rfl⟩ := hI
      refine And.intro (fun h1 => ?_) (fun h1 => ?_)
      · have h1 := of_decide_eq_true h1
        have hlt : i < xs.length := by omega
        obtain ⟨a, hai⟩ : ∃ a, xs[i]? = some a := ⟨_, List.getElem?_eq_getElem hlt⟩
        obtain ⟨b, hbi⟩ : ∃ b, ys[i]? = some b := ⟨_, List.getElem?_eq_getElem (by omega)⟩
        refine And.intro (show Region.lexB _ _ = true from by kernel_rfl) ?_
        refine Exists.intro i (And.intro rfl (Exists.intro (tgC a) (And.intro (get_map hai) ?_)))
        refine Exists.intro i (And.intro rfl (Exists.intro (tgC b) (And.intro (get_map hbi) ?_)))
        refine And.intro (fun h2 => ?_) (fun h2 => ?_)
        · refine hp2 (ne_at hai hbi ?_)
          rintro rfl
          simp at h2
        · have hab : a = b := by
            cases a
            cases b
            simpa using h2
          subst hab
          refine Exists.intro (xs.length - (i + 1)) (And.intro (by omega) ⟨i + 1, by omega, rfl, take_stepG htk hai hbi, ?_, rfl⟩)
          rw [wrap_succ hlt (by omega)]
      · have h1 := of_decide_eq_false h1
        exact hp1 (take_end htk hlen (by omega))
  · exact hp.elim
def hSamePl : CH := fun args hl K => match args, hl with
  | [a, b], [] => ∃ p q : Pl, PlV a p ∧ PlV b q ∧ p.banks.length ≤ 1048576 ∧ (p = q → K (.v (.bool true)) []) ∧ (p ≠ q → K (.v (.bool false)) [])
  | _, _ => False
def cx_s_equal1 : Ctx := mkC [(150, callM [] true hEqNum)]
theorem cx_s_equal1_ok : CtxOk Tryz.prog cx_s_equal1 := mkC_ok (mem1 ⟨s_EqualInt, fnOk Tryz.func150 rfl rfl⟩ mem0)
set_option maxRecDepth 100000 in
set_option pp.maxSteps 1500 in
theorem s_equal1 : HSound Tryz.prog 149 (callM [] true hSamePl) := by
  refine callM_sound cx_s_equal1_ok mixed Tryz.func149 rfl fun args hl K hp => ?_
  unfold hSamePl at hp
  split at hp
  · rename_i a b
    obtain ⟨p, q, ⟨b1, z1, rfl⟩, ⟨b2, z2, rfl⟩, hl, hp1, hp2⟩ := hp
    obtain ⟨t, bk, d, s⟩ := p
    obtain ⟨t', bk', d', s'⟩ := q
    simp only at *
    repeat' ((first
      | refine Exists.intro bk (Exists.intro bk' (And.intro rfl (And.intro rfl (And.intro hl (And.intro (fun h1 => ?_) (fun h1 => ?_))))))
      | refine And.intro (fun h1 => ?_) (fun h1 => ?_)
      | fail) <;> try cases h1)
    all_goals first
      | (refine hp1 ?_; simp_all; done)
      | (refine hp2 ?_; simp_all; done)
  · exact hp.elim
def hEqPls : CH := fun args hl K => match args, hl with
  | [.imm _ _ 4 l, .imm _ _ 4 r, .fn f []], [] => f = 149 ∧ ∃ xs ys : List Pl, l = xs.map plC ∧ r = ys.map plC ∧ xs.length ≤ 1048576 ∧ (∀ p ∈ xs, smPl p) ∧ (xs = ys → K (.v (.bool true)) []) ∧ (xs ≠ ys → K (.v (.bool false)) [])
  | _, _ => False
def cx_s_EqualPls : Ctx := mkC [(149, callM [] true hSamePl)]
theorem cx_s_EqualPls_ok : CtxOk Tryz.prog cx_s_EqualPls := mkC_ok (mem1 ⟨s_equal1, fnOk Tryz.func149 rfl rfl⟩ mem0)
set_option maxRecDepth 100000 in
set_option pp.maxSteps 1500 in
theorem s_EqualPls : HSound Tryz.prog 151 (callM [] true hEqPls) := by
  refine callM_sound cx_s_EqualPls_ok mixed Tryz.func151 rfl fun args hl K hp => ?_
  unfold hEqPls at hp
  split at hp
  · rename_i t z l t' z' r f
    obtain ⟨rfl, xs, ys, rfl, rfl, ha, hsm, hp1, hp2⟩ := hp
    refine And.intro (fun h1 => ?_) (fun h1 => ?_)
    · exact hp2 (by rintro rfl; simp at h1)
    have hlen : xs.length = ys.length := by simp at h1; omega
    clear h1
    refine Exists.intro true (Exists.intro [0, 1, 2, 15, 16, 17] (Exists.intro (fun m vs h => ∃ i : Nat, i ≤ xs.length ∧ m = xs.length - i ∧ xs.take i = ys.take i ∧ vs = [.imm t z 4 (xs.map plC), .imm t' z' 4 (ys.map plC), .fn 149 [], .imm t z 4 (xs.map plC), .v (.int .i64 xs.length), .v (.int .i64 i)] ∧ h = []) (And.intro ?_ ?_)))
    · refine Exists.intro [] (Exists.intro xs.length ?_)
      exact ⟨0, by omega, rfl, rfl, by rw [List.length_map]; rfl, rfl⟩
    · intro m vs h hI
      obtain ⟨i, hi, rfl, htk, rfl, rfl⟩ := hI
      refine And.intro (fun h1 => ?_) (fun h1 => ?_)
      · have h1 := of_decide_eq_true h1
        have hlt : i < xs.length := by omega
        obtain ⟨a, hai⟩ : ∃ a, xs[i]? = some a := ⟨_, List.getElem?_eq_getElem hlt⟩
        obtain ⟨b, hbi⟩ : ∃ b, ys[i]? = some b := ⟨_, List.getElem?_eq_getElem (by omega)⟩
        refine Exists.intro i (And.intro rfl (Exists.intro (plC a) (And.intro (get_map hai) ?_)))
        refine Exists.intro i (And.intro rfl (Exists.intro (plC b) (And.intro (get_map hbi) ?_)))
        refine Exists.intro a (Exists.intro b (And.intro ⟨_, _, rfl⟩ (And.intro ⟨_, _, rfl⟩ (And.intro (hsm a (List.mem_of_getElem? hai)) (And.intro (fun h2 => ?_) (fun h2 => ?_))))))
        · refine And.intro (fun h3 => by cases h3) (fun h3 => ?_)
          subst h2
          refine Exists.intro [] (Exists.intro (xs.length - (i + 1)) (And.intro (by omega) ⟨i + 1, by omega, rfl, take_stepG htk hai hbi, ?_, rfl⟩))
          rw [wrap_succ hlt (by omega)]
        · refine And.intro (fun h3 => ?_) (fun h3 => by cases h3)
          exact hp2 (ne_at hai hbi h2)
      · have h1 := of_decide_eq_false h1
        exact hp1 (take_end htk hlen (by omega))
  · exact hp.elim
def hEqTSS : CH := fun args hl K => match args, hl with
  | [.imm _ _ 1 l, .imm _ _ 1 r, .fn f []], [] => f = 153 ∧ ∃ xs ys : List (List Tg), l = xs.map tgsC ∧ r = ys.map tgsC ∧ xs.length ≤ 1048576 ∧ (∀ p ∈ xs, smTgs p) ∧ (xs = ys → K (.v (.bool true)) []) ∧ (xs ≠ ys → K (.v (.bool false)) [])
  | _, _ => False
def cx_s_EqualTSS : Ctx := mkC [(153, callM [] true hEqTgs)]
theorem cx_s_EqualTSS_ok : CtxOk Tryz.prog cx_s_EqualTSS := mkC_ok (mem1 ⟨s_EqualTg, fnOk Tryz.func153 rfl rfl⟩ mem0)
set_option maxRecDepth 100000 in
set_option pp.maxSteps 1500 in
theorem s_EqualTSS : HSound Tryz.prog 152 (callM [] true hEqTSS) := by
  refine callM_sound cx_s_EqualTSS_ok mixed Tryz.func152 rfl fun args hl K hp => ?_
  unfold hEqTSS at hp
  split at hp
  · rename_i t z l t' z' r f
    obtain ⟨rfl, xs, ys, rfl, rfl, ha, hsm, hp1, hp2⟩ := hp
    refine And.intro (fun h1 => ?_) (fun h1 => ?_)
    · exact hp2 (by rintro rfl; simp at h1)
    have hlen : xs.length = ys.length := by simp at h1; omega
    clear h1
    refine Exists.intro true (Exists.intro [0, 1, 2, 15, 16, 17] (Exists.intro (fun m vs h => ∃ i : Nat, i ≤ xs.length ∧ m = xs.length - i ∧ xs.take i = ys.take i ∧ vs = [.imm t z 1 (xs.map tgsC), .imm t' z' 1 (ys.map tgsC), .fn 153 [], .imm t z 1 (xs.map tgsC), .v (.int .i64 xs.length), .v (.int .i64 i)] ∧ h = []) (And.intro ?_ ?_)))
    · refine Exists.intro [] (Exists.intro xs.length ?_)
      exact ⟨0, by omega, rfl, rfl, by rw [List.length_map]; rfl, rfl⟩
    · intro m vs h hI
      obtain ⟨i, hi, rfl, htk, rfl, rfl⟩ := hI
      refine And.intro (fun h1 => ?_) (fun h1 => ?_)
      · have h1 := of_decide_eq_true h1
        have hlt : i < xs.length := by omega
        obtain ⟨a, hai⟩ : ∃ a, xs[i]? = some a := ⟨_, List.getElem?_eq_getElem hlt⟩
        obtain ⟨b, hbi⟩ : ∃ b, ys[i]? = some b := ⟨_, List.getElem?_eq_getElem (by omega)⟩
        refine Exists.intro i (And.intro rfl (Exists.intro (tgsC a) (And.intro (get_map hai) ?_)))
        refine Exists.intro i (And.intro rfl (Exists.intro (tgsC b) (And.intro (get_map hbi) ?_)))
        refine Exists.intro a (Exists.intro b (And.intro rfl (And.intro rfl (And.intro (hsm a (List.mem_of_getElem? hai)) (And.intro (fun h2 => ?_) (fun h2 => ?_))))))
        · refine And.intro (fun h3 => by cases h3) (fun h3 => ?_)
          subst h2
          refine Exists.intro [] (Exists.intro (xs.length - (i + 1)) (And.intro (by omega) ⟨i + 1, by omega, rfl, take_stepG htk hai hbi, ?_, rfl⟩))
          rw [wrap_succ hlt (by omega)]
        · refine And.intro (fun h3 => ?_) (fun h3 => by cases h3)
          exact hp2 (ne_at hai hbi h2)
      · have h1 := of_decide_eq_false h1
        exact hp1 (take_end htk hlen (by omega))
  · exact hp.elim
def hSameLa : CH := fun args hl K => match args, hl with
  | [a, b], [] => ∃ l k : La, LaV a l ∧ LaV b k ∧ smLa l ∧ (l = k → K (.v (.bool true)) []) ∧ (l ≠ k → K (.v (.bool false)) [])
  | _, _ => False
def cx_s_equal : Ctx := mkC [(151, callM [] true hEqPls), (150, callM [] true hEqNum), (152, callM [] true hEqTSS), (149, callM [] true hSamePl)]
theorem cx_s_equal_ok : CtxOk Tryz.prog cx_s_equal := mkC_ok (mem1 ⟨s_EqualPls, fnOk Tryz.func151 rfl rfl⟩ (mem1 ⟨s_EqualInt, fnOk Tryz.func150 rfl rfl⟩ (mem1 ⟨s_EqualTSS, fnOk Tryz.func152 rfl rfl⟩ (mem1 ⟨s_equal1, fnOk Tryz.func149 rfl rfl⟩ mem0))))
set_option maxRecDepth 100000 in
set_option pp.maxSteps 1500 in
set_option maxHeartbeats 4000000 in
theorem s_equal : HSound Tryz.prog 103 (callM [] true hSameLa) := by
  refine callM_sound cx_s_equal_ok mixed Tryz.func103 rfl fun args hl K hp => ?_
  unfold hSameLa at hp
  split at hp
  · rename_i a b
    obtain ⟨l, k, ⟨b1, z1, b2, z2, b3, z3, rfl⟩, ⟨b1', z1', b2', z2', b3', z3', rfl⟩, hb, hp1, hp2⟩ := hp
    obtain ⟨g1, g2, _, g3, g4, g5, _⟩ := hb
    obtain ⟨l1, l2, l3, l4, l5, l6⟩ := l
    obtain ⟨k1, k2, k3, k4, k5, k6⟩ := k
    simp only at *
    repeat' ((first
      | refine And.intro rfl (Exists.intro l1 (Exists.intro k1 (And.intro rfl (And.intro rfl (And.intro g1 (And.intro g2 (And.intro (fun h1 => ?_) (fun h1 => ?_))))))))
      | refine Exists.intro l3 (Exists.intro k3 (And.intro rfl (And.intro rfl (And.intro g3 (And.intro (fun h1 => ?_) (fun h1 => ?_))))))
      | refine And.intro rfl (Exists.intro l6 (Exists.intro k6 (And.intro rfl (And.intro rfl (And.intro g4 (And.intro g5 (And.intro (fun h1 => ?_) (fun h1 => ?_))))))))
      | refine And.intro (fun h1 => ?_) (fun h1 => ?_)
      | fail) <;> try first | (cases h1; done) | (exfalso; simp at h1; done))
    all_goals first
      | (refine hp1 ?_; simp_all; done)
      | (refine hp2 ?_; simp_all; done)
  · exact hp.elim
end Go.Proofs.YtbfjkjdbdejnmaaGreat.Ab

/- Layouts compared by the reference, in both answers. No condition. -/
namespace Go.Proofs.YtbfjkjdbdejnmaaGreat.Ab
set_option linter.unusedVariables false
set_option linter.unusedSimpArgs false
set_option maxRecDepth 100000

def hSameP : CH := fun args hl K => match args, hl with
  | [a, b], [] => ∃ l k : La, LaV a l ∧ LaV b k ∧ smLa l ∧ ((l.pls = k.pls ∧ l.tgts = k.tgts) → K (.v (.bool true)) []) ∧ (¬ (l.pls = k.pls ∧ l.tgts = k.tgts) → K (.v (.bool false)) [])
  | _, _ => False
def cx_s_l5SamePlaces : Ctx := mkC [(142, callM [] true hEqNum)]
theorem cx_s_l5SamePlaces_ok : CtxOk Tryz.prog cx_s_l5SamePlaces := mkC_ok (mem1 ⟨s_l5SameNums, fnOk Tryz.func142 rfl rfl⟩ mem0)
set_option maxRecDepth 100000 in
set_option pp.maxSteps 1500 in
set_option maxHeartbeats 8000000 in
theorem s_l5SamePlaces : HSound Tryz.prog 141 (callM [] true hSameP) := by
  refine callM_sound cx_s_l5SamePlaces_ok mixed Tryz.func141 rfl fun args hl K hp => ?_
  unfold hSameP at hp
  split at hp
  · rename_i a b
    obtain ⟨l, k, ⟨b1, z1, b2, z2, b3, z3, rfl⟩, ⟨b1', z1', b2', z2', b3', z3', rfl⟩, hb, hp1, hp2⟩ := hp
    obtain ⟨g1, g2, _, g3, g4, g5, _⟩ := hb
    obtain ⟨l1, l2, l3, l4, l5, l6⟩ := l
    obtain ⟨k1, k2, k3, k4, k5, k6⟩ := k
    simp only at *
    repeat' ((first
      | refine And.intro (fun h1 => ?_) (fun h1 => ?_)
      | fail) <;> try cases h1)
    · exact hp2 (by rintro ⟨rfl, rfl⟩; simp at h1)
    · exact hp2 (by rintro ⟨rfl, rfl⟩; simp at h1)
    rename_i h0
    have e1 : l1.length = k1.length := by simp at h0; omega
    have e6 : l6.length = k6.length := by simp at h1; omega
    clear h0 h1
    refine Exists.intro true (Exists.intro [2, 3, 5] (Exists.intro (fun m vs h => ∃ i : Nat, i ≤ l1.length ∧ m = l1.length - i ∧ l1.take i = k1.take i ∧ vs = [.ptr 0 0 0 6, .ptr 1 0 0 6, .v (.int .i64 i)] ∧
      h = [.box [.imm b1 z1 4 (l1.map plC), .v (.int .i64 l2), .imm b2 z2 1 (l3.map intC), .v (.int .i64 l4), .v (.int .i64 l5), .imm b3 z3 1 (l6.map tgsC)], .box [.imm b1' z1' 4 (k1.map plC), .v (.int .i64 k2), .imm b2' z2' 1 (k3.map intC), .v (.int .i64 k4), .v (.int .i64 k5), .imm b3' z3' 1 (k6.map tgsC)]]) (And.intro ?_ ?_)))
    · refine Exists.intro [] (Exists.intro l1.length ?_)
      exact ⟨0, by omega, rfl, rfl, rfl, rfl⟩
    intro m vs h hI
    obtain ⟨i, hi, rfl, htk, rfl, rfl⟩ := hI
    refine And.intro (fun h1 => ?_) (fun h1 => ?_)
    · have h1 := of_decide_eq_true h1
      rw [List.length_map] at h1
      have hlt : i < l1.length := by omega
      obtain ⟨p, hpi⟩ : ∃ p, l1[i]? = some p := ⟨_, List.getElem?_eq_getElem hlt⟩
      obtain ⟨q, hqi⟩ : ∃ q, k1[i]? = some q := ⟨_, List.getElem?_eq_getElem (by omega)⟩
      have hps := g2 p (List.mem_of_getElem? hpi)
      have hwi : IntKind.wrap .i64 ((i : Int) + 1) = ((i + 1 : Nat) : Int) := wrap_succ hlt (by omega)
      have hne : p ≠ q → K (.v (.bool false)) [] := fun h => hp2 fun e => ne_at hpi hqi h e.1
      refine Exists.intro i (And.intro rfl (Exists.intro (plC p) (And.intro (get_map hpi) ?_)))
      refine Exists.intro i (And.intro rfl (Exists.intro (plC q) (And.intro (get_map hqi) ?_)))
      have hfin : p = q → l1.take (i + 1) = k1.take (i + 1) := fun h => take_stepG htk hpi (h ▸ hqi)
      obtain ⟨pt, pb, pd, ps⟩ := p
      obtain ⟨qt, qb, qd, qs⟩ := q
      simp only at *
      repeat' ((first
        | refine Exists.intro pb (Exists.intro qb (And.intro rfl (And.intro rfl (And.intro hps (And.intro (fun h1 => ?_) (fun h1 => ?_))))))
        | refine And.intro (fun h1 => ?_) (fun h1 => ?_)
        | fail) <;> try first | (cases h1; done) | (exfalso; simp at h1; done))
      all_goals first
        | (refine hne ?_; simp_all; done)
        | (refine Exists.intro [] (Exists.intro (l1.length - (i + 1)) (And.intro (by omega) ⟨i + 1, by omega, rfl, hfin (by simp_all; done), by rw [hwi], rfl⟩)))
    have h1 := of_decide_eq_false h1
    rw [List.length_map] at h1
    have e1' : l1 = k1 := take_end htk e1 (by omega)
    subst e1'
    clear htk
    have hne : l6 ≠ k6 → K (.v (.bool false)) [] := fun h => hp2 fun e => h e.2
    have heq : l6 = k6 → K (.v (.bool true)) [] := fun h => hp1 ⟨rfl, h⟩
    refine Exists.intro true (Exists.intro [2, 3, 8] (Exists.intro (fun m vs h => ∃ i : Nat, i ≤ l6.length ∧ m = l6.length - i ∧ l6.take i = k6.take i ∧ vs = [.ptr 0 0 0 6, .ptr 1 0 0 6, .v (.int .i64 i)] ∧
      h = [.box [.imm b1 z1 4 (l1.map plC), .v (.int .i64 l2), .imm b2 z2 1 (l3.map intC), .v (.int .i64 l4), .v (.int .i64 l5), .imm b3 z3 1 (l6.map tgsC)], .box [.imm b1' z1' 4 (l1.map plC), .v (.int .i64 k2), .imm b2' z2' 1 (k3.map intC), .v (.int .i64 k4), .v (.int .i64 k5), .imm b3' z3' 1 (k6.map tgsC)]]) (And.intro ?_ ?_)))
    · refine Exists.intro [] (Exists.intro l6.length ?_)
      exact ⟨0, by omega, rfl, rfl, rfl, rfl⟩
    intro m vs h hI
    obtain ⟨i, hi, rfl, htk, rfl, rfl⟩ := hI
    refine And.intro (fun h1 => ?_) (fun h1 => ?_)
    · have h1 := of_decide_eq_true h1
      rw [List.length_map] at h1
      have hlt : i < l6.length := by omega
      obtain ⟨p, hpi⟩ : ∃ p, l6[i]? = some p := ⟨_, List.getElem?_eq_getElem hlt⟩
      obtain ⟨q, hqi⟩ : ∃ q, k6[i]? = some q := ⟨_, List.getElem?_eq_getElem (by omega)⟩
      have hps := g5 p (List.mem_of_getElem? hpi)
      simp only [smTgs] at hps
      have hwi : IntKind.wrap .i64 ((i : Int) + 1) = ((i + 1 : Nat) : Int) := wrap_succ hlt (by omega)
      have hne2 : p ≠ q → K (.v (.bool false)) [] := fun h => hne fun e => ne_at hpi hqi h e
      refine And.intro (show Region.lexB _ _ = true from by kernel_rfl) ?_
      refine Exists.intro i (And.intro rfl (Exists.intro (tgsC p) (And.intro (get_map hpi) ?_)))
      refine Exists.intro i (And.intro rfl (Exists.intro (tgsC q) (And.intro (get_map hqi) ?_)))
      refine And.intro (fun h2 => ?_) (fun h2 => ?_)
      · exact hne2 (by rintro rfl; simp at h2)
      have el : p.length = q.length := by simp at h2; omega
      clear h2
      refine Exists.intro true (Exists.intro [2, 3, 8, 9] (Exists.intro (fun m vs h => ∃ j : Nat, j ≤ p.length ∧ m = p.length - j ∧ p.take j = q.take j ∧ vs = [.ptr 0 0 0 6, .ptr 1 0 0 6, .v (.int .i64 i), .v (.int .i64 j)] ∧
        h = [.box [.imm b1 z1 4 (l1.map plC), .v (.int .i64 l2), .imm b2 z2 1 (l3.map intC), .v (.int .i64 l4), .v (.int .i64 l5), .imm b3 z3 1 (l6.map tgsC)], .box [.imm b1' z1' 4 (l1.map plC), .v (.int .i64 k2), .imm b2' z2' 1 (k3.map intC), .v (.int .i64 k4), .v (.int .i64 k5), .imm b3' z3' 1 (k6.map tgsC)]]) (And.intro ?_ ?_)))
      · refine Exists.intro [] (Exists.intro p.length ?_)
        exact ⟨0, by omega, rfl, rfl, rfl, rfl⟩
      intro m vs h hI
      obtain ⟨j, hj, rfl, htj, rfl, rfl⟩ := hI
      refine Exists.intro i (And.intro rfl (Exists.intro (tgsC p) (And.intro (get_map hpi) ?_)))
      refine And.intro (fun h2 => ?_) (fun h2 => ?_)
      · have h2 := of_decide_eq_true h2
        rw [List.length_map] at h2
        have hjl : j < p.length := by omega
        obtain ⟨x, hx⟩ : ∃ x, p[j]? = some x := ⟨_, List.getElem?_eq_getElem hjl⟩
        obtain ⟨y, hy⟩ : ∃ y, q[j]? = some y := ⟨_, List.getElem?_eq_getElem (by omega)⟩
        refine And.intro (show Region.lexB _ _ = true from by kernel_rfl) ?_
        refine Exists.intro i (And.intro rfl (Exists.intro (tgsC p) (And.intro (get_map hpi) ?_)))
        refine Exists.intro j (And.intro rfl (Exists.intro (tgC x) (And.intro (get_map hx) ?_)))
        refine Exists.intro i (And.intro rfl (Exists.intro (tgsC q) (And.intro (get_map hqi) ?_)))
        refine Exists.intro j (And.intro rfl (Exists.intro (tgC y) (And.intro (get_map hy) ?_)))
        refine And.intro (fun h3 => ?_) (fun h3 => ?_)
        · refine hne2 (ne_at hx hy ?_)
          rintro rfl
          simp at h3
        · have hxy : x = y := by
            cases x
            cases y
            simpa using h3
          subst hxy
          refine Exists.intro [] (Exists.intro (p.length - (j + 1)) (And.intro (by omega) ⟨j + 1, by omega, rfl, take_stepG htj hx hy, ?_, rfl⟩))
          rw [wrap_succ hjl (by omega)]
      · have h2 := of_decide_eq_false h2
        rw [List.length_map] at h2
        have hpq : p = q := take_end htj el (by omega)
        subst hpq
        exact Exists.intro [] (Exists.intro (l6.length - (i + 1)) (And.intro (by omega) ⟨i + 1, by omega, rfl, take_stepG htk hpi hqi, by rw [hwi], rfl⟩))
    have h1 := of_decide_eq_false h1
    rw [List.length_map] at h1
    exact heq (take_end htk e6 (by omega))
  · exact hp.elim
def cx_s_SameLayout : Ctx := mkC [(141, callM [] true hSameP), (142, callM [] true hEqNum)]
theorem cx_s_SameLayout_ok : CtxOk Tryz.prog cx_s_SameLayout := mkC_ok (mem1 ⟨s_l5SamePlaces, fnOk Tryz.func141 rfl rfl⟩ (mem1 ⟨s_l5SameNums, fnOk Tryz.func142 rfl rfl⟩ mem0))
set_option maxRecDepth 100000 in
set_option pp.maxSteps 1500 in
set_option maxHeartbeats 4000000 in
theorem s_SameLayout : HSound Tryz.prog 90 (callM [] true hSameLa) := by
  refine callM_sound cx_s_SameLayout_ok mixed Tryz.func90 rfl fun args hl K hp => ?_
  unfold hSameLa at hp
  split at hp
  · rename_i a b
    obtain ⟨l, k, ⟨b1, z1, b2, z2, b3, z3, rfl⟩, ⟨b1', z1', b2', z2', b3', z3', rfl⟩, hb, hp1, hp2⟩ := hp
    have g3 := hb.slots
    refine Exists.intro l (Exists.intro k (And.intro ⟨_, _, _, _, _, _, rfl⟩ (And.intro ⟨_, _, _, _, _, _, rfl⟩ (And.intro hb (And.intro (fun h0 => ?_) (fun h0 => ?_))))))
    all_goals obtain ⟨l1, l2, l3, l4, l5, l6⟩ := l
    all_goals obtain ⟨k1, k2, k3, k4, k5, k6⟩ := k
    all_goals simp only at *
    all_goals repeat' ((first
      | refine Exists.intro l3 (Exists.intro k3 (And.intro rfl (And.intro rfl (And.intro g3 (And.intro (fun h1 => ?_) (fun h1 => ?_))))))
      | refine And.intro (fun h1 => ?_) (fun h1 => ?_)
      | fail) <;> try first | (cases h1; done) | (exfalso; simp at h1; done))
    all_goals first
      | (refine hp1 ?_; simp_all; done)
      | (refine hp2 ?_; simp_all; done)
      | (by_cases hq : l5 = k5
         · exact fin_b (hp1 (by simp_all)) (by simp [hq])
         · exact fin_b (hp2 (by simp_all)) (by simp [hq]))
  · exact hp.elim
def hEnds : CH := fun args hl K => match args, hl with
  | [a], [] => ∃ l : La, LaV a l ∧ K (.v (.int .i64 (endsF l))) []
  | _, _ => False
def cx_s_stackEnd : Ctx := mkC []
theorem cx_s_stackEnd_ok : CtxOk Tryz.prog cx_s_stackEnd := cx0_ok
set_option maxRecDepth 100000 in
set_option pp.maxSteps 1500 in
theorem s_stackEnd : HSound Tryz.prog 101 (callM [] true hEnds) := by
  refine callM_sound cx_s_stackEnd_ok mixed Tryz.func101 rfl fun args hl K hp => ?_
  unfold hEnds at hp
  split at hp
  · rename_i a
    obtain ⟨l, ⟨b1, z1, b2, z2, b3, z3, rfl⟩, hp⟩ := hp
    obtain ⟨l1, l2, l3, l4, l5, l6⟩ := l
    cases l3 with
    | nil =>
      refine And.intro (fun h1 => by exfalso; simp at h1) (fun h1 => ?_)
      exact hp
    | cons s t =>
      refine And.intro (fun h1 => ?_) (fun h1 => by exfalso; first | (simp at h1; done) | (simp at h1; omega))
      refine Exists.intro 0 (And.intro rfl (Exists.intro (intC s) (And.intro rfl ?_)))
      exact hp
  · exact hp.elim
def cx_s_l5Ends : Ctx := mkC []
theorem cx_s_l5Ends_ok : CtxOk Tryz.prog cx_s_l5Ends := cx0_ok
set_option maxRecDepth 100000 in
set_option pp.maxSteps 1500 in
theorem s_l5Ends : HSound Tryz.prog 88 (callM [] true hEnds) := by
  refine callM_sound cx_s_l5Ends_ok mixed Tryz.func88 rfl fun args hl K hp => ?_
  unfold hEnds at hp
  split at hp
  · rename_i a
    obtain ⟨l, ⟨b1, z1, b2, z2, b3, z3, rfl⟩, hp⟩ := hp
    obtain ⟨l1, l2, l3, l4, l5, l6⟩ := l
    cases l3 with
    | nil =>
      refine And.intro (fun h1 => by exfalso; simp at h1) (fun h1 => ?_)
      exact hp
    | cons s t =>
      refine And.intro (fun h1 => ?_) (fun h1 => by exfalso; first | (simp at h1; done) | (simp at h1; omega))
      refine Exists.intro 0 (And.intro rfl (Exists.intro (intC s) (And.intro rfl ?_)))
      exact hp
  · exact hp.elim
end Go.Proofs.YtbfjkjdbdejnmaaGreat.Ab

/- What a law's arguments are: lists of regions. No condition. -/
namespace Go.Proofs.YtbfjkjdbdejnmaaGreat.Ab
set_option maxRecDepth 100000

theorem list_of {R : Type} {C : R → List AV} {S : List AV → Prop} {Q : R → Prop} (h : ∀ el, S el → ∃ r, el = C r ∧ Q r) : ∀ ll : List (List AV), (∀ el ∈ ll, S el) → ∃ rs : List R, ll = rs.map C ∧ ∀ r ∈ rs, Q r
  | [], _ => ⟨[], rfl, fun _ h => by cases h⟩
  | el :: ll, hs => by
    obtain ⟨rs, rfl, hq⟩ := list_of h ll fun e he => hs e (List.mem_cons_of_mem _ he)
    obtain ⟨r, rfl, h1⟩ := h el (hs el List.mem_cons_self)
    refine ⟨r :: rs, rfl, fun q hq' => ?_⟩
    rcases List.mem_cons.1 hq' with rfl | h2
    · exact h1
    · exact hq q h2
theorem sh_int {n : Nat} {c : List AV} (hs : Sh Tryz.prog (n + 1) 3 c) : ∃ a, c = [.v (.int .i64 a)] ∧ I64 a := by
  simp only [Sh, Tryz.underlying3] at hs
  obtain ⟨w, rfl, hw⟩ := hs
  exact ⟨w, rfl, wf_i64 hw⟩
theorem sh_bool {n : Nat} {c : List AV} (hs : Sh Tryz.prog (n + 1) 4 c) : ∃ a, c = [.v (.bool a)] := by
  simp only [Sh, Tryz.underlying4] at hs
  exact hs
theorem lendC {R : Type} (C : R → List AV) (bs : List R) : List.take bs.length (List.drop 0 (bs.map C)) = bs.map C := by rw [List.drop_zero, ← List.length_map (f := C), List.take_length]
end Go.Proofs.YtbfjkjdbdejnmaaGreat.Ab
