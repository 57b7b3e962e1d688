/- Functions walked, part 4. No condition. -/
import Derived.Test.YtbfjkjdbdejnmaaGreatWalk3
import Derived.Test.YtbfjkjdbdejnmaaGreatWalk1
import Derived.Lib.Bytealg
import Derived.Lib.IndexLaws
import Derived.Lib.Strings
import Derived.WalkKit
import Derived.Lib.Walk
set_option linter.unusedVariables false
set_option linter.unusedSimpArgs false
/- Modules as trees: whole modules: laid, compared, measured. No condition. -/
namespace Go.Proofs.YtbfjkjdbdejnmaaGreat.Ab
set_option linter.unusedVariables false
set_option linter.unusedSimpArgs false

structure Mo where
  name : ByteArray
  text : List Int
  banks : List (List Int)
  data : List Int
  bss : Int
  rels : List Int
  imps : List ByteArray
  exps : List Ex
def zeroMo : Mo := ⟨.empty, [], [], [], 0, [], [], []⟩
def moC (m : Mo) : List AV := [.v (.string m.name), .sl 1 (m.text.map intC), .sl 1 (m.banks.map bankC), .sl 1 (m.data.map byteC), .v (.int .i64 m.bss), .sl 1 (m.rels.map intC), .sl 1 (m.imps.map strC), .sl 3 (m.exps.map exC)]
/-- A module that is read. -/
def MoV (a : AV) (m : Mo) : Prop := ∃ b1 z1 b2 z2 b3 z3 b4 z4 b5 z5 b6 z6, a = .agg [.v (.string m.name), .imm b1 z1 1 (m.text.map intC), .imm b2 z2 1 (m.banks.map bankC), .imm b3 z3 1 (m.data.map byteC), .v (.int .i64 m.bss), .imm b4 z4 1 (m.rels.map intC), .imm b5 z5 1 (m.imps.map strC), .imm b6 z6 3 (m.exps.map exC)]
abbrev moR (m : Mo) : AV := .agg [.v (.string m.name), .slc 0 0 m.text.length false, .slc 1 0 m.banks.length false, .slc 2 0 m.data.length false, .v (.int .i64 m.bss), .slc 3 0 m.rels.length false, .slc 4 0 m.imps.length false, .slc 5 0 m.exps.length false]
abbrev moH (m : Mo) : HP := [.lst 1 (m.text.map intC), .lst 1 (m.banks.map bankC), .lst 1 (m.data.map byteC), .lst 1 (m.rels.map intC), .lst 1 (m.imps.map strC), .lst 3 (m.exps.map exC)]
def wtMo (m : Mo) : Nat := m.name.size + m.text.length + wtIntS m.banks + m.data.length + m.rels.length + wtString m.imps + wtExport m.exps
structure bigMo (m : Mo) : Prop where
  name : m.name.size ≤ maxLen
  text : m.text.length ≤ maxLen
  banks : m.banks.length ≤ maxLen
  bank : ∀ b ∈ m.banks, bigBank b
  data : m.data.length ≤ maxLen
  rels : m.rels.length ≤ maxLen
  imps : m.imps.length ≤ maxLen
  imp : ∀ b ∈ m.imps, bigStr b
  exps : m.exps.length ≤ maxLen
  exp : ∀ b ∈ m.exps, bigEx b
structure smMo (m : Mo) : Prop where
  name : m.name.size ≤ 1048576
  text : m.text.length ≤ 1048576
  banks : m.banks.length ≤ 1048576
  bank : ∀ b ∈ m.banks, smBank b
  data : m.data.length ≤ 1048576
  rels : m.rels.length ≤ 1048576
  imps : m.imps.length ≤ 1048576
  imp : ∀ b ∈ m.imps, b.size ≤ 1048576
  exps : m.exps.length ≤ 1048576
  exp : ∀ b ∈ m.exps, b.n.size ≤ 1048576
theorem le_sum {α : Type} {f : α → Nat} {l : List α} {a : α} (h : a ∈ l) : f a ≤ (l.map f).sum := by
  induction l with
  | nil => cases h
  | cons x l ih =>
    rcases List.mem_cons.1 h with rfl | h
    · simp
    · have := ih h
      simp; omega
theorem sm_of_wt {m : Mo} (h : wtMo m ≤ 1048576) : smMo m := by
  simp only [wtMo, wtIntS, wtString, wtExport] at h
  refine ⟨by omega, by omega, by omega, fun b hb => ?_, by omega, by omega, by omega, fun b hb => ?_, by omega, fun b hb => ?_⟩
  · have := le_sum (f := List.length) hb; simp only [smBank]; omega
  · have := le_sum (f := ByteArray.size) hb; omega
  · have := le_sum (f := exW) hb; simp only [exW] at *; omega

def hSzMo : CH := fun args hl K => match args, hl with
  | [a, .v (.int .i64 n)], [] => ∃ m, MoV a m ∧ bigMo m ∧ 0 ≤ n ∧ n ≤ 1048576 ∧ K (.v (.int .i64 (szB n (wtMo m)))) []
  | _, _ => False
def cx_s_szModule : Ctx := mkC [(35, callM [] true hSzB), (82, callM [] true hSzIntS), (83, callM [] true hSzB), (84, callM [] true hSzString), (85, callM [] true hSzExport)]
theorem cx_s_szModule_ok : CtxOk Tryz.prog cx_s_szModule := mkC_ok (mem1 ⟨s_szIntS, fnOk Tryz.func35 rfl rfl⟩ (mem1 ⟨s_szIntSS, fnOk Tryz.func82 rfl rfl⟩ (mem1 ⟨s_szByteS, fnOk Tryz.func83 rfl rfl⟩ (mem1 ⟨s_szStringS, fnOk Tryz.func84 rfl rfl⟩ (mem1 ⟨s_szExportS, fnOk Tryz.func85 rfl rfl⟩ mem0)))))
set_option maxRecDepth 100000 in
set_option pp.maxSteps 1500 in
set_option maxHeartbeats 4000000 in
theorem s_szModule : HSound Tryz.prog 33 (callM [] true hSzMo) := by
  refine callM_sound cx_s_szModule_ok mixed Tryz.func33 rfl fun args hl K hp => ?_
  unfold hSzMo at hp
  split at hp
  · rename_i a n
    obtain ⟨m, ⟨b1, z1, b2, z2, b3, z3, b4, z4, b5, z5, b6, z6, rfl⟩, hb, hn0, hn1, hp⟩ := hp
    obtain ⟨g1, g2, g3, g4, g5, g6, g7, g8, g9, g10⟩ := hb
    have hml : maxLen ≤ 9223372036854775807 := by decide
    have hw : IntKind.i64.wrap (n - m.name.size) = n - m.name.size := wrap64 (by omega)
    refine And.intro (fun h => ?_) (fun h => ?_)
    · have h := of_decide_eq_true h
      rw [hw] at h
      refine fin_i hp ?_
      rw [szB_neg (by simp only [wtMo]; omega)]
    have h := of_decide_eq_false h
    generalize IntKind.i64.wrap (n - m.name.size) = c0 at *
    refine And.intro (by omega) (And.intro (by omega) (And.intro (by rw [List.length_map]; omega) ?_))
    refine And.intro (fun h => ?_) (fun h => ?_)
    · have h := of_decide_eq_true h
      rw [List.length_map] at h
      have h := szB_lt (by omega) h
      refine fin_i hp ?_
      rw [szB_neg (by simp only [wtMo]; omega)]
    have h := of_decide_eq_false h
    rw [List.length_map] at *
    have q1 := szB_pos (szB_ge (by omega) h)
    generalize szB c0 m.text.length = c1 at *
    refine Exists.intro m.banks (And.intro rfl (And.intro g4 (And.intro g3 (And.intro (by omega) (And.intro (by omega) ?_)))))
    refine And.intro (fun h => ?_) (fun h => ?_)
    · have h := of_decide_eq_true h
      have h := szB_lt (by omega) h
      refine fin_i hp ?_
      rw [szB_neg (by simp only [wtMo]; omega)]
    have h := of_decide_eq_false h
    have q2 := szB_pos (szB_ge (by omega) h)
    generalize szB c1 (wtIntS m.banks) = c2 at *
    refine And.intro (by omega) (And.intro (by omega) (And.intro (by rw [List.length_map]; omega) ?_))
    refine And.intro (fun h => ?_) (fun h => ?_)
    · have h := of_decide_eq_true h
      rw [List.length_map] at h
      have h := szB_lt (by omega) h
      refine fin_i hp ?_
      rw [szB_neg (by simp only [wtMo]; omega)]
    have h := of_decide_eq_false h
    rw [List.length_map] at *
    have q3 := szB_pos (szB_ge (by omega) h)
    generalize szB c2 m.data.length = c3 at *
    refine And.intro (by omega) (And.intro (by omega) (And.intro (by rw [List.length_map]; omega) ?_))
    refine And.intro (fun h => ?_) (fun h => ?_)
    · have h := of_decide_eq_true h
      rw [List.length_map] at h
      have h := szB_lt (by omega) h
      refine fin_i hp ?_
      rw [szB_neg (by simp only [wtMo]; omega)]
    have h := of_decide_eq_false h
    rw [List.length_map] at *
    have q4 := szB_pos (szB_ge (by omega) h)
    generalize szB c3 m.rels.length = c4 at *
    refine Exists.intro m.imps (And.intro rfl (And.intro g8 (And.intro g7 (And.intro (by omega) (And.intro (by omega) ?_)))))
    refine And.intro (fun h => ?_) (fun h => ?_)
    · have h := of_decide_eq_true h
      have h := szB_lt (by omega) h
      refine fin_i hp ?_
      rw [szB_neg (by simp only [wtMo]; omega)]
    have h := of_decide_eq_false h
    have q5 := szB_pos (szB_ge (by omega) h)
    generalize szB c4 (wtString m.imps) = c5 at *
    refine Exists.intro m.exps (And.intro rfl (And.intro g10 (And.intro g9 (And.intro (by omega) (And.intro (by omega) ?_)))))
    refine And.intro (fun h => ?_) (fun h => ?_)
    · have h := of_decide_eq_true h
      have h := szB_lt (by omega) h
      refine fin_i hp ?_
      rw [szB_neg (by simp only [wtMo]; omega)]
    have h := of_decide_eq_false h
    have q6 := szB_pos (szB_ge (by omega) h)
    generalize szB c5 (wtExport m.exps) = c6 at *
    refine fin_i hp ?_
    rw [szB_pos (by simp only [wtMo]; omega)]
    simp only [wtMo]
    omega
  · exact hp.elim

def hToMo : CH := fun args hl K => match args, hl with
  | [a], [] => ∃ m, MoV a m ∧ smMo m ∧ K (moR m) (moH m)
  | _, _ => False
def cx_s_toModule : Ctx := mkC [(41, callM [] true hToInt), (95, callM [] true hToIntS), (96, callM [] true hToB), (97, callM [] true hToString), (98, callM [] true hToExport)]
theorem cx_s_toModule_ok : CtxOk Tryz.prog cx_s_toModule := mkC_ok (mem1 ⟨s_toIntS, fnOk Tryz.func41 rfl rfl⟩ (mem1 ⟨s_toIntSS, fnOk Tryz.func95 rfl rfl⟩ (mem1 ⟨s_toByteS, fnOk Tryz.func96 rfl rfl⟩ (mem1 ⟨s_toStringS, fnOk Tryz.func97 rfl rfl⟩ (mem1 ⟨s_toExportS, fnOk Tryz.func98 rfl rfl⟩ mem0)))))
set_option maxRecDepth 100000 in
set_option pp.maxSteps 1500 in
set_option maxHeartbeats 4000000 in
theorem s_toModule : HSound Tryz.prog 39 (callM [] true hToMo) := by
  refine callM_sound cx_s_toModule_ok mixed Tryz.func39 rfl fun args hl K hp => ?_
  unfold hToMo at hp
  split at hp
  · rename_i a
    obtain ⟨m, ⟨b1, z1, b2, z2, b3, z3, b4, z4, b5, z5, b6, z6, rfl⟩, hb, hp⟩ := hp
    obtain ⟨g0, g1, g2, g3, g4, g5, g6, g7, g8, g9⟩ := hb
    refine Exists.intro m.text (And.intro rfl (And.intro g1 ?_))
    refine Exists.intro m.banks (And.intro rfl (And.intro g3 (And.intro g2 ?_)))
    refine Exists.intro m.data (And.intro rfl (And.intro g4 ?_))
    refine Exists.intro m.rels (And.intro rfl (And.intro g5 ?_))
    refine Exists.intro m.imps (And.intro rfl (And.intro g6 ?_))
    refine Exists.intro m.exps (And.intro rfl (And.intro g8 ?_))
    refine And.intro (closed_Int _) ?_
    refine And.intro (closed_IntS _) ?_
    refine And.intro (closed_bytes _) ?_
    refine And.intro (closed_Int _) ?_
    refine And.intro (closed_String _) ?_
    refine And.intro (closed_Export _) ?_
    exact hp
  · exact hp.elim

def hEqMo : CH := fun args hl K => match args, hl with
  | [a, b], [] => ∃ m, MoV a m ∧ MoV b m ∧ smMo m ∧ K (.v (.bool true)) []
  | _, _ => False
def cx_s_eqModule : Ctx := mkC [(47, callM [] true hEqInt), (104, callM [] true hEqIntS), (54, callM [] true hEqB), (105, callM [] true hEqString), (106, callM [] true hEqExport)]
theorem cx_s_eqModule_ok : CtxOk Tryz.prog cx_s_eqModule := mkC_ok (mem1 ⟨s_eqIntS, fnOk Tryz.func47 rfl rfl⟩ (mem1 ⟨s_eqIntSS, fnOk Tryz.func104 rfl rfl⟩ (mem1 ⟨s_eqByteS, fnOk Tryz.func54 rfl rfl⟩ (mem1 ⟨s_eqStringS, fnOk Tryz.func105 rfl rfl⟩ (mem1 ⟨s_eqExportS, fnOk Tryz.func106 rfl rfl⟩ mem0)))))
set_option maxRecDepth 100000 in
set_option pp.maxSteps 1500 in
set_option maxHeartbeats 4000000 in
theorem s_eqModule : HSound Tryz.prog 45 (callM [] true hEqMo) := by
  refine callM_sound cx_s_eqModule_ok mixed Tryz.func45 rfl fun args hl K hp => ?_
  unfold hEqMo at hp
  split at hp
  · rename_i a b
    obtain ⟨m, ⟨b1, z1, b2, z2, b3, z3, b4, z4, b5, z5, b6, z6, rfl⟩, ⟨b1', z1', b2', z2', b3', z3', b4', z4', b5', z5', b6', z6', rfl⟩, hb, hp⟩ := hp
    obtain ⟨g0, g1, g2, g3, g4, g5, g6, g7, g8, g9⟩ := hb
    refine And.intro (fun h => ?_) (fun h => ?_)
    · exfalso; simp at h
    refine Exists.intro m.text (And.intro rfl (And.intro rfl (And.intro g1 ?_)))
    refine And.intro (fun h => ?_) (fun h => ?_)
    · cases h
    refine Exists.intro m.banks (And.intro rfl (And.intro rfl (And.intro g3 (And.intro g2 ?_))))
    refine And.intro (fun h => ?_) (fun h => ?_)
    · cases h
    refine Exists.intro m.data (Exists.intro m.data (And.intro rfl (And.intro rfl (And.intro g4 ?_))))
    refine And.intro (fun h => ?_) (fun h => ?_)
    · exfalso; simp at h
    refine And.intro (fun h => ?_) (fun h => ?_)
    · exfalso; simp at h
    refine Exists.intro m.rels (And.intro rfl (And.intro rfl (And.intro g5 ?_)))
    refine And.intro (fun h => ?_) (fun h => ?_)
    · cases h
    refine Exists.intro m.imps (And.intro rfl (And.intro rfl (And.intro g6 ?_)))
    refine And.intro (fun h => ?_) (fun h => ?_)
    · cases h
    refine Exists.intro m.exps (And.intro rfl (And.intro rfl (And.intro g8 ?_)))
    refine And.intro (fun h => ?_) (fun h => ?_)
    · cases h
    exact hp
  · exact hp.elim
/-! ### Module: the size of a slice with what its elements hold (printed by gen/szl.py) -/

def wtModule (bs : List Mo) : Nat := bs.length + (bs.map wtMo).sum
def hSzModule : CH := fun args hl K => match args, hl with
  | [.imm _ _ 8 l, .v (.int .i64 n)], [] => ∃ bs : List Mo, l = bs.map moC ∧ (∀ b ∈ bs, bigMo b) ∧ bs.length ≤ maxLen ∧ 0 ≤ n ∧ n ≤ 1048576 ∧ K (.v (.int .i64 (szB n (wtModule bs)))) []
  | _, _ => False
def cx_s_szModuleS : Ctx := mkC [(33, callM [] true hSzMo)]
theorem cx_s_szModuleS_ok : CtxOk Tryz.prog cx_s_szModuleS := mkC_ok (mem1 ⟨s_szModule, fnOk Tryz.func33 rfl rfl⟩ mem0)
set_option maxRecDepth 100000 in
set_option pp.maxSteps 1500 in
theorem s_szModuleS : HSound Tryz.prog 7 (callM [] true hSzModule) := by
  refine callM_sound cx_s_szModuleS_ok mixed Tryz.func7 rfl fun args hl K hp => ?_
  unfold hSzModule at hp
  split at hp
  · rename_i t z l n
    obtain ⟨bs, rfl, hbig, hlen, hn0, hn1, hp⟩ := hp
    have hml : maxLen ≤ 9223372036854775807 := by decide
    have hw : IntKind.i64.wrap (n - ((bs.map moC).length : Int)) = n - bs.length := by rw [List.length_map]; exact wrap64 (by omega)
    refine And.intro (fun h1 => ?_) (fun h1 => ?_)
    · have h1 := of_decide_eq_true h1
      rw [hw] at h1
      refine fin_i hp ?_
      rw [szB_neg (by simp only [wtModule]; omega)]
    have h1 := of_decide_eq_false h1
    refine Exists.intro false (Exists.intro [0, 1, 5] (Exists.intro (fun m vs h => ∃ i : Nat, i ≤ bs.length ∧ m = bs.length - i ∧ 0 ≤ n - bs.length - ((bs.take i).map wtMo).sum ∧ vs = [.imm t z 8 (bs.map moC), .v (.int .i64 (n - bs.length - ((bs.take i).map wtMo).sum)), .v (.int .i64 i)] ∧ h = []) (And.intro ?_ ?_)))
    · refine Exists.intro bs.length ?_
      refine ⟨0, by omega, rfl, ?_, ?_, rfl⟩
      · rw [hw] at h1; simp; omega
      · rw [hw]; simp
    · rw [hw] at h1
      clear hw
      intro m vs h hI
      obtain ⟨i, hi, rfl, hs0, rfl, rfl⟩ := hI
      refine And.intro (fun h2 => ?_) (fun h2 => ?_)
      · simp only [decide_eq_true_eq, List.length_map] at h2
        have hlt : i < bs.length := by omega
        obtain ⟨b, hbi⟩ : ∃ b, bs[i]? = some b := ⟨_, List.getElem?_eq_getElem hlt⟩
        have hbb := hbig b (List.mem_of_getElem? hbi)
        have hst := sum_take (f := wtMo) hbi
        have hle := sum_take_le wtMo bs (i + 1)
        generalize hS : ((bs.take i).map wtMo).sum = S at *
        generalize hS1 : ((bs.take (i + 1)).map wtMo).sum = S1 at *
        have hlt2 : i < (bs.length : Int) := by omega
        refine Exists.intro i (And.intro rfl (Exists.intro (moC b) (And.intro (get_map hbi) ?_)))
        refine Exists.intro b (And.intro ⟨_, _, _, _, _, _, _, _, _, _, _, _, rfl⟩ (And.intro hbb (And.intro hs0 (And.intro (by omega) ?_))))
        refine And.intro (fun h3 => ?_) (fun h3 => ?_)
        · have h3 := of_decide_eq_true h3
          refine fin_i hp ?_
          try rw [List.length_map] at h3
          have h3 : n - bs.length - (S : Int) < (wtMo b : Nat) := szB_lt hs0 h3
          rw [szB_neg (by simp only [wtModule]; omega)]
        · have h3 := of_decide_eq_false h3
          refine Exists.intro (bs.length - (i + 1)) (And.intro (by omega) ?_)
          try rw [List.length_map] at h3
          have h3 : (wtMo b : Nat) ≤ n - bs.length - (S : Int) := szB_ge hs0 h3
          refine ⟨i + 1, by omega, rfl, ?_, ?_, rfl⟩
          · rw [hS1]; omega
          · rw [wrap_succ hlt (by omega), hS1, show n - (bs.length : Int) - (S1 : Int) = n - bs.length - S - (wtMo b : Nat) by omega]
            (try rw [List.length_map])
            rw [← szB_pos h3]
            try rfl
      · simp only [decide_eq_false_iff_not, List.length_map] at h2
        have : i = bs.length := by omega
        subst this
        rw [List.take_length] at hs0 ⊢
        refine fin_i hp ?_
        rw [szB_pos (by simp only [wtModule]; omega)]
        simp only [wtModule]
        omega
  · exact hp.elim

/-! ### Module: slices whose elements own slices: laid, compared (printed by gen/lists.py) -/

theorem closed_Module (bs : List Mo) : ClosedL (bs.map moC) := by
  intro e he x hx
  obtain ⟨b, _, rfl⟩ := List.mem_map.1 he
  simp [moC] at hx
  rcases hx with rfl | rfl | rfl | rfl | rfl | rfl | rfl | rfl <;> rfl
theorem closed_fillModule (bs : List Mo) (i k : Nat) : ClosedL ((bs.take i).map moC ++ List.replicate k (moC zeroMo)) := by
  refine closed_app (closed_Module _) ?_
  have := closed_Module (List.replicate k zeroMo)
  simpa using this
def hToModule : CH := fun args hl K => match args, hl with
  | [.imm _ _ 8 l], [] => ∃ bs : List Mo, l = bs.map moC ∧ (∀ b ∈ bs, smMo b) ∧ bs.length ≤ 1048576 ∧ K (.slc 0 0 bs.length false) [.lst 8 (bs.map moC)]
  | _, _ => False
def cx_s_toModuleS : Ctx := mkC [(39, callM [] true hToMo)]
theorem cx_s_toModuleS_ok : CtxOk Tryz.prog cx_s_toModuleS := mkC_ok (mem1 ⟨s_toModule, fnOk Tryz.func39 rfl rfl⟩ mem0)
set_option maxRecDepth 100000 in
set_option pp.maxSteps 1500 in
set_option maxHeartbeats 4000000 in
theorem s_toModuleS : HSound Tryz.prog 10 (callM [] true hToModule) := by
  refine callM_sound cx_s_toModuleS_ok mixed Tryz.func10 rfl fun args hl K hp => ?_
  unfold hToModule at hp
  split at hp
  · rename_i t z l
    obtain ⟨bs, rfl, hsm, hb, hp⟩ := hp
    refine Or.inl ?_
    refine Exists.intro bs.length (And.intro (by simp) (And.intro (by simp) (And.intro (by simp only; omega) ?_)))
    refine Exists.intro true (Exists.intro [0, 3, 4] (Exists.intro (fun m vs h => ∃ i : Nat, i ≤ bs.length ∧ m = bs.length - i ∧ vs = [.imm t z 8 (bs.map moC), .slc 0 0 bs.length false, .v (.int .i64 i)] ∧ h = [.lst 8 ((bs.take i).map moC ++ List.replicate (bs.length - i) (moC zeroMo))]) (And.intro ?_ ?_)))
    · refine Exists.intro [] ?_
      refine And.intro (closed_fillModule bs 0 bs.length) ?_
      refine Exists.intro bs.length ?_
      exact ⟨0, by omega, rfl, rfl, rfl⟩
    · intro m vs h hI
      obtain ⟨i, hi, rfl, rfl, rfl⟩ := hI
      refine And.intro (fun h1 => ?_) (fun h1 => ?_)
      · simp only [decide_eq_true_eq, List.length_map] at h1
        have hlt : i < bs.length := by omega
        obtain ⟨b, hbi⟩ : ∃ b, bs[i]? = some b := ⟨_, List.getElem?_eq_getElem hlt⟩
        have hbb := hsm b (List.mem_of_getElem? hbi)
        have hst := fill_step moC (moC zeroMo) bs i b hbi
        have hcl := closed_fillModule bs (i + 1) (bs.length - (i + 1))
        have hg : ((bs.take i).map moC ++ List.replicate (bs.length - i) (moC zeroMo))[0 + i]? = some (moC zeroMo) := by rw [Nat.zero_add, List.getElem?_append_right (by simp; omega), List.getElem?_replicate, if_pos (by simp; omega)]
        rw [← hst] at hcl
        generalize hL : (bs.take i).map moC ++ List.replicate (bs.length - i) (moC zeroMo) = L at *
        refine Exists.intro i (And.intro rfl (Exists.intro (moC b) (And.intro (get_map hbi) ?_)))
        refine Exists.intro b (And.intro ⟨_, _, _, _, _, _, _, _, _, _, _, _, rfl⟩ (And.intro hbb ?_))
        refine Exists.intro i (And.intro rfl (And.intro hlt ?_))
        repeat' (first | refine Exists.intro _ (And.intro (lendL _ _) (And.intro (List.length_map _) (And.intro (by first | exact closed_bytes _ | exact closed_Int _ | exact closed_String _ | exact closed_Export _ | exact closed_IntS _ | exact closed_Target _ | exact closed_TargetS _) ?_))))
        refine Exists.intro (moC zeroMo) (And.intro hg (And.intro (by decide) ?_))
        refine Exists.intro [] ?_
        refine And.intro (by rw [Nat.zero_add]; exact hcl) ?_
        refine Exists.intro (bs.length - (i + 1)) (And.intro (by omega) ?_)
        refine ⟨i + 1, by omega, rfl, ?_, ?_⟩
        · rw [← wrap_succ hlt (by omega)]
        · rw [← hst, Nat.zero_add]
          rfl
      · simp only [decide_eq_false_iff_not, List.length_map] at h1
        have : i = bs.length := by omega
        subst this
        have e : (bs.take bs.length).map moC ++ List.replicate (bs.length - bs.length) (moC zeroMo) = bs.map moC := by simp
        rw [← e] at hp
        refine And.intro (e ▸ closed_Module bs) ?_
        exact hp
  · exact hp.elim

def hEqModule : CH := fun args hl K => match args, hl with
  | [.imm _ _ 8 l, .imm _ _ 8 r], [] => ∃ bs : List Mo, l = bs.map moC ∧ r = bs.map moC ∧ (∀ b ∈ bs, smMo b) ∧ bs.length ≤ 1048576 ∧ K (.v (.bool true)) []
  | _, _ => False
def cx_s_eqModuleS : Ctx := mkC [(45, callM [] true hEqMo)]
theorem cx_s_eqModuleS_ok : CtxOk Tryz.prog cx_s_eqModuleS := mkC_ok (mem1 ⟨s_eqModule, fnOk Tryz.func45 rfl rfl⟩ mem0)
set_option maxRecDepth 100000 in
set_option pp.maxSteps 1500 in
set_option maxHeartbeats 4000000 in
theorem s_eqModuleS : HSound Tryz.prog 13 (callM [] true hEqModule) := by
  refine callM_sound cx_s_eqModuleS_ok mixed Tryz.func13 rfl fun args hl K hp => ?_
  unfold hEqModule at hp
  split at hp
  · rename_i t z l t' z' r
    obtain ⟨bs, rfl, rfl, hsm, hb, hp⟩ := hp
    refine And.intro (fun h1 => ?_) (fun h1 => ?_)
    · simp at h1
    clear h1
    refine Exists.intro true (Exists.intro [0, 1, 5] (Exists.intro (fun m vs h => ∃ i : Nat, i ≤ bs.length ∧ m = bs.length - i ∧ vs = [.imm t z 8 (bs.map moC), .imm t' z' 8 (bs.map moC), .v (.int .i64 i)] ∧ h = []) (And.intro ?_ ?_)))
    · refine Exists.intro [] (Exists.intro bs.length ?_)
      exact ⟨0, by omega, rfl, rfl, rfl⟩
    · intro m vs h hI
      obtain ⟨i, hi, rfl, rfl, rfl⟩ := hI
      refine And.intro (fun h1 => ?_) (fun h1 => ?_)
      · simp only [decide_eq_true_eq, List.length_map] at h1
        have hlt : i < bs.length := by omega
        obtain ⟨b, hbi⟩ : ∃ b, bs[i]? = some b := ⟨_, List.getElem?_eq_getElem hlt⟩
        have hbb := hsm b (List.mem_of_getElem? hbi)
        refine Or.inl ?_
        refine And.intro (show wfB _ = true from by kernel_rfl) ?_
        refine Exists.intro i (And.intro rfl (Exists.intro (moC b) (And.intro (get_map hbi) ?_)))
        refine Exists.intro i (And.intro rfl (Exists.intro (moC b) (And.intro (get_map hbi) ?_)))
        apply HeldC.intro
        · refine Exists.intro b ?_; refine And.intro ⟨_, _, _, _, _, _, _, _, _, _, _, _, rfl⟩ ?_; refine And.intro ⟨_, _, _, _, _, _, _, _, _, _, _, _, rfl⟩ ?_; refine And.intro hbb ?_
          exact And.intro rfl rfl
        repeat' (first
          | refine And.intro (fun h1 => ?_) (fun h1 => ?_)
          | refine And.intro (Exists.intro i (And.intro rfl (Exists.intro (moC b) (And.intro (get_map hbi) (And.intro rfl rfl))))) ?_
          | refine And.intro (And.intro rfl rfl) ?_)
        · cases h1
        · refine Exists.intro [] (Exists.intro (bs.length - (i + 1)) (And.intro (by omega) ?_))
          exact ⟨i + 1, by omega, rfl, by rw [wrap_succ hlt (by omega)], rfl⟩
      · exact hp
  · exact hp.elim

end Go.Proofs.YtbfjkjdbdejnmaaGreat.Ab

/- Names: a name, a name and a dot and a name; where the dot is. No condition. -/
namespace Go.Proofs.YtbfjkjdbdejnmaaGreat.Ab
set_option linter.unusedVariables false
set_option linter.unusedSimpArgs false

/-! ### The library's search for a byte -/

set_option maxRecDepth 100000 in
theorem calls_IndexByte (s : ByteArray) (c : Int) (w : World) : Calls Tryz.prog 247 #[.string s, .int .u8 c] w fun e w' => e = .returned (.int .i64 (Lib.indexByte s.data.toList c.toNat.toUInt8)) ∧ w' = w := by
  go_enter Tryz.func247, Tryz.ntmps247
  go_wp2
  rw [run_callFunc_extern Tryz.func251 (by kernel_rfl) (by kernel_rfl) (by kernel_rfl) (e := Extern.BytealgIndexByte.indexByte) (by kernel_rfl), Lib.run_indexByteString]
  simp only [Result.andThen]
  rw [Oper.upon_value]
  go_wp2
  go_ret
  exact ⟨rfl, rfl⟩
def hIdxB : Handler := fun args h K => match args with
  | [.v (.string s), .v (.int .u8 c)] => K (.v (.int .i64 (Lib.indexByte s.data.toList c.toNat.toUInt8))) h
  | _ => False
theorem s_IndexByte : HSound Tryz.prog 247 (hIdxB) := by
  intro E G S F h w args vs K hg hl hv hp
  unfold hIdxB at hp
  split at hp
  · rename_i s c
    obtain ⟨x, y, rfl⟩ : ∃ x y, vs = [x, y] := by
      match vs, hl with
      | [x, y], _ => exact ⟨x, y, rfl⟩
    have h1 := hv 0 _ rfl
    have h2 := hv 1 _ rfl
    simp only [List.getD_cons_zero, List.getD_cons_succ] at h1 h2
    have e1 : x = .string s := (VR.v_inv h1).1
    have e2 : y = .int .u8 c := (VR.v_inv h2).1
    subst e1 e2
    refine (calls_IndexByte s c w).mono ?_
    rintro e w' ⟨rfl, rfl⟩
    exact ⟨_, h, G, S, F, hp, hg, Ext.refl _ _ _ _, .inl ⟨_, rfl, vr_int _ _ _ _ _ _⟩⟩
  · exact hp.elim

/-! ### Where the dot is -/

def dotI (s : ByteArray) : Int := Lib.indexByte s.data.toList 46
theorem dotI_some {s : ByteArray} {i : Nat} (h : s.data.toList[i]? = some 46) (hn : ∀ k < i, s.data.toList[k]? ≠ some 46) : dotI s = i := by
  have hg := Lib.indexByte_ge s.data.toList 46
  unfold dotI
  rcases Int.lt_or_le (Lib.indexByte s.data.toList 46) 0 with q | q
  · exact absurd h (Lib.indexByte_none (by omega) i)
  · obtain ⟨o, ho⟩ := Int.eq_ofNat_of_zero_le q
    obtain ⟨h1, h2⟩ := Lib.indexByte_some ho
    rw [ho]
    rcases Nat.lt_trichotomy o i with r | r | r
    · exact absurd h1 (hn o r)
    · rw [r]
    · exact absurd h (h2 i r)
theorem dotI_none {s : ByteArray} (hn : ∀ k : Nat, s.data.toList[k]? ≠ some 46) : dotI s = -1 := by
  have hg := Lib.indexByte_ge s.data.toList 46
  unfold dotI
  rcases Int.lt_or_le (Lib.indexByte s.data.toList 46) 0 with q | q
  · omega
  · obtain ⟨o, ho⟩ := Int.eq_ofNat_of_zero_le q
    exact absurd (Lib.indexByte_some ho).1 (hn o)
theorem dotI_lt {s : ByteArray} {p : Nat} (h : dotI s = p) : p < s.size ∧ s.data.toList[p]? = some 46 ∧ ∀ k < p, s.data.toList[k]? ≠ some 46 := by
  obtain ⟨h1, h2⟩ := Lib.indexByte_some h
  refine ⟨?_, h1, h2⟩
  have := (List.getElem?_eq_some_iff.1 h1).1
  simpa using this
def azB (b : UInt8) : Bool := decide (97 ≤ b.toNat ∧ b.toNat ≤ 122)
def nameOk (s : ByteArray) : Bool := s.data.toList.all azB && decide (1 ≤ s.size ∧ s.size ≤ 12)
def fullOk (s : ByteArray) : Bool := decide (0 ≤ dotI s) && nameOk (s.extract 0 (dotI s).toNat) && nameOk (s.extract ((dotI s).toNat + 1) s.size)
def headS (s : ByteArray) : ByteArray := s.extract 0 (dotI s).toNat
def tailS (s : ByteArray) : ByteArray := s.extract ((dotI s).toNat + 1) s.size
def strD : ByteArray := ⟨#[46]⟩

def hDot : CH := fun args hl K => match args, hl with
  | [.v (.string s)], [] => s.size ≤ 1048576 ∧ K (.v (.int .i64 (dotI s))) []
  | _, _ => False
def cx_s_l4Dot : Ctx := mkC []
theorem cx_s_l4Dot_ok : CtxOk Tryz.prog cx_s_l4Dot := cx0_ok
set_option maxRecDepth 100000 in
set_option pp.maxSteps 1500 in
theorem s_l4Dot : HSound Tryz.prog 226 (callM [] false hDot) := by
  refine callM_sound cx_s_l4Dot_ok mixed Tryz.func226 rfl fun args hl K hp => ?_
  unfold hDot at hp
  split at hp
  · rename_i s
    obtain ⟨hs, hp⟩ := hp
    refine Exists.intro false (Exists.intro [0, 3] (Exists.intro (fun m vs h => ∃ i : Nat, i ≤ s.size ∧ m = s.size - i ∧ (∀ k < i, s.data.toList[k]? ≠ some 46) ∧ vs = [.v (.string s), .v (.int .i64 i)] ∧ h = []) (And.intro ?_ ?_)))
    · refine Exists.intro s.size ?_
      exact ⟨0, by omega, rfl, fun k hk => by omega, rfl, rfl⟩
    · intro m vs h hI
      obtain ⟨i, hi, rfl, hall, rfl, rfl⟩ := hI
      refine And.intro (fun h1 => ?_) (fun h1 => ?_)
      · have h1 := of_decide_eq_true h1
        have hlt : i < s.size := by omega
        obtain ⟨b, hb⟩ : ∃ b, s.data[i]? = some b := ⟨_, Array.getElem?_eq_getElem hlt⟩
        have hbl : s.data.toList[i]? = some b := by simpa using hb
        refine Exists.intro i (And.intro rfl (Exists.intro b (And.intro hb ?_)))
        refine And.intro (fun h2 => ?_) (fun h2 => ?_)
        · have h2 : (b.toNat : Int) = 46 := by simpa using h2
          have hb46 : b = 46 := UInt8.toNat_inj.1 (by simpa using (by omega : b.toNat = 46))
          subst hb46
          exact fin_i hp (dotI_some hbl hall)
        · have h2 : ¬ (b.toNat : Int) = 46 := by simpa using h2
          refine Exists.intro (s.size - (i + 1)) (And.intro (by omega) ⟨i + 1, by omega, rfl, fun k hk => ?_, ?_, rfl⟩)
          · rcases Nat.lt_or_ge k i with q | q
            · exact hall k q
            · have : k = i := by omega
              subst this
              rw [hbl]
              intro e
              cases e
              exact h2 rfl
          · rw [wrap_succ hlt (by omega)]
      · have h1 := of_decide_eq_false h1
        refine fin_i hp (dotI_none fun k => ?_)
        rcases Nat.lt_or_ge k i with q | q
        · exact hall k q
        · rw [List.getElem?_eq_none (by simpa using (by omega : s.size ≤ k))]
          simp
  · exact hp.elim

def hName : CH := fun args hl K => match args, hl with
  | [.v (.string s)], [] => s.size ≤ 1048576 ∧ K (.v (.bool (nameOk s))) []
  | _, _ => False
theorem nameOk_bad {s : ByteArray} {i : Nat} {b : UInt8} (h : s.data.toList[i]? = some b) (hb : (b.toNat : Int) < 97 ∨ 122 < (b.toNat : Int)) : nameOk s = false := by
  have : s.data.toList.all azB = false := by
    rw [List.all_eq_false]
    exact ⟨b, List.mem_of_getElem? h, by simp [azB]; omega⟩
  simp [nameOk, this]
theorem low_step {s : ByteArray} {i : Nat} {b : UInt8} (h : s.data.toList[i]? = some b) (hall : ∀ b ∈ s.data.toList.take i, azB b = true) (h1 : ¬ (b.toNat : Int) < 97) (h2 : ¬ 122 < (b.toNat : Int)) : ∀ b ∈ s.data.toList.take (i + 1), azB b = true := by
  intro c hc
  rw [List.take_add_one, h] at hc
  simp at hc
  rcases hc with hc | rfl
  · exact hall c (by simpa using hc)
  · simp [azB]
    omega
def cx_s_l4NameOk : Ctx := mkC []
theorem cx_s_l4NameOk_ok : CtxOk Tryz.prog cx_s_l4NameOk := cx0_ok
set_option maxRecDepth 100000 in
set_option pp.maxSteps 1500 in
theorem s_l4NameOk : HSound Tryz.prog 221 (callM [] false hName) := by
  refine callM_sound cx_s_l4NameOk_ok mixed Tryz.func221 rfl fun args hl K hp => ?_
  unfold hName at hp
  split at hp
  · rename_i s
    obtain ⟨hs, hp⟩ := hp
    refine Exists.intro false (Exists.intro [0, 3] (Exists.intro (fun m vs h => ∃ i : Nat, i ≤ s.size ∧ m = s.size - i ∧ (∀ b ∈ s.data.toList.take i, azB b = true) ∧ vs = [.v (.string s), .v (.int .i64 i)] ∧ h = []) (And.intro ?_ ?_)))
    · refine Exists.intro s.size ?_
      exact ⟨0, by omega, rfl, fun b hb => by simp at hb, rfl, rfl⟩
    · intro m vs h hI
      obtain ⟨i, hi, rfl, hall, rfl, rfl⟩ := hI
      refine And.intro (fun h1 => ?_) (fun h1 => ?_)
      · have h1 := of_decide_eq_true h1
        have hlt : i < s.size := by omega
        obtain ⟨b, hb⟩ : ∃ b, s.data[i]? = some b := ⟨_, Array.getElem?_eq_getElem hlt⟩
        have hbl : s.data.toList[i]? = some b := by simpa using hb
        refine Exists.intro i (And.intro rfl (Exists.intro b (And.intro hb ?_)))
        refine And.intro (fun h2 => ?_) (fun h2 => ?_)
        · refine And.intro (fun h3 => ?_) (fun h3 => by cases h3)
          refine And.intro (fun h4 => ?_) (fun h4 => by cases h4)
          exact fin_b hp (nameOk_bad hbl (.inl (of_decide_eq_true h2)))
        · have h2 := of_decide_eq_false h2
          refine Exists.intro i (And.intro rfl (Exists.intro b (And.intro hb ?_)))
          refine And.intro (fun h3 => by cases h3) (fun h3 => ?_)
          refine And.intro (fun h4 => ?_) (fun h4 => ?_)
          · exact fin_b hp (nameOk_bad hbl (.inr (of_decide_eq_true h4)))
          · have h4 := of_decide_eq_false h4
            refine Exists.intro (s.size - (i + 1)) (And.intro (by omega) ⟨i + 1, by omega, rfl, low_step hbl hall h2 h4, ?_, rfl⟩)
            rw [wrap_succ hlt (by omega)]
      · have h1 := of_decide_eq_false h1
        rw [List.take_of_length_le (by simpa using (by omega : s.size ≤ i))] at hall
        have e : s.data.toList.all azB = true := List.all_eq_true.2 hall
        have e2 : nameOk s = decide (1 ≤ s.size ∧ s.size ≤ 12) := by simp only [nameOk, e, Bool.true_and]
        repeat' ((first | refine And.intro (fun h1 => ?_) (fun h1 => ?_) | refine And.intro (by decide) ?_ | refine And.intro (show wfB _ = true from by kernel_rfl) ?_ | refine And.intro (And.intro rfl rfl) ?_ | exact And.intro rfl rfl | apply HeldC.intro | exact AV.top | (apply HeldF.intro; refine Exists.intro _ (And.intro (by assumption) ?_); refine And.intro (by decide) ?_; exact And.intro rfl rfl) | (refine And.intro (by (refine Exists.intro _ (And.intro (by assumption) ?_); refine And.intro (by decide) ?_; exact And.intro rfl rfl)) ?_) | refine Or.inl ?_) <;> try cases h1)
        all_goals refine fin_b hp ?_
        all_goals clear hp
        all_goals rw [e2, Bool.eq_iff_iff]
        all_goals simp only [decide_eq_true_eq, decide_eq_false_iff_not, reduceCtorEq, iff_false, iff_true] at *
        all_goals omega
  · exact hp.elim
def cx_s_isName : Ctx := mkC []
theorem cx_s_isName_ok : CtxOk Tryz.prog cx_s_isName := cx0_ok
set_option maxRecDepth 100000 in
set_option pp.maxSteps 1500 in
theorem s_isName : HSound Tryz.prog 197 (callM [] false hName) := by
  refine callM_sound cx_s_isName_ok mixed Tryz.func197 rfl fun args hl K hp => ?_
  unfold hName at hp
  split at hp
  · rename_i s
    obtain ⟨hs, hp⟩ := hp
    have key : decide (1 ≤ s.size ∧ s.size ≤ 12) = false → nameOk s = false := fun h => by simp only [nameOk, h, Bool.and_false]
    repeat' ((first | refine And.intro (fun h1 => ?_) (fun h1 => ?_) | refine And.intro (by decide) ?_ | refine And.intro (show wfB _ = true from by kernel_rfl) ?_ | refine And.intro (And.intro rfl rfl) ?_ | exact And.intro rfl rfl | apply HeldC.intro | exact AV.top | (apply HeldF.intro; refine Exists.intro _ (And.intro (by assumption) ?_); refine And.intro (by decide) ?_; exact And.intro rfl rfl) | (refine And.intro (by (refine Exists.intro _ (And.intro (by assumption) ?_); refine And.intro (by decide) ?_; exact And.intro rfl rfl)) ?_) | refine Or.inl ?_) <;> try cases h1)
    · exact fin_b hp (key (by simp only [decide_eq_true_eq, decide_eq_false_iff_not] at *; omega))
    · exact fin_b hp (key (by simp only [decide_eq_true_eq, decide_eq_false_iff_not] at *; omega))
    rename_i q1
    have q1 := of_decide_eq_false q1
    have q2 := of_decide_eq_false h1
    clear h1
    refine Exists.intro false (Exists.intro [0, 13, 14] (Exists.intro (fun m vs h => ∃ i : Nat, i ≤ s.size ∧ m = s.size - i ∧ (∀ b ∈ s.data.toList.take i, azB b = true) ∧ vs = [.v (.string s), .v (.int .i64 s.size), .v (.int .i64 i)] ∧ h = []) (And.intro ?_ ?_)))
    · refine Exists.intro s.size ?_
      exact ⟨0, by omega, rfl, fun b hb => by simp at hb, rfl, rfl⟩
    · intro m vs h hI
      obtain ⟨i, hi, rfl, hall, rfl, rfl⟩ := hI
      refine And.intro (fun h1 => ?_) (fun h1 => ?_)
      · have h1 := of_decide_eq_true h1
        have hlt : i < s.size := by omega
        obtain ⟨b, hb⟩ : ∃ b, s.data[i]? = some b := ⟨_, Array.getElem?_eq_getElem hlt⟩
        have hbl : s.data.toList[i]? = some b := by simpa using hb
        refine Exists.intro i (And.intro rfl (Exists.intro b (And.intro hb ?_)))
        refine And.intro (fun h2 => ?_) (fun h2 => ?_)
        · refine And.intro (fun h3 => ?_) (fun h3 => by cases h3)
          refine And.intro (fun h4 => ?_) (fun h4 => by cases h4)
          exact fin_b hp (nameOk_bad hbl (.inl (of_decide_eq_true h2)))
        · have h2 := of_decide_eq_false h2
          refine Exists.intro i (And.intro rfl (Exists.intro b (And.intro hb ?_)))
          refine And.intro (fun h3 => by cases h3) (fun h3 => ?_)
          refine And.intro (fun h4 => ?_) (fun h4 => ?_)
          · exact fin_b hp (nameOk_bad hbl (.inr (of_decide_eq_true h4)))
          · have h4 := of_decide_eq_false h4
            refine Exists.intro (s.size - (i + 1)) (And.intro (by omega) ⟨i + 1, by omega, rfl, low_step hbl hall h2 h4, ?_, rfl⟩)
            rw [wrap_succ hlt (by omega)]
      · have h1 := of_decide_eq_false h1
        rw [List.take_of_length_le (by simpa using (by omega : s.size ≤ i))] at hall
        have e : s.data.toList.all azB = true := List.all_eq_true.2 hall
        refine fin_b hp ?_
        simp only [nameOk, e, Bool.true_and]
        rw [decide_eq_true (by omega)]
  · exact hp.elim

def hFull : CH := fun args hl K => match args, hl with
  | [.v (.string s)], [] => s.size ≤ 1048576 ∧ K (.v (.bool (fullOk s))) []
  | _, _ => False
def cx_s_l4FullOk : Ctx := mkC [(226, callM [] false hDot), (221, callM [] false hName)]
theorem cx_s_l4FullOk_ok : CtxOk Tryz.prog cx_s_l4FullOk := mkC_ok (mem1 ⟨s_l4Dot, fnOk Tryz.func226 rfl rfl⟩ (mem1 ⟨s_l4NameOk, fnOk Tryz.func221 rfl rfl⟩ mem0))
set_option maxRecDepth 100000 in
set_option pp.maxSteps 1500 in
theorem s_l4FullOk : HSound Tryz.prog 224 (callM [] false hFull) := by
  refine callM_sound cx_s_l4FullOk_ok mixed Tryz.func224 rfl fun args hl K hp => ?_
  unfold hFull at hp
  split at hp
  · rename_i s
    obtain ⟨hs, hp⟩ := hp
    refine And.intro hs ?_
    refine And.intro (fun h1 => ?_) (fun h1 => ?_)
    · have h1 := of_decide_eq_true h1
      obtain ⟨p, hpq⟩ := Int.eq_ofNat_of_zero_le h1
      obtain ⟨hp1, hp2, hp3⟩ := dotI_lt hpq
      have e0 : (dotI s).toNat = p := by omega
      have ef : fullOk s = (nameOk (s.extract 0 p) && nameOk (s.extract (p + 1) s.size)) := by
        simp only [fullOk, e0, decide_eq_true h1, Bool.true_and]
      refine Exists.intro p (And.intro hpq ?_)
      refine And.intro (by omega) (And.intro (by omega) ?_)
      refine And.intro (by rw [ByteArray.size_extract]; omega) ?_
      refine And.intro (fun h3 => ?_) (fun h3 => by cases h3)
      refine And.intro (fun h4 => ?_) (fun h4 => ?_)
      · refine Exists.intro (p + 1) (And.intro (by rw [hpq, wrap64 (by omega)]; omega) ?_)
        refine And.intro (by omega) (And.intro (by omega) ?_)
        refine And.intro (by rw [ByteArray.size_extract]; omega) ?_
        refine And.intro (fun h5 => ?_) (fun h5 => by cases h5)
        refine fin_b hp ?_
        rw [ef, h4]
        rfl
      · refine And.intro (fun h5 => by cases h5) (fun h5 => ?_)
        refine fin_b hp ?_
        rw [ef, h4]
        rfl
    · have h1 := of_decide_eq_false h1
      have ef : fullOk s = false := by
        simp only [fullOk, decide_eq_false h1, Bool.false_and]
      repeat' ((first | refine And.intro (fun h1 => ?_) (fun h1 => ?_) | refine And.intro (by decide) ?_ | refine And.intro (show wfB _ = true from by kernel_rfl) ?_ | refine And.intro (And.intro rfl rfl) ?_ | exact And.intro rfl rfl | apply HeldC.intro | exact AV.top | (apply HeldF.intro; refine Exists.intro _ (And.intro (by assumption) ?_); refine And.intro (by decide) ?_; exact And.intro rfl rfl) | (refine And.intro (by (refine Exists.intro _ (And.intro (by assumption) ?_); refine And.intro (by decide) ?_; exact And.intro rfl rfl)) ?_) | refine Or.inl ?_) <;> try cases h1)
      all_goals exact fin_b hp ef
  · exact hp.elim

/-! ### The library's cut at a dot -/

def hIdx : CH := fun args hl K => match args, hl with
  | [.v (.string s), .v (.string t)], [] => t = strD ∧ s.size ≤ 1048576 ∧ K (.v (.int .i64 (dotI s))) []
  | _, _ => False
def cx_s_Index : Ctx := mkC [(247, hIdxB)]
theorem cx_s_Index_ok : CtxOk Tryz.prog cx_s_Index := mkC_ok (mem1 ⟨s_IndexByte, fnOk Tryz.func247 rfl rfl⟩ mem0)
set_option maxRecDepth 100000 in
set_option pp.maxSteps 1500 in
theorem s_Index : HSound Tryz.prog 244 (callM [] false hIdx) := by
  refine callM_sound cx_s_Index_ok mixed Tryz.func244 rfl fun args hl K hp => ?_
  unfold hIdx at hp
  split at hp
  · rename_i s t
    obtain ⟨rfl, hs, hp⟩ := hp
    refine And.intro (fun h1 => by cases h1) (fun h1 => ?_)
    refine And.intro (fun h1 => by cases h1) (fun h1 => ?_)
    refine And.intro (fun h1 => ?_) (fun h1 => ?_)
    · refine fin_i hp ?_
      have e : s.toList = strD.toList := (beq_iff_eq.1 h1).symm
      rw [ByteArray.toList_eq, ByteArray.toList_eq] at e
      unfold dotI
      rw [show s.data.toList = [46] from e]
      rfl
    · refine And.intro (fun h2 => ?_) (fun h2 => by cases h2)
      refine Exists.intro 0 (And.intro rfl (Exists.intro 46 (And.intro rfl ?_)))
      exact hp
  · exact hp.elim
def hCut : CH := fun args hl K => match args, hl with
  | [.v (.string s), .v (.string t)], [] => t = strD ∧ s.size ≤ 1048576 ∧ (0 ≤ dotI s → K (.tup [.v (.string (headS s)), .v (.string (tailS s)), .v (.bool true)]) []) ∧ (dotI s < 0 → K (.tup [.v (.string s), .v (.string .empty), .v (.bool false)]) [])
  | _, _ => False
def cx_s_SCut : Ctx := mkC [(244, callM [] false hIdx)]
theorem cx_s_SCut_ok : CtxOk Tryz.prog cx_s_SCut := mkC_ok (mem1 ⟨s_Index, fnOk Tryz.func244 rfl rfl⟩ mem0)
set_option maxRecDepth 100000 in
set_option pp.maxSteps 1500 in
theorem s_SCut : HSound Tryz.prog 237 (callM [] false hCut) := by
  refine callM_sound cx_s_SCut_ok mixed Tryz.func237 rfl fun args hl K hp => ?_
  unfold hCut at hp
  split at hp
  · rename_i s t
    obtain ⟨rfl, hs, hp1, hp2⟩ := hp
    refine And.intro rfl (And.intro hs ?_)
    refine And.intro (fun h1 => ?_) (fun h1 => ?_)
    · have h1 := of_decide_eq_true h1
      obtain ⟨p, hpq⟩ := Int.eq_ofNat_of_zero_le h1
      obtain ⟨q1, q2, q3⟩ := dotI_lt hpq
      have e0 : (dotI s).toNat = p := by omega
      have hp := hp1 h1
      simp only [headS, tailS, e0] at hp
      clear hp1 hp2
      refine And.intro (show Region.lexB _ _ = true from by kernel_rfl) ?_
      refine Exists.intro p (And.intro hpq ?_)
      refine And.intro (by omega) (And.intro (by omega) ?_)
      have hw : IntKind.i64.wrap (dotI s + (strD.size : Int)) = ((p + 1 : Nat) : Int) := by rw [show (strD.size : Int) = 1 from rfl, wrap64 (by omega)]; omega
      refine Exists.intro (p + 1) (And.intro hw ?_)
      refine And.intro (by omega) (And.intro (by omega) ?_)
      exact hp
    · have h1 := of_decide_eq_false h1
      exact hp2 (by omega)
  · exact hp.elim
def cx_s_strCut : Ctx := mkC [(237, callM [] false hCut)]
theorem cx_s_strCut_ok : CtxOk Tryz.prog cx_s_strCut := mkC_ok (mem1 ⟨s_SCut, fnOk Tryz.func237 rfl rfl⟩ mem0)
set_option maxRecDepth 100000 in
set_option pp.maxSteps 1500 in
theorem s_strCut : HSound Tryz.prog 231 (callM [] false hCut) := by
  refine callM_sound cx_s_strCut_ok mixed Tryz.func231 rfl fun args hl K hp => ?_
  unfold hCut at hp
  split at hp
  · rename_i s t
    obtain ⟨rfl, hs, hp1, hp2⟩ := hp
    refine And.intro rfl (And.intro hs (And.intro (fun h => ?_) (fun h => ?_)))
    · exact hp1 h
    · exact hp2 h
  · exact hp.elim
def hHalves : CH := fun args hl K => match args, hl with
  | [.v (.string s)], [] => s.size ≤ 1048576 ∧ ∀ a b, (fullOk s = true → a = headS s ∧ b = tailS s) → K (.tup [.v (.string a), .v (.string b), .v (.bool (fullOk s))]) []
  | _, _ => False
def cx_s_halves : Ctx := mkC [(231, callM [] false hCut), (197, callM [] false hName)]
theorem cx_s_halves_ok : CtxOk Tryz.prog cx_s_halves := mkC_ok (mem1 ⟨s_strCut, fnOk Tryz.func231 rfl rfl⟩ (mem1 ⟨s_isName, fnOk Tryz.func197 rfl rfl⟩ mem0))
set_option maxRecDepth 100000 in
set_option pp.maxSteps 1500 in
theorem s_halves : HSound Tryz.prog 199 (callM [] false hHalves) := by
  refine callM_sound cx_s_halves_ok mixed Tryz.func199 rfl fun args hl K hp => ?_
  unfold hHalves at hp
  split at hp
  · rename_i s
    obtain ⟨hs, hp⟩ := hp
    refine And.intro rfl (And.intro hs (And.intro (fun h1 => ?_) (fun h1 => ?_)))
    · obtain ⟨p, hpq⟩ := Int.eq_ofNat_of_zero_le h1
      obtain ⟨q1, q2, q3⟩ := dotI_lt hpq
      have e0 : (dotI s).toNat = p := by omega
      have ef : fullOk s = (nameOk (headS s) && nameOk (tailS s)) := by
        simp only [fullOk, headS, tailS, decide_eq_true h1, Bool.true_and]
      have hp := hp (headS s) (tailS s) (fun _ => ⟨rfl, rfl⟩)
      rw [ef] at hp
      have s1 : (headS s).size ≤ 1048576 := by simp only [headS, ByteArray.size_extract]; omega
      have s2 : (tailS s).size ≤ 1048576 := by simp only [tailS, ByteArray.size_extract]; omega
      generalize headS s = a at *
      generalize tailS s = b at *
      clear ef
      refine And.intro (fun h3 => ?_) (fun h3 => by cases h3)
      refine And.intro s1 ?_
      refine And.intro (fun h4 => ?_) (fun h4 => by cases h4)
      refine And.intro (fun h5 => ?_) (fun h5 => ?_)
      · refine And.intro s2 ?_
        refine And.intro (fun h6 => ?_) (fun h6 => by cases h6)
        rw [h5] at hp
        exact hp
      · refine And.intro (fun h6 => by cases h6) (fun h6 => ?_)
        rw [h5] at hp
        exact hp
    · have ef : fullOk s = false := by
        simp only [fullOk, decide_eq_false (by omega : ¬ 0 ≤ dotI s), Bool.false_and]
      have hp := hp s .empty (fun h => by rw [ef] at h; cases h)
      rw [ef] at hp
      repeat' ((first | refine And.intro (fun h1 => ?_) (fun h1 => ?_) | refine And.intro (by decide) ?_ | refine And.intro (show wfB _ = true from by kernel_rfl) ?_ | refine And.intro (And.intro rfl rfl) ?_ | exact And.intro rfl rfl | apply HeldC.intro | exact AV.top | (apply HeldF.intro; refine Exists.intro _ (And.intro (by assumption) ?_); refine And.intro (by decide) ?_; exact And.intro rfl rfl) | (refine And.intro (by (refine Exists.intro _ (And.intro (by assumption) ?_); refine And.intro (by decide) ?_; exact And.intro rfl rfl)) ?_) | refine Or.inl ?_) <;> try cases h1)
      all_goals exact hp
  · exact hp.elim
end Go.Proofs.YtbfjkjdbdejnmaaGreat.Ab

/- Resolve: the plain law: a table of names finds what a search finds. No condition. -/
namespace Go.Proofs.YtbfjkjdbdejnmaaGreat.Ab
set_option linter.unusedVariables false
set_option linter.unusedSimpArgs false

theorem ba_ext {a b : ByteArray} (h : a.data.toList = b.data.toList) : a = b := by
  cases a; cases b
  simp only at h
  congr
  exact Array.toList_inj.1 h
theorem ba_beq2 (a b : ByteArray) : (a.toList == b.toList) = decide (a = b) := by
  rw [ByteArray.toList_eq, ByteArray.toList_eq]
  rw [Bool.eq_iff_iff]
  simp only [beq_iff_eq, decide_eq_true_eq]
  exact ⟨ba_ext, fun h => by rw [h]⟩

/-- What is found: the module's place, and the export. -/
def findEx (b : ByteArray) (l : List Ex) : Option Ex := l.find? fun e => decide (e.n = b)
def firstM (ms : List Mo) (a : ByteArray) : Option Nat := ms.findIdx? fun m => decide (m.name = a)
def resG (ms : List Mo) (a b : ByteArray) : Option (Nat × Ex) := (firstM ms a).bind fun k => (ms[k]?).bind fun m => (findEx b m.exps).map fun e => (k, e)
def resolveF (ms : List Mo) (s : ByteArray) : Option (Nat × Ex) := match decide (ms.length ≤ 4) && fullOk s && ms.all fun m => decide (m.exps.length ≤ 16) with
  | true => resG ms (headS s) (tailS s)
  | false => none
def tgtV (p : Nat × Ex) : Value := .agg #[.int .i64 p.1, .int .i64 p.2.bank, .int .i64 p.2.pos]
def resV : Option (Nat × Ex) → AV
  | none => .tup [.agg [.v (.int .i64 0), .v (.int .i64 0), .v (.int .i64 0)], .v (.bool false)]
  | some p => .tup [.agg [.v (.int .i64 p.1), .v (.int .i64 p.2.bank), .v (.int .i64 p.2.pos)], .v (.bool true)]

/-! ### The search -/

theorem resG_none {ms : List Mo} {a b : ByteArray} (h : ∀ m ∈ ms, m.name ≠ a) : resG ms a b = none := by
  have : firstM ms a = none := by
    unfold firstM
    rw [List.findIdx?_eq_none_iff]
    intro m hm
    simpa using h m hm
  simp [resG, this]
theorem resG_at {ms : List Mo} {a b : ByteArray} {i : Nat} {m : Mo} (hm : ms[i]? = some m) (ha : m.name = a) (h : ∀ k < i, ∀ q, ms[k]? = some q → q.name ≠ a) : resG ms a b = (findEx b m.exps).map fun e => (i, e) := by
  obtain ⟨hi, he⟩ := List.getElem?_eq_some_iff.1 hm
  have : firstM ms a = some i := by
    unfold firstM
    rw [List.findIdx?_eq_some_iff_getElem]
    refine ⟨hi, by simpa [he] using ha, fun j hj => ?_⟩
    simpa using h j hj _ (List.getElem?_eq_getElem (by omega))
  simp [resG, this, hm]
theorem findEx_at {b : ByteArray} {l : List Ex} {i : Nat} {e : Ex} (he : l[i]? = some e) (hn : e.n = b) (h : ∀ k < i, ∀ q, l[k]? = some q → q.n ≠ b) : findEx b l = some e := by
  obtain ⟨hi, hh⟩ := List.getElem?_eq_some_iff.1 he
  unfold findEx
  rw [List.find?_eq_some_iff_getElem]
  refine ⟨by simpa using hn, i, hi, hh, fun j hj => ?_⟩
  simpa using h j hj _ (List.getElem?_eq_getElem (by omega))
theorem findEx_none {b : ByteArray} {l : List Ex} (h : ∀ e ∈ l, e.n ≠ b) : findEx b l = none := by
  unfold findEx
  rw [List.find?_eq_none]
  intro e he
  simpa using h e he

/-! ### The table -/

def keyOf (nm : ByteArray) (e : Ex) : ByteArray := nm ++ strD ++ e.n
def seenB (ms : List Mo) (i : Nat) (q : ByteArray) : Bool := (ms.take i).any fun m => decide (m.name = q)
def findKey (q : ByteArray) (nm : ByteArray) (l : List Ex) : Option Ex := l.find? fun e => decide (keyOf nm e = q)
def namesP (ms : List Mo) : Nat → ByteArray → Option (Nat × Ex)
  | 0, _ => none
  | i + 1, q => match ms[i]? with
    | some m => (namesP ms i q).or (match seenB ms i m.name with | true => none | false => (findKey q m.name m.exps).map fun e => (i, e))
    | none => namesP ms i q
theorem mapFind_set {k q : MK} {x : Value} : ∀ {l : List (MK × Value)}, mapFind q (mapSet k x l) = if k = q then some x else mapFind q l
  | [] => by simp only [mapSet, mapFind]
  | (a, v) :: l => by
    unfold mapSet
    by_cases h : a = k
    · subst h
      simp only [if_true, mapFind]
      split <;> rfl
    · rw [if_neg h]
      simp only [mapFind]
      rw [mapFind_set]
      by_cases h2 : a = q
      · subst h2
        rw [if_pos rfl, if_neg (fun e => h e.symm), if_pos rfl]
      · rw [if_neg h2, if_neg h2]

theorem low_ne46 {b : UInt8} (h : azB b = true) : b ≠ 46 := by
  rintro rfl
  revert h
  decide
theorem name_no46 {s : ByteArray} (h : nameOk s = true) (k : Nat) : s.data.toList[k]? ≠ some 46 := by
  intro hk
  simp only [nameOk, Bool.and_eq_true] at h
  exact low_ne46 (List.all_eq_true.1 h.1 _ (List.mem_of_getElem? hk)) rfl
theorem data_app (a b : ByteArray) : (a ++ b).data.toList = a.data.toList ++ b.data.toList := by
  rw [ByteArray.data_append, Array.toList_append]
theorem data_ext (s : ByteArray) (a b : Nat) : (s.extract a b).data.toList = (s.data.toList.take b).drop a := by
  rw [ByteArray.data_extract, Array.toList_extract, List.extract_eq_drop_take']
theorem full_split {s : ByteArray} (h : fullOk s = true) : nameOk (headS s) = true ∧ nameOk (tailS s) = true ∧ ∃ p : Nat, dotI s = p ∧ p < s.size ∧ s.data.toList[p]? = some 46 ∧ ∀ k < p, s.data.toList[k]? ≠ some 46 := by
  simp only [fullOk, Bool.and_eq_true, decide_eq_true_eq] at h
  obtain ⟨⟨h1, h2⟩, h3⟩ := h
  obtain ⟨p, hp⟩ := Int.eq_ofNat_of_zero_le h1
  exact ⟨h2, h3, p, hp, dotI_lt hp⟩
/-- A name, a dot and a name is so in one way alone. -/
theorem key_eq {s : ByteArray} (h : fullOk s = true) (nm : ByteArray) (e : Ex) : keyOf nm e = s ↔ (nm = headS s ∧ e.n = tailS s) := by
  obtain ⟨n1, n2, p, hp, hlt, h46, hno⟩ := full_split h
  have e0 : (dotI s).toNat = p := by omega
  have hs : s.size = s.data.toList.length := by simp
  have hd : s.data.toList = (headS s).data.toList ++ ([46] ++ (tailS s).data.toList) := by
    simp only [headS, tailS, e0, data_ext, List.drop_zero]
    rw [hs, List.take_length]
    have h1 := (List.getElem?_eq_some_iff.1 h46)
    obtain ⟨g1, g2⟩ := h1
    conv => lhs; rw [← List.take_append_drop p s.data.toList, List.drop_eq_getElem_cons g1, g2]
    rfl
  have hl : (headS s).data.toList.length = p := by
    simp only [headS, e0, data_ext, List.drop_zero, List.length_take]
    omega
  have key : (keyOf nm e).data.toList = nm.data.toList ++ ([46] ++ e.n.data.toList) := by
    simp only [keyOf, data_app, List.append_assoc]
    rfl
  constructor
  · intro q
    have q1 : nm.data.toList ++ ([46] ++ e.n.data.toList) = (headS s).data.toList ++ ([46] ++ (tailS s).data.toList) := by rw [← key, ← hd, q]
    have hlen : nm.data.toList.length = p := by
      rcases Nat.lt_trichotomy nm.data.toList.length p with r | r | r
      · exfalso
        have g : s.data.toList[nm.data.toList.length]? = some 46 := by
          rw [hd, ← q1, List.getElem?_append_right (Nat.le_refl _), Nat.sub_self]
          rfl
        exact hno _ r g
      · exact r
      · exfalso
        have g : (keyOf nm e).data.toList[nm.data.toList.length]? = some 46 := by
          rw [key, List.getElem?_append_right (Nat.le_refl _), Nat.sub_self]
          rfl
        rw [q, hd, List.getElem?_append_right (by omega), hl] at g
        obtain ⟨j, hj⟩ : ∃ j, nm.data.toList.length - p = j + 1 := ⟨nm.data.toList.length - p - 1, by omega⟩
        rw [hj] at g
        exact name_no46 n2 j (by simpa using g)
    obtain ⟨r1, r2⟩ := List.append_inj q1 (by rw [hlen, hl])
    exact ⟨ba_ext r1, ba_ext (by simpa using r2)⟩
  · rintro ⟨rfl, r2⟩
    refine ba_ext ?_
    rw [key, r2, ← hd]
theorem names_res {ms : List Mo} {s : ByteArray} (h : fullOk s = true) : ∀ i, i ≤ ms.length → namesP ms i s = resG (ms.take i) (headS s) (tailS s)
  | 0, _ => by
    rw [List.take_zero, resG_none (by simp)]
    rfl
  | i + 1, hi => by
    have ih := names_res (ms := ms) h i (by omega)
    have hm : ms[i]? = some ms[i] := List.getElem?_eq_getElem (by omega)
    generalize ms[i] = m at hm
    have htk : ms.take (i + 1) = ms.take i ++ [m] := by rw [List.take_add_one, hm]; rfl
    have hgi : (ms.take (i + 1))[i]? = some m := by rw [List.getElem?_take]; simp [hm]
    have hpre : ∀ k < i, ∀ q : Mo, (ms.take (i + 1))[k]? = some q → q ∈ ms.take i := by
      intro k hk q hq
      rw [htk, List.getElem?_append_left (by simp; omega)] at hq
      exact List.mem_of_getElem? hq
    simp only [namesP, hm]
    by_cases ha : m.name = headS s
    · have hfk : findKey s m.name m.exps = findEx (tailS s) m.exps := by
        unfold findKey findEx
        congr
        funext e
        rw [decide_eq_decide, key_eq h]
        simp [ha]
      cases hsn : seenB ms i m.name with
      | false =>
        have hn : ∀ q ∈ ms.take i, q.name ≠ headS s := by
          intro q hq e
          have : seenB ms i m.name = true := List.any_eq_true.2 ⟨q, hq, by simp [e, ha]⟩
          rw [hsn] at this
          cases this
        rw [ih, resG_none hn, resG_at hgi ha (fun k hk q hq => hn q (hpre k hk q hq)), hfk]
        rfl
      | true =>
        rw [ih]
        simp only [Option.or_none]
        obtain ⟨q, hq, hqn⟩ := List.any_eq_true.1 hsn
        simp only [decide_eq_true_eq] at hqn
        have hf : ∃ k, firstM (ms.take i) (headS s) = some k := by
          cases hh : firstM (ms.take i) (headS s) with
          | some k => exact ⟨k, rfl⟩
          | none =>
            unfold firstM at hh
            rw [List.findIdx?_eq_none_iff] at hh
            have := hh q hq
            simp [hqn, ha] at this
        obtain ⟨k, hk⟩ := hf
        have hk2 : firstM (ms.take (i + 1)) (headS s) = some k := by
          unfold firstM at hk ⊢
          rw [htk, List.findIdx?_append, hk]
          rfl
        have hkl : k < i := by
          unfold firstM at hk
          rw [List.findIdx?_eq_some_iff_getElem] at hk
          obtain ⟨h1, _⟩ := hk
          simp at h1
          omega
        unfold resG
        rw [hk, hk2]
        simp only [Option.bind_some]
        rw [htk, List.getElem?_append_left (by simp; omega)]
    · have hfk : findKey s m.name m.exps = none := by
        unfold findKey
        rw [List.find?_eq_none]
        intro e _
        simp only [decide_eq_true_eq, key_eq h]
        simp [ha]
      have : (match seenB ms i m.name with | true => none | false => (findKey s m.name m.exps).map fun e => (i, e)) = (none : Option (Nat × Ex)) := by
        rw [hfk]
        split <;> rfl
      rw [this, Option.or_none, ih]
      have hfm : firstM (ms.take (i + 1)) (headS s) = firstM (ms.take i) (headS s) := by
        unfold firstM
        rw [htk, List.findIdx?_append]
        simp [ha]
      unfold resG
      rw [hfm]
      cases hh : firstM (ms.take i) (headS s) with
      | none => rfl
      | some k =>
        have hkl : k < i := by
          unfold firstM at hh
          rw [List.findIdx?_eq_some_iff_getElem] at hh
          obtain ⟨h1, _⟩ := hh
          simp at h1
          omega
        simp only [Option.bind_some]
        rw [htk, List.getElem?_append_left (by simp; omega)]
/-- One export more. -/
theorem key_step {q nm : ByteArray} {l : List Ex} {j : Nat} {e : Ex} (h : l[j]? = some e) : findKey q nm (l.take (j + 1)) = (findKey q nm (l.take j)).or (match decide (keyOf nm e = q) with | true => some e | false => none) := by
  unfold findKey
  rw [List.take_add_one, h, List.find?_append]
  simp only [Option.toList, List.find?]
  rfl
end Go.Proofs.YtbfjkjdbdejnmaaGreat.Ab
