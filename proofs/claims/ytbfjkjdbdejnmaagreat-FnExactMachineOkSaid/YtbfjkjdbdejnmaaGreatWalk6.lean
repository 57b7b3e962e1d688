/- Functions walked, part 6. No condition. -/
import Derived.Test.YtbfjkjdbdejnmaaGreatWalk5
import Derived.Test.YtbfjkjdbdejnmaaGreatWalk4
import Derived.Test.YtbfjkjdbdejnmaaGreatWalk1
import Derived.Test.YtbfjkjdbdejnmaaGreatWalk3
set_option linter.unusedVariables false
set_option linter.unusedSimpArgs false
/- ModuleOk of impl. No condition. -/
namespace Go.Proofs.YtbfjkjdbdejnmaaGreat.Ab
set_option linter.unusedVariables false
set_option linter.unusedSimpArgs false

def BoxM (cells : List AV) (m : Mo) : Prop := ∃ b1 z1 b2 z2 b3 z3 b4 z4 b5 z5 b6 z6, cells = cellsM m b1 z1 b2 z2 b3 z3 b4 z4 b5 z5 b6 z6
def hHasP : CH := fun args hl K => match args, hl with
  | [.ptr 0 0 0 _, .v (.int .i64 b)], [.box cells] => ∃ m, BoxM cells m ∧ smMo m ∧ K (.v (.bool (pieceOf m b).isSome)) [.box cells]
  | _, _ => False
theorem piece_some {m : Mo} {b : Int} : (pieceOf m b).isSome = decide (-1 ≤ b ∧ b < m.banks.length) := by
  rw [Bool.eq_iff_iff, decide_eq_true_eq]
  unfold pieceOf
  split
  · simp; omega
  · split
    · obtain ⟨j, rfl⟩ := Int.eq_ofNat_of_zero_le (by omega : 0 ≤ b)
      rw [Int.toNat_natCast, List.getElem?_eq_getElem (by omega)]
      simp; omega
    · simp; omega
def cx_s_hasPiece : Ctx := mkC []
theorem cx_s_hasPiece_ok : CtxOk Tryz.prog cx_s_hasPiece := cx0_ok
set_option maxRecDepth 100000 in
set_option pp.maxSteps 1500 in
set_option maxHeartbeats 4000000 in
theorem s_hasPiece : HSound Tryz.prog 114 (callM [.rw] false hHasP) := by
  refine callM_sound cx_s_hasPiece_ok mixed Tryz.func114 rfl fun args hl K hp => ?_
  unfold hHasP at hp
  split at hp
  · rename_i n b cells
    obtain ⟨m, ⟨b1, z1, b2, z2, b3, z3, b4, z4, b5, z5, b6, z6, rfl⟩, hb, hp⟩ := hp
    rw [piece_some] at hp
    repeat' ((first
      | refine And.intro (fun h2 => ?_) (fun h2 => ?_)
      | fail) <;> try cases h2)
    · refine fin_b hp ?_
      have h2 := of_decide_eq_true h2
      rw [List.length_map]
      rw [decide_eq_decide]
      omega
    · have h2 := of_decide_eq_false h2
      refine fin_b hp (decide_eq_false ?_)
      omega
  · exact hp.elim
def hPieceI : CH := fun args hl K => match args, hl with
  | [.ptr 0 0 0 _, .v (.int .i64 b)], [.box cells] => ∃ m ws b1 z1 b2 z2 b3 z3 b4 z4 b5 z5 b6 z6, cells = cellsM m b1 z1 b2 z2 b3 z3 b4 z4 b5 z5 b6 z6 ∧ smMo m ∧ pieceOf m b = some ws ∧ K (.imm (bif b == -1 then b1 else b2) (bif b == -1 then z1 else false) 1 (ws.map intC)) [.box cells]
  | _, _ => False
def cx_s_pieceI : Ctx := mkC []
theorem cx_s_pieceI_ok : CtxOk Tryz.prog cx_s_pieceI := cx0_ok
set_option maxRecDepth 100000 in
set_option pp.maxSteps 1500 in
set_option maxHeartbeats 4000000 in
theorem s_pieceI : HSound Tryz.prog 117 (callM [.rw] false hPieceI) := by
  refine callM_sound cx_s_pieceI_ok mixed Tryz.func117 rfl fun args hl K hp => ?_
  unfold hPieceI at hp
  split at hp
  · rename_i n b cells
    obtain ⟨m, ws, b1, z1, b2, z2, b3, z3, b4, z4, b5, z5, b6, z6, rfl, hb, he, hp⟩ := hp
    have hs : (pieceOf m b).isSome = true := by rw [he]; rfl
    rw [piece_some, decide_eq_true_eq] at hs
    refine Or.inl ?_
    refine And.intro (fun h2 => ?_) (fun h2 => ?_)
    · have h2 := of_decide_eq_true h2
      rw [show pieceOf m b = some m.text from if_pos (by omega)] at he
      cases he
      rw [show (b == -1) = true from by simp; omega] at hp
      exact hp
    · have h2 := of_decide_eq_false h2
      obtain ⟨j, rfl⟩ := Int.eq_ofNat_of_zero_le (by omega : 0 ≤ b)
      have hg : m.banks[j]? = some m.banks[j] := List.getElem?_eq_getElem (by omega)
      rw [show pieceOf m (j : Int) = m.banks[j]? from by unfold pieceOf; rw [if_neg (by omega), if_pos (by omega), Int.toNat_natCast], hg] at he
      cases he
      refine Exists.intro j (And.intro rfl (Exists.intro (bankC m.banks[j]) (And.intro (get_map hg) ?_)))
      rw [show ((j : Int) == -1) = false from by simp] at hp
      exact hp
  · exact hp.elim
def hGoodE : CH := fun args hl K => match args, hl with
  | [.ptr 0 0 0 _, .agg [.v (.string n), .v (.int .i64 bk), .v (.int .i64 ps)]], [.box cells] => ∃ m, BoxM cells m ∧ smMo m ∧ n.size ≤ 1048576 ∧ K (.v (.bool (goodE m ⟨n, bk, ps⟩))) [.box cells]
  | _, _ => False
def cx_s_goodExport : Ctx := mkC [(197, callM [] false hName), (114, callM [.rw] false hHasP), (117, callM [.rw] false hPieceI)]
theorem cx_s_goodExport_ok : CtxOk Tryz.prog cx_s_goodExport := mkC_ok (mem1 ⟨s_isName, fnOk Tryz.func197 rfl rfl⟩ (mem1 ⟨s_hasPiece, fnOk Tryz.func114 rfl rfl⟩ (mem1 ⟨s_pieceI, fnOk Tryz.func117 rfl rfl⟩ mem0)))
set_option maxRecDepth 100000 in
set_option pp.maxSteps 1500 in
set_option maxHeartbeats 8000000 in
theorem s_goodExport : HSound Tryz.prog 200 (callM [.rw] false hGoodE) := by
  refine callM_sound cx_s_goodExport_ok mixed Tryz.func200 rfl fun args hl K hp => ?_
  unfold hGoodE at hp
  split at hp
  · rename_i k n bk ps cells
    obtain ⟨m, ⟨b1, z1, b2, z2, b3, z3, b4, z4, b5, z5, b6, z6, rfl⟩, hb, hn, hp⟩ := hp
    refine Or.inl ?_
    refine And.intro (show wfB _ = true from by kernel_rfl) ?_
    have key : ∀ e : Ex, goodE m e = (nameOk e.n && ((pieceOf m e.bank).isSome && (decide (e.pos ≥ 0) && match pieceOf m e.bank with | some ws => decide (e.pos < ws.length) | none => false))) := by
      intro e
      unfold goodE
      cases pieceOf m e.bank with
      | none => simp
      | some ws =>
        simp only [Option.isSome_some, Bool.true_and, Bool.decide_and, ge_iff_le]
    rw [key] at hp
    simp only at hp
    clear key
    apply HeldC.intro
    · refine And.intro hn ?_
      exact And.intro rfl rfl
    cases h1 : nameOk n with
    | false =>
      rw [h1] at hp
      repeat' ((first
        | refine And.intro (fun h2 => ?_) (fun h2 => ?_)
        | refine And.intro (And.intro rfl rfl) ?_
        | exact And.intro rfl rfl
        | fail) <;> try cases h2)
      all_goals exact hp
    | true =>
      rw [h1] at hp
      repeat' ((first
        | refine And.intro (fun h2 => ?_) (fun h2 => ?_)
        | refine And.intro (And.intro rfl rfl) ?_
        | exact And.intro rfl rfl
        | fail) <;> try cases h2)
      apply HeldC.intro
      · refine Exists.intro m (And.intro ⟨_, _, _, _, _, _, _, _, _, _, _, _, rfl⟩ (And.intro hb ?_))
        exact And.intro rfl rfl
      cases hpc : pieceOf m bk with
      | none =>
        rw [hpc] at hp
        repeat' ((first
          | refine And.intro (fun h2 => ?_) (fun h2 => ?_)
          | refine And.intro (And.intro rfl rfl) ?_
          | exact And.intro rfl rfl
          | fail) <;> try cases h2)
        all_goals exact hp
      | some ws =>
        rw [hpc] at hp
        simp only [Option.isSome_some, Bool.true_and] at hp
        repeat' ((first
          | refine And.intro (fun h2 => ?_) (fun h2 => ?_)
          | refine And.intro (And.intro rfl rfl) ?_
          | exact And.intro rfl rfl
          | fail) <;> try cases h2)
        · rw [h2, Bool.true_and] at hp
          apply HeldC.intro
          · refine Exists.intro m (Exists.intro ws (Exists.intro b1 (Exists.intro z1 (Exists.intro b2 (Exists.intro z2 (Exists.intro b3 (Exists.intro z3 (Exists.intro b4 (Exists.intro z4 (Exists.intro b5 (Exists.intro z5 (Exists.intro b6 (Exists.intro z6 (And.intro rfl (And.intro hb (And.intro hpc ?_))))))))))))))))
            exact And.intro rfl rfl
          repeat' ((first
            | refine And.intro (fun h2 => ?_) (fun h2 => ?_)
            | refine And.intro (And.intro rfl rfl) ?_
            | exact And.intro rfl rfl
            | fail) <;> try cases h2)
          refine fin_b hp ?_
          rw [List.length_map]
        · rw [h2, Bool.false_and] at hp
          exact hp
  · exact hp.elim

def seenE (l : List Ex) (q : ByteArray) : Bool := l.any fun e => decide (e.n = q)
def cx_s_impl_ModuleOk : Ctx := mkC [(197, callM [] false hName), (198, callM [] true hWords), (199, callM [] false hHalves), (200, callM [.rw] false hGoodE)]
theorem cx_s_impl_ModuleOk_ok : CtxOk Tryz.prog cx_s_impl_ModuleOk := mkC_ok (mem1 ⟨s_isName, fnOk Tryz.func197 rfl rfl⟩ (mem1 ⟨s_words, fnOk Tryz.func198 rfl rfl⟩ (mem1 ⟨s_halves, fnOk Tryz.func199 rfl rfl⟩ (mem1 ⟨s_goodExport, fnOk Tryz.func200 rfl rfl⟩ mem0))))
set_option maxRecDepth 100000 in
set_option pp.maxSteps 1500 in
set_option maxHeartbeats 16000000 in
theorem s_impl_ModuleOk : HSound Tryz.prog 146 (callM [] true hModOk) := by
  refine callM_sound cx_s_impl_ModuleOk_ok mixed Tryz.func146 rfl fun args hl K hp => ?_
  unfold hModOk at hp
  split at hp
  · rename_i a
    obtain ⟨m, ⟨b1, z1, b2, z2, b3, z3, b4, z4, b5, z5, b6, z6, rfl⟩, hb, hp⟩ := hp
    have him := hb.imps
    have g1 := hb.text
    have hrl := hb.rels
    have hdl := hb.data
    refine And.intro hb.name ?_
    refine And.intro (fun h => ?_) (fun h => ?_)
    · have h : nameOk m.name = false := by simpa using h
      exact fin_i hp (by simp only [modOk, h, if_true])
    have e1 : nameOk m.name = true := by simpa using h
    clear h
    have f2 : codeB m = false → modOk m = 2 := fun h => by simp only [modOk, e1, h, if_true, Bool.true_eq_false, if_false]
    repeat' ((first
      | refine And.intro (fun h2 => ?_) (fun h2 => ?_)
      | refine Exists.intro m.text (And.intro rfl (And.intro g1 ?_))
      | fail) <;> try cases h2)
    · have h1 := of_decide_eq_true h2
      rw [List.length_map] at h1
      refine fin_i hp (f2 ?_)
      simp only [codeB, decide_eq_false (by omega : ¬ m.text.length ≤ 200), Bool.false_and]
    · have h1 := of_decide_eq_true h2
      rw [List.length_map] at h1
      refine fin_i hp (f2 ?_)
      simp only [codeB, decide_eq_false (by omega : ¬ m.banks.length ≤ 4), Bool.false_and, Bool.and_false]
    · have h1 : wordsB m.text = false := by simpa using h2
      refine fin_i hp (f2 ?_)
      simp only [codeB, h1, Bool.false_and, Bool.and_false]
    rename_i q1 q2
    have q1 := of_decide_eq_false q1
    have q2 := of_decide_eq_false q2
    rw [List.length_map] at q1 q2
    have q3 : wordsB m.text = true := by simpa using h2
    clear h2
    have e : codeB m = m.banks.all fun b => decide (1 ≤ b.length ∧ b.length ≤ 64) && wordsB b := by
      simp only [codeB, decide_eq_true (by omega : m.text.length ≤ 200), decide_eq_true (by omega : m.banks.length ≤ 4), q3, Bool.true_and]
    rw [e] at f2
    refine Exists.intro true (Exists.intro [1, 36, 37, 38] (Exists.intro (fun n vs h => ∃ i : Nat, i ≤ m.banks.length ∧ n = m.banks.length - i ∧ (m.banks.take i).all (fun b => decide (1 ≤ b.length ∧ b.length ≤ 64) && wordsB b) = true ∧ vs = [.ptr 0 0 0 8, .imm b2 z2 1 (m.banks.map bankC), .v (.int .i64 m.banks.length), .v (.int .i64 i)] ∧ h = [.box (cellsM m b1 z1 b2 z2 b3 z3 b4 z4 b5 z5 b6 z6)]) (And.intro ?_ ?_)))
    · refine Exists.intro [] (Exists.intro m.banks.length ?_)
      exact ⟨0, by omega, rfl, rfl, by rw [List.length_map]; rfl, rfl⟩
    intro n vs h hI
    obtain ⟨i, hi, rfl, hall, rfl, rfl⟩ := hI
    refine And.intro (fun h1 => ?_) (fun h1 => ?_)
    · simp only [decide_eq_true_eq] at h1
      have hlt : i < m.banks.length := by omega
      obtain ⟨b, hbi⟩ : ∃ b, m.banks[i]? = some b := ⟨_, List.getElem?_eq_getElem hlt⟩
      have hbl := hb.bank b (List.mem_of_getElem? hbi)
      have hil : m.banks.length ≤ 1048576 := hb.banks
      refine Exists.intro i (And.intro rfl (Exists.intro (bankC b) (And.intro (get_map hbi) ?_)))
      repeat' ((first
        | refine And.intro (fun h2 => ?_) (fun h2 => ?_)
        | refine Exists.intro b (And.intro rfl (And.intro hbl ?_))
        | fail) <;> try cases h2)
      · have h2 := of_decide_eq_true h2
        rw [List.length_map] at h2
        refine fin_i hp (f2 (all_bad hbi ?_))
        rw [decide_eq_false (by omega), Bool.false_and]
      · have h2 := of_decide_eq_true h2
        rw [List.length_map] at h2
        refine fin_i hp (f2 (all_bad hbi ?_))
        rw [decide_eq_false (by omega), Bool.false_and]
      · have h2 : wordsB b = false := by simpa using h2
        refine fin_i hp (f2 (all_bad hbi ?_))
        rw [h2, Bool.and_false]
      · rename_i r1 r2
        have r1 := of_decide_eq_false r1
        have r2 := of_decide_eq_false r2
        rw [List.length_map] at r1 r2
        have h2 : wordsB b = true := by simpa using h2
        refine Exists.intro [] (Exists.intro (m.banks.length - (i + 1)) (And.intro (by omega) ⟨i + 1, by omega, rfl, all_take hbi hall ?_, ?_, rfl⟩))
        · rw [h2, decide_eq_true (by omega)]
          rfl
        · rw [wrap_succ hlt (by omega)]
    simp only [decide_eq_false_iff_not] at h1
    rw [List.take_of_length_le (by omega)] at hall
    have e2 : codeB m = true := by rw [e]; exact hall
    clear f2 e q1 q2 q3 hall h1 hi
    have f3 : restB m = false → modOk m = 3 := fun h => by simp only [modOk, e1, e2, h, if_true, Bool.true_eq_false, if_false]
    repeat' ((first
      | refine And.intro (fun h2 => ?_) (fun h2 => ?_)
      | fail) <;> try cases h2)
    · have h2 := of_decide_eq_true h2
      rw [List.length_map] at h2
      exact fin_i hp (f3 (by simp only [restB, decide_eq_false (by omega : ¬ m.data.length ≤ 512), Bool.false_and]))
    · have h2 := of_decide_eq_true h2
      exact fin_i hp (f3 (by simp only [restB, decide_eq_false (by omega : ¬ 0 ≤ m.bss), Bool.false_and, Bool.and_false]))
    · have h2 := of_decide_eq_true h2
      exact fin_i hp (f3 (by simp only [restB, decide_eq_false (by omega : ¬ m.bss ≤ 512), Bool.false_and, Bool.and_false]))
    · rename_i q1 q2 q3
      have h2 := of_decide_eq_true h2
      have q1 := of_decide_eq_false q1
      have q2 := of_decide_eq_false q2
      have q3 := of_decide_eq_false q3
      rw [List.length_map] at q1 h2
      have e3 : restB m = true := by simp only [restB, decide_eq_true (by omega : m.data.length ≤ 512), decide_eq_true (by omega : m.bss ≤ 512), decide_eq_true (by omega : 0 ≤ m.bss), Bool.and_true]
      have : relsB m.data.length m.rels = false := by simp only [relsB, decide_eq_false (by omega : ¬ m.rels.length ≤ 16), Bool.false_and]
      exact fin_i hp (by simp only [modOk, e1, e2, e3, this, if_true, Bool.true_eq_false, if_false])
    rename_i q1 q2 q3
    have q1 := of_decide_eq_false q1
    have q2 := of_decide_eq_false q2
    have q3 := of_decide_eq_false q3
    have h2 := of_decide_eq_false h2
    rw [List.length_map] at q1 h2
    have e3 : restB m = true := by simp only [restB, decide_eq_true (by omega : m.data.length ≤ 512), decide_eq_true (by omega : m.bss ≤ 512), decide_eq_true (by omega : 0 ≤ m.bss), Bool.and_true]
    have f4 : relsB m.data.length m.rels = false → modOk m = 4 := fun h => by simp only [modOk, e1, e2, e3, h, if_true, Bool.true_eq_false, if_false]
    have er : relsB m.data.length m.rels = (List.range m.rels.length).all (relB m.data.length m.rels) := by
      simp only [relsB, decide_eq_true (by omega : m.rels.length ≤ 16), Bool.true_and]
    rw [er] at f4
    refine Exists.intro true (Exists.intro [1, 75, 76, 77] (Exists.intro (fun n vs h => ∃ i : Nat, i ≤ m.rels.length ∧ n = m.rels.length - i ∧ (∀ k < i, relB m.data.length m.rels k = true) ∧ vs = [.ptr 0 0 0 8, .imm b4 z4 1 (m.rels.map intC), .v (.int .i64 m.rels.length), .v (.int .i64 i)] ∧ h = [.box (cellsM m b1 z1 b2 z2 b3 z3 b4 z4 b5 z5 b6 z6)]) (And.intro ?_ ?_)))
    · refine Exists.intro [] (Exists.intro m.rels.length ?_)
      exact ⟨0, by omega, rfl, fun k hk => by omega, by rw [List.length_map]; rfl, rfl⟩
    intro n vs h hI
    obtain ⟨i, hi, rfl, hall, rfl, rfl⟩ := hI
    refine And.intro (fun h1 => ?_) (fun h1 => ?_)
    · simp only [decide_eq_true_eq] at h1
      have hlt : i < m.rels.length := by omega
      obtain ⟨r, hri⟩ : ∃ r, m.rels[i]? = some r := ⟨_, List.getElem?_eq_getElem hlt⟩
      have er2 := relB_val (d := m.data.length) hri
      have hw : IntKind.i64.wrap (((m.data.map byteC).length : Int) - 4) = (m.data.length : Int) - 4 := by rw [List.length_map]; exact wrap64 (by omega)
      refine Exists.intro i (And.intro rfl (Exists.intro (intC r) (And.intro (get_map hri) ?_)))
      have prev : 0 < i → ∃ q, m.rels[i - 1]? = some q ∧ m.rels.getD (i - 1) 0 = q := fun h0 => by
        obtain ⟨q, hq⟩ : ∃ q, m.rels[i - 1]? = some q := ⟨_, List.getElem?_eq_getElem (by omega)⟩
        exact ⟨q, hq, by simp [List.getD_eq_getElem?_getD, hq]⟩
      repeat' ((first
        | refine And.intro (fun h2 => ?_) (fun h2 => ?_)
        | refine And.intro (by decide) ?_
        | (obtain ⟨q, hq, hq2⟩ := prev (by simp only [decide_eq_true_eq] at *; omega)
           refine Exists.intro (i - 1) (And.intro (by rw [wrap64 (by omega)]; simp only [decide_eq_true_eq] at *; omega) (Exists.intro (intC q) (And.intro (get_map hq) ?_))))
        | fail) <;> try cases h2)
      all_goals clear prev
      all_goals rw [hw] at *
      all_goals simp only [decide_eq_true_eq, decide_eq_false_iff_not, bne_iff_ne, ne_eq, bne_eq_false_iff_eq, Decidable.not_not] at *
      all_goals first
        | (refine fin_i hp (f4 (range_bad hlt ?_))
           rw [er2]
           refine decide_eq_false ?_
           omega)
        | (refine Exists.intro [] (Exists.intro (m.rels.length - (i + 1)) (And.intro (by omega) ⟨i + 1, by omega, rfl, lt_step hall ?_, ?_, rfl⟩))
           · rw [er2]
             refine decide_eq_true ?_
             omega
           · rw [wrap_succ hlt (by omega)])
    simp only [decide_eq_false_iff_not] at h1
    have e4 : relsB m.data.length m.rels = true := by
      rw [er]
      exact range_all fun k hk => hall k (by omega)
    clear f4 er hall h1 hi f3 q1 q2 q3 h2
    have f5 : impsB m = false → modOk m = 5 := fun h => by simp only [modOk, e1, e2, e3, e4, h, if_true, Bool.true_eq_false, if_false]
    refine And.intro (fun h => ?_) (fun h => ?_)
    · have h := of_decide_eq_true h
      rw [List.length_map] at h
      exact fin_i hp (f5 (by simp only [impsB, decide_eq_false (by omega : ¬ m.imps.length ≤ 16), Bool.false_and]))
    have h := of_decide_eq_false h
    rw [List.length_map] at h
    have ei : impsB m = m.imps.all fullOk := by simp only [impsB, decide_eq_true (by omega : m.imps.length ≤ 16), Bool.true_and]
    rw [ei] at f5
    refine Exists.intro true (Exists.intro [1, 117, 118, 119] (Exists.intro (fun n vs h => ∃ i : Nat, i ≤ m.imps.length ∧ n = m.imps.length - i ∧ (m.imps.take i).all fullOk = true ∧ vs = [.ptr 0 0 0 8, .imm b5 z5 1 (m.imps.map strC), .v (.int .i64 m.imps.length), .v (.int .i64 i)] ∧ h = [.box (cellsM m b1 z1 b2 z2 b3 z3 b4 z4 b5 z5 b6 z6)]) (And.intro ?_ ?_)))
    · refine Exists.intro [] (Exists.intro m.imps.length ?_)
      exact ⟨0, by omega, rfl, rfl, by rw [List.length_map]; rfl, rfl⟩
    intro n vs h hI
    obtain ⟨i, hi, rfl, hall, rfl, rfl⟩ := hI
    refine And.intro (fun h1 => ?_) (fun h1 => ?_)
    · simp only [decide_eq_true_eq] at h1
      have hlt : i < m.imps.length := by omega
      obtain ⟨s, hsi⟩ : ∃ s, m.imps[i]? = some s := ⟨_, List.getElem?_eq_getElem hlt⟩
      have hss := hb.imp s (List.mem_of_getElem? hsi)
      refine Exists.intro i (And.intro rfl (Exists.intro (strC s) (And.intro (get_map hsi) ?_)))
      refine And.intro hss (fun a b hab => ?_)
      refine And.intro (fun h3 => ?_) (fun h3 => ?_)
      · exact fin_i hp (f5 (all_bad hsi (by simpa using h3)))
      · refine Exists.intro [] (Exists.intro (m.imps.length - (i + 1)) (And.intro (by omega) ⟨i + 1, by omega, rfl, all_take hsi hall (by simpa using h3), ?_, rfl⟩))
        rw [wrap_succ hlt (by omega)]
    simp only [decide_eq_false_iff_not] at h1
    rw [List.take_of_length_le (by omega)] at hall
    have e5 : impsB m = true := by rw [ei]; exact hall
    clear f5 ei hall h1 hi h
    have f6 : expsB m = false → modOk m = 6 := fun h => by simp only [modOk, e1, e2, e3, e4, e5, h, if_true, Bool.true_eq_false, if_false]
    refine And.intro (fun h => ?_) (fun h => ?_)
    · have h := of_decide_eq_true h
      rw [List.length_map] at h
      exact fin_i hp (f6 (by simp only [expsB, decide_eq_false (by omega : ¬ m.exps.length ≤ 16), Bool.false_and]))
    have h := of_decide_eq_false h
    rw [List.length_map] at h
    have ee : expsB m = (List.range m.exps.length).all (expB m) := by
      simp only [expsB, decide_eq_true (by omega : m.exps.length ≤ 16), Bool.true_and]
    rw [ee] at f6
    refine Exists.intro true (Exists.intro [1, 12, 138, 139, 140] (Exists.intro (fun n vs h => ∃ (i : Nat) (S : List (MK × Value)), i ≤ m.exps.length ∧ n = m.exps.length - i ∧ (∀ k < i, expB m k = true) ∧ (∀ q, mapFind (.s q) S = match seenE (m.exps.take i) q with | true => some (.bool true) | false => none) ∧ vs = [.ptr 0 0 0 8, .mapr 1, .imm b6 z6 3 (m.exps.map exC), .v (.int .i64 m.exps.length), .v (.int .i64 i)] ∧ h = [.box (cellsM m b1 z1 b2 z2 b3 z3 b4 z4 b5 z5 b6 z6), .mp 0 S]) (And.intro ?_ ?_)))
    · refine Exists.intro [] (Exists.intro m.exps.length ?_)
      exact ⟨0, [], by omega, rfl, fun k hk => by omega, fun q => rfl, by rw [List.length_map]; rfl, rfl⟩
    intro n vs h hI
    obtain ⟨i, S, hi, rfl, hall, hS, rfl, rfl⟩ := hI
    refine And.intro (fun h1 => ?_) (fun h1 => ?_)
    · simp only [decide_eq_true_eq] at h1
      have hlt : i < m.exps.length := by omega
      obtain ⟨e, hei⟩ : ∃ e, m.exps[i]? = some e := ⟨_, List.getElem?_eq_getElem hlt⟩
      have eb := expB_val hei
      have hen := hb.exp e (List.mem_of_getElem? hei)
      have hsa : (m.exps.take i).all (fun q => decide (q.n ≠ e.n)) = !seenE (m.exps.take i) e.n := by
        unfold seenE
        rw [List.not_any_eq_all_not]
        congr
        funext q
        simp
      refine Exists.intro i (And.intro rfl (Exists.intro (exC e) (And.intro (get_map hei) ?_)))
      refine And.intro (fun v hv => ?_) (fun hv => ?_)
      · rw [hS] at hv
        have hsn : seenE (m.exps.take i) e.n = true := by
          cases hh : seenE (m.exps.take i) e.n with
          | true => rfl
          | false => rw [hh] at hv; cases hv
        rw [hsn] at hv
        cases hv
        repeat' ((first
          | refine And.intro (fun h2 => ?_) (fun h2 => ?_)
          | fail) <;> try cases h2)
        refine fin_i hp (f6 (range_bad hlt ?_))
        rw [eb, hsa, hsn]
        simp
      · rw [hS] at hv
        have hsn : seenE (m.exps.take i) e.n = false := by
          cases hh : seenE (m.exps.take i) e.n with
          | false => rfl
          | true => rw [hh] at hv; cases hv
        clear hv
        rw [hsn] at hsa
        rw [hsa] at eb
        repeat' ((first
          | refine And.intro (fun h2 => ?_) (fun h2 => ?_)
          | refine Exists.intro m (And.intro ⟨_, _, _, _, _, _, _, _, _, _, _, _, rfl⟩ (And.intro hb (And.intro hen ?_)))
          | fail) <;> try cases h2)
        · have h2 : goodE m e = false := by simpa using h2
          refine fin_i hp (f6 (range_bad hlt ?_))
          rw [eb, h2]
          rfl
        · have h2 : goodE m e = true := by simpa using h2
          refine Exists.intro [] (Exists.intro (m.exps.length - (i + 1)) (And.intro (by omega) ⟨i + 1, mapSet (.s e.n) (.bool true) S, by omega, rfl, lt_step hall (by rw [eb, h2]; rfl), fun q => ?_, ?_, rfl⟩))
          · rw [mapFind_set, hS]
            have : seenE (m.exps.take (i + 1)) q = (seenE (m.exps.take i) q || decide (e.n = q)) := by
              unfold seenE
              rw [List.take_add_one, hei]
              simp
            rw [this]
            by_cases hq : e.n = q
            · subst hq
              simp [hsn]
            · rw [if_neg (by simpa using hq), decide_eq_false hq, Bool.or_false]
          · rw [wrap_succ hlt (by omega)]
    · simp only [decide_eq_false_iff_not] at h1
      have e6 : expsB m = true := by
        rw [ee]
        exact range_all fun k hk => hall k (by omega)
      exact fin_i hp (by simp only [modOk, e1, e2, e3, e4, e5, e6, Bool.true_eq_false, if_false])
  · exact hp.elim
end Go.Proofs.YtbfjkjdbdejnmaaGreat.Ab

/- Write: both programs answer alike. No condition. -/
namespace Go.Proofs.YtbfjkjdbdejnmaaGreat.Ab

def cx_s_Clone : Ctx := mkC []
theorem cx_s_Clone_ok : CtxOk Tryz.prog cx_s_Clone := cx0_ok
set_option maxRecDepth 100000 in
set_option pp.maxSteps 1500 in
theorem s_Clone : HSound Tryz.prog 163 (callM [] true hToB) := by
  refine callM_sound cx_s_Clone_ok mixed Tryz.func163 rfl fun args hl K hp => ?_
  unfold hToB at hp
  split at hp
  · rename_i t z l
    obtain ⟨bs, rfl, hb, hp⟩ := hp
    refine Or.inl ?_
    refine And.intro (fun h0 => ?_) ?_
    · refine And.intro (fun _ => ?_) (fun h1 => by cases h1)
      refine Or.inr ?_
      have : bs = [] := by simpa using h0
      subst this
      refine And.intro closed_nil ?_
      exact hp
    · refine And.intro (fun h1 => by cases h1) (fun _ => ?_)
      repeat' (first
        | refine And.intro (closed_bytes bs) ?_
        | refine And.intro (bytes_notSl bs) ?_
        | refine And.intro rfl ?_
        | refine And.intro (by simp; omega) ?_)
      have e : ([] : List (List AV)).length + (bs.map byteC).length = bs.length := by simp
      rw [← e] at hp
      exact hp
  · exact hp.elim
def cx_s_clone : Ctx := mkC [(163, callM [] true hToB)]
theorem cx_s_clone_ok : CtxOk Tryz.prog cx_s_clone := mkC_ok (mem1 ⟨s_Clone, fnOk Tryz.func163 rfl rfl⟩ mem0)
set_option maxRecDepth 100000 in
set_option pp.maxSteps 1500 in
theorem s_clone : HSound Tryz.prog 129 (callM [] true hToM) := by
  refine callM_sound cx_s_clone_ok mixed Tryz.func129 rfl fun args hl K hp => ?_
  unfold hToM at hp
  split at hp
  · rename_i _ _ _ _ _ _ _ _ _
    obtain ⟨a, b, c, rfl, rfl, rfl, ha, hb, hc, hp⟩ := hp
    repeat' (first
      | (refine Exists.intro a ?_; refine And.intro rfl ?_; refine And.intro ha ?_; exact And.intro rfl rfl)
      | (refine Exists.intro b ?_; refine And.intro rfl ?_; refine And.intro hb ?_; exact And.intro rfl rfl)
      | (refine Exists.intro c ?_; refine And.intro rfl ?_; refine And.intro hc ?_; exact And.intro rfl rfl)
      | refine And.intro (show wfB _ = true from by kernel_rfl) ?_ | refine And.intro (And.intro rfl rfl) ?_ | exact And.intro rfl rfl | apply HeldC.intro | exact AV.top | (apply HeldF.intro; refine Exists.intro _ (And.intro (by assumption) ?_); refine And.intro (by decide) ?_; exact And.intro rfl rfl) | (refine And.intro (by (refine Exists.intro _ (And.intro (by assumption) ?_); refine And.intro (by decide) ?_; exact And.intro rfl rfl)) ?_) | refine Or.inl ?_)
    refine And.intro (closed_bytes a) (And.intro (closed_bytes b) (And.intro (closed_bytes c) ?_))
    exact hp
  · exact hp.elim

def byteV (v : Int) (i : Nat) : Int := v / 256 ^ i % 256
def putY (r : List Int) (p : Nat) (v : Int) : Nat → List Int
  | 0 => r
  | i + 1 => (putY r p v i).set (p + i) (byteV v i)
theorem putY_len (r : List Int) (p : Nat) (v : Int) (n : Nat) : (putY r p v n).length = r.length := by
  induction n with
  | zero => rfl
  | succ n ih => simp [putY, ih]
def writeF (f r o : List Int) (a s v : Int) : List Int × List Int × Int :=
  if memOk f.length r.length o.length = false ∨ widthB s = false then (r, o, 2)
  else if a.tmod s ≠ 0 then (r, o, 1)
  else if a = 131072 then (if 5000 ≤ o.length then (r, o, 4) else (r, o ++ [byteV v 0], 0))
  else if insideB a s 0 f.length then (r, o, 3)
  else if insideB a s 65536 r.length = false then (r, o, 2)
  else (putY r (a - 65536).toNat v s.toNat, o, 0)
theorem u8_wrap (x : Int) : IntKind.u8.wrap x = x % 256 := by
  simp only [IntKind.wrap, IntKind.bits, IntKind.signed, Bool.false_and]
  simp
def hModW : CH := fun args hl K => match args, hl with
  | [.v (.int .i64 v)], [] => I64 v ∧ K (.v (.int .i64 (v % 4294967296))) []
  | _, _ => False
def cx_iMod : Ctx := mkC []
theorem cx_iMod_ok : CtxOk Tryz.prog cx_iMod := cx0_ok
def iMod : Handler := inlH cx_iMod Tryz.f109.ntmps Tryz.f109.results.toList (Tryz.f109.body.getD .skip)
theorem s_iMod : HSound Tryz.prog 109 iMod := inlF cx_iMod_ok mixed Tryz.func109 rfl
def cx_s_l1Word : Ctx := mkC [(109, iMod)]
theorem cx_s_l1Word_ok : CtxOk Tryz.prog cx_s_l1Word := mkC_ok (mem1 ⟨s_iMod, fnOk Tryz.func109 rfl rfl⟩ mem0)
set_option maxRecDepth 100000 in
set_option pp.maxSteps 1500 in
theorem s_l1Word : HSound Tryz.prog 51 (callM [] false hModW) := by
  refine callM_sound cx_s_l1Word_ok mixed Tryz.func51 rfl fun args hl K hp => ?_
  unfold hModW at hp
  split at hp
  · rename_i v
    obtain ⟨iv, hp⟩ := hp
    simp only [I64] at iv
    repeat' ((first | refine And.intro (fun h1 => ?_) (fun h1 => ?_) | refine And.intro (by decide) ?_ | refine And.intro (show wfB _ = true from by kernel_rfl) ?_ | refine And.intro (And.intro rfl rfl) ?_ | exact And.intro rfl rfl | apply HeldC.intro | exact AV.top | (apply HeldF.intro; refine Exists.intro _ (And.intro (by assumption) ?_); refine And.intro (by decide) ?_; exact And.intro rfl rfl) | (refine And.intro (by (refine Exists.intro _ (And.intro (by assumption) ?_); refine And.intro (by decide) ?_; exact And.intro rfl rfl)) ?_) | refine Or.inl ?_) <;> try cases h1)
    refine fin_i hp ?_
    have h1 : v.tmod 4294967296 = if 0 ≤ v then v % 4294967296 else -((-v) % 4294967296) := by
      split
      · exact Int.tmod_eq_emod_of_nonneg (by assumption)
      · have : v = -(-v) := by omega
        conv => lhs; rw [this, Int.neg_tmod, Int.tmod_eq_emod_of_nonneg (by omega)]
    have hb : -4294967296 < v.tmod 4294967296 ∧ v.tmod 4294967296 < 4294967296 := by rw [h1]; split <;> omega
    rw [wrap64 (by omega), Int.tmod_eq_emod_of_nonneg (by omega), h1]
    split <;> omega
  · exact hp.elim
def hLPut : CH := fun args hl K => match args, hl with
  | [.slc 0 0 n z, .v (.int .i64 p), .v (.int .i64 s), .v (.int .i64 v)], [.lst 1 L] => ∃ (bs : List Int) (P S : Nat), L = bs.map byteC ∧ n = bs.length ∧ p = P ∧ s = S ∧ S ≤ 4 ∧ P + S ≤ bs.length ∧ bs.length ≤ 1048576 ∧ 0 ≤ v ∧ v < 4294967296 ∧ K (.tup []) [.lst 1 ((putY bs P v S).map byteC)]
  | _, _ => False
def cx_s_l1Put : Ctx := mkC []
theorem cx_s_l1Put_ok : CtxOk Tryz.prog cx_s_l1Put := cx0_ok
set_option maxRecDepth 100000 in
set_option pp.maxSteps 1500 in
set_option maxHeartbeats 4000000 in
theorem s_l1Put : HSound Tryz.prog 50 (callM [.rw] false hLPut) := by
  refine callM_sound cx_s_l1Put_ok mixed Tryz.func50 rfl fun args hl K hp => ?_
  unfold hLPut at hp
  split at hp
  · rename_i n z p s v L
    obtain ⟨bs, P, S, rfl, rfl, rfl, rfl, hS, hPS, hlen, hv0, hv1, hp⟩ := hp
    refine Exists.intro false (Exists.intro [0, 1, 2, 3, 8] (Exists.intro (fun m vs h => ∃ i : Nat, i ≤ S ∧ m = S - i ∧ (∃ z, vs = [.slc 0 0 bs.length z, .v (.int .i64 P), .v (.int .i64 S), .v (.int .i64 (v / 256 ^ i)), .v (.int .i64 i)]) ∧ h = [.lst 1 ((putY bs P v i).map byteC)]) (And.intro ?_ ?_)))
    · refine Exists.intro S ?_
      exact ⟨0, by omega, rfl, ⟨z, by simp⟩, rfl⟩
    · intro m vs h hI
      obtain ⟨i, hi, rfl, ⟨z, rfl⟩, rfl⟩ := hI
      refine And.intro (fun h1 => ?_) (fun h1 => ?_)
      · simp only [decide_eq_true_eq] at h1
        have hlt : i < S := by omega
        have hq0 : 0 ≤ v / 256 ^ i := Int.ediv_nonneg hv0 (Int.le_of_lt (Int.pow_pos (by omega)))
        have hq1 : v / 256 ^ i ≤ v := Int.ediv_le_self _ hv0
        have hwp : IntKind.i64.wrap ((P : Int) + i) = ((P + i : Nat) : Int) := by rw [wrap64 (by omega)]; simp
        have hb : IntKind.u8.wrap ((v / 256 ^ i).tmod 256) = byteV v i := by
          rw [u8_wrap, Int.tmod_eq_emod_of_nonneg hq0, Int.emod_emod_of_dvd _ (Int.dvd_refl _)]; rfl
        have hd : IntKind.i64.wrap ((v / 256 ^ i).tdiv 256) = v / 256 ^ (i + 1) := by
          rw [Int.tdiv_eq_ediv_of_nonneg hq0, Int.ediv_ediv_of_nonneg (Int.le_of_lt (Int.pow_pos (by omega))), ← Int.pow_succ, wrap64]
          have h3 : 0 ≤ v / 256 ^ (i + 1) := Int.ediv_nonneg hv0 (Int.le_of_lt (Int.pow_pos (by omega)))
          have h4 : v / 256 ^ (i + 1) ≤ v := Int.ediv_le_self _ hv0
          exact ⟨Int.le_trans (by decide) h3, Int.le_trans h4 (by omega)⟩
        have hg : ((putY bs P v i).map byteC)[0 + (P + i)]? = some (byteC (putY bs P v i)[P + i]!) := by
          rw [Nat.zero_add, List.getElem?_map, List.getElem?_eq_getElem (by rw [putY_len]; omega)]
          simp [putY_len, show P + i < bs.length by omega]
        refine And.intro (by decide) ?_
        refine Exists.intro (P + i) (And.intro hwp (And.intro (by omega) ?_))
        refine Exists.intro _ (And.intro hg (And.intro (by decide) ?_))
        refine And.intro (by decide) ?_
        refine Exists.intro (S - (i + 1)) (And.intro (by omega) ⟨i + 1, by omega, rfl, ⟨z, ?_⟩, ?_⟩)
        · rw [hd, wrap_succ hlt (by omega)]
        · rw [hb]
          simp only [putY, List.map_set, Nat.zero_add]
          rfl
      · simp only [decide_eq_false_iff_not] at h1
        have : i = S := by omega
        subst this
        refine And.intro (closed_bytes _) ?_
        exact hp
  · exact hp.elim

theorem closed_bytesA (a b : List Int) : ClosedL (a.map byteC ++ b.map byteC) := by rw [← List.map_append]; exact closed_bytes _
theorem byteV_mod (v : Int) (i : Nat) (hi : i < 4) : byteV (v % 4294967296) i = byteV v i := by
  simp only [byteV]
  have : i = 0 ∨ i = 1 ∨ i = 2 ∨ i = 3 := by omega
  rcases this with rfl | rfl | rfl | rfl <;> simp only [Int.reducePow] <;> omega
theorem putY_mod (r : List Int) (p : Nat) (v : Int) : ∀ n, n ≤ 4 → putY r p (v % 4294967296) n = putY r p v n
  | 0, _ => rfl
  | n + 1, h => by simp only [putY]; rw [putY_mod r p v n (by omega), byteV_mod v n (by omega)]
def AllB (L : List (List AV)) : Prop := ∀ e ∈ L, ∃ b, e = byteC b
theorem allB_map (r : List Int) : AllB (r.map byteC) := fun e he => by
  obtain ⟨b, _, rfl⟩ := List.mem_map.1 he
  exact ⟨b, rfl⟩
theorem allB_set {L : List (List AV)} (h : AllB L) (i : Nat) (x : Int) : AllB (L.set i (byteC x)) := fun e he => by
  rcases List.mem_or_eq_of_mem_set he with h1 | rfl
  · exact h e h1
  · exact ⟨x, rfl⟩
theorem allB_get {L : List (List AV)} (h : AllB L) (i : Nat) (hi : i < L.length) : ∃ b, L[i]? = some (byteC b) := by
  obtain ⟨b, hb⟩ := h L[i] (List.getElem_mem hi)
  exact ⟨b, by rw [List.getElem?_eq_getElem hi, hb]⟩
def shB (v j : Int) : Int := IntKind.u8.wrap (v.fdiv (2 ^ min j.toNat IntKind.i64.bits))
theorem shB_eq (v : Int) : IntKind.u8.wrap v = byteV v 0 ∧ shB v 8 = byteV v 1 ∧ shB v 16 = byteV v 2 ∧ shB v 24 = byteV v 3 := by
  refine ⟨?_, ?_, ?_, ?_⟩
  · rw [u8_wrap]; simp only [byteV, Int.reducePow]; omega
  all_goals
    unfold shB
    rw [u8_wrap, Int.fdiv_eq_ediv_of_nonneg _ (Int.le_of_lt (Int.pow_pos (by omega)))]
    rfl
theorem put_ord (r : List Int) (p : Nat) (v : Int) : (((r.set (p + 3) (byteV v 3)).set (p + 2) (byteV v 2)).set (p + 1) (byteV v 1)).set p (byteV v 0) = putY r p v 4 := by
  apply List.ext_getElem?
  intro j
  simp only [putY, List.getElem?_set, List.length_set, Nat.add_zero]
  by_cases h0 : p = j
  · subst h0
    simp
  · by_cases h1 : p + 1 = j
    · subst h1
      simp
    · by_cases h2 : p + 2 = j
      · subst h2
        simp
      · by_cases h3 : p + 3 = j
        · subst h3
          simp
        · simp [h0, h1, h2, h3]
theorem put_ord2 (r : List Int) (p : Nat) (v : Int) : (r.set (p + 1) (byteV v 1)).set p (byteV v 0) = putY r p v 2 := by
  apply List.ext_getElem?
  intro j
  simp only [putY, List.getElem?_set, List.length_set, Nat.add_zero]
  by_cases h0 : p = j
  · subst h0
    simp
  · by_cases h1 : p + 1 = j
    · subst h1
      simp
    · simp [h0, h1]
def cx_iPut : Ctx := mkC []
theorem cx_iPut_ok : CtxOk Tryz.prog cx_iPut := cx0_ok
def iPut : Handler := inlH cx_iPut Tryz.f111.ntmps Tryz.f111.results.toList (Tryz.f111.body.getD .skip)
theorem s_iPut : HSound Tryz.prog 111 iPut := inlF cx_iPut_ok mixed Tryz.func111 rfl
theorem writeF_fault {f r o : List Int} {a s v : Int} (h : (writeF f r o a s v).2.2 ≠ 0) : (writeF f r o a s v).1 = r ∧ (writeF f r o a s v).2.1 = o := by
  revert h
  unfold writeF
  repeat' split
  all_goals simp
end Go.Proofs.YtbfjkjdbdejnmaaGreat.Ab

/- EncodeModule: the bytes of a module; spec's walk. No condition. -/
namespace Go.Proofs.YtbfjkjdbdejnmaaGreat.Ab
set_option linter.unusedVariables false
set_option linter.unusedSimpArgs false

/-! ### What a sound module is -/

structure GoodM (m : Mo) : Prop where
  name : m.name.size ≤ 12
  tl : m.text.length ≤ 200
  tw : wordsB m.text = true
  bl : m.banks.length ≤ 4
  bk : ∀ b ∈ m.banks, b.length ≤ 64 ∧ wordsB b = true
  dl : m.data.length ≤ 512
  bss : 0 ≤ m.bss ∧ m.bss ≤ 512
  rl : m.rels.length ≤ 16
  rv : ∀ r ∈ m.rels, 0 ≤ r ∧ r ≤ 512
  il : m.imps.length ≤ 16
  iv : ∀ s ∈ m.imps, s.size ≤ 25
  el : m.exps.length ≤ 16
  ev : ∀ e ∈ m.exps, e.n.size ≤ 12 ∧ -1 ≤ e.bank ∧ e.bank ≤ 4 ∧ 0 ≤ e.pos ∧ e.pos ≤ 200
theorem name_sz {s : ByteArray} (h : nameOk s = true) : 1 ≤ s.size ∧ s.size ≤ 12 := by
  simp only [nameOk, Bool.and_eq_true, decide_eq_true_eq] at h
  exact h.2
theorem full_sz {s : ByteArray} (h : fullOk s = true) : s.size ≤ 25 := by
  simp only [fullOk, Bool.and_eq_true, decide_eq_true_eq] at h
  obtain ⟨⟨h1, h2⟩, h3⟩ := h
  obtain ⟨p, hp⟩ := Int.eq_ofNat_of_zero_le h1
  have hlt := (dotI_lt hp).1
  have e0 : (dotI s).toNat = p := by omega
  have a1 := name_sz h2
  have a2 := name_sz h3
  rw [e0, ByteArray.size_extract] at a1 a2
  omega
theorem modOk_parts {m : Mo} (h : modOk m = 0) : nameOk m.name = true ∧ codeB m = true ∧ restB m = true ∧ relsB m.data.length m.rels = true ∧ impsB m = true ∧ expsB m = true := by
  unfold modOk at h
  repeat' split at h
  all_goals first | (exfalso; omega) | skip
  simp_all
theorem good_of {m : Mo} (h : modOk m = 0) : GoodM m := by
  obtain ⟨h1, h2, h3, h4, h5, h6⟩ := modOk_parts h
  simp only [codeB, Bool.and_eq_true, decide_eq_true_eq, List.all_eq_true] at h2
  simp only [restB, Bool.and_eq_true, decide_eq_true_eq] at h3
  simp only [relsB, Bool.and_eq_true, decide_eq_true_eq, List.all_eq_true, List.mem_range] at h4
  simp only [impsB, Bool.and_eq_true, decide_eq_true_eq, List.all_eq_true] at h5
  simp only [expsB, Bool.and_eq_true, decide_eq_true_eq, List.all_eq_true, List.mem_range] at h6
  obtain ⟨⟨⟨c1, c2⟩, c3⟩, c4⟩ := h2
  refine ⟨(name_sz h1).2, c1, c3, c2, fun b hb => ⟨(c4 b hb).1.2, (c4 b hb).2⟩, h3.1.1, ⟨h3.1.2, h3.2⟩, h4.1, fun r hr => ?_, h5.1, fun s hs => full_sz (h5.2 s hs), h6.1, fun e he => ?_⟩
  · obtain ⟨i, hi, rfl⟩ := List.mem_iff_getElem.1 hr
    have := h4.2 i hi
    rw [relB_val (List.getElem?_eq_getElem hi), decide_eq_true_eq] at this
    omega
  · obtain ⟨i, hi, rfl⟩ := List.mem_iff_getElem.1 he
    have := h6.2 i hi
    rw [expB_val (List.getElem?_eq_getElem hi), Bool.and_eq_true] at this
    have hg := this.1
    simp only [goodE, Bool.and_eq_true] at hg
    obtain ⟨g1, g2⟩ := hg
    have g3 := name_sz g1
    generalize m.exps[i] = e at *
    unfold pieceOf at g2
    split at g2
    · rename_i ws hpc
      rw [decide_eq_true_eq] at g2
      split at hpc
      · cases hpc
        omega
      · split at hpc
        · have hb := (c4 ws (List.mem_of_getElem? hpc)).1.2
          omega
        · cases hpc
    · cases g2
end Go.Proofs.YtbfjkjdbdejnmaaGreat.Ab

/- Link: what it answers, in plain words. No condition. -/
namespace Go.Proofs.YtbfjkjdbdejnmaaGreat.Ab
set_option linter.unusedVariables false
set_option linter.unusedSimpArgs false

structure Cf where
  slots : Int
  words : Int
  stack : Int
  depth : Int
def cfgB (c : Cf) : Bool := decide (0 ≤ c.slots ∧ c.slots ≤ 4 ∧ 1 ≤ c.words ∧ c.words ≤ 64 ∧ 0 ≤ c.stack ∧ c.stack ≤ 1024 ∧ c.stack.tmod 32 = 0 ∧ 0 ≤ c.depth ∧ c.depth ≤ 100)
def newB (ms : List Mo) (i : Nat) : Bool := match ms[i]? with | some m => !seenB ms i m.name | none => true
def soundF (ms : List Mo) (c : Cf) : Int :=
  if cfgB c = false then 1 else if decide (1 ≤ ms.length ∧ ms.length ≤ 4) = false then 2 else if ms.all (fun m => decide (modOk m = 0)) = false then 3 else if (List.range ms.length).all (newB ms) = false then 4 else 0
def tgOf (p : Nat × Ex) : Tg := ⟨p.1, p.2.bank, p.2.pos⟩
def tgsOf (ms : List Mo) (l : List ByteArray) : List Tg := l.filterMap fun s => (resolveF ms s).map tgOf
def resB (ms : List Mo) (l : List ByteArray) : Bool := l.all fun s => (resolveF ms s).isSome
def bankB (c : Cf) (m : Mo) : Bool := m.banks.all fun b => decide ((b.length : Int) ≤ c.words)
def longB (ms : List Mo) (c : Cf) : Bool := decide (0 < c.slots) && !ms.all (bankB c)
def rup (n : Nat) : Nat := (n + 31) / 32 * 32
def bkP (bs : List (List Int)) (f : Nat) : Nat → List Int × Nat
  | 0 => ([], f)
  | k + 1 => match bs[k]? with
    | some b => ((bkP bs f k).1 ++ [((bkP bs f k).2 : Int)], (bkP bs f k).2 + rup (4 * b.length))
    | none => bkP bs f k
def moSz (m : Mo) : Nat := rup (m.data.length + m.bss.toNat)
def plP (ms : List Mo) : Nat → List Pl × Nat × Nat
  | 0 => ([], 0, 0)
  | i + 1 => match ms[i]? with
    | some m => ((plP ms i).1 ++ [⟨(plP ms i).2.1, (bkP m.banks ((plP ms i).2.1 + rup (4 * m.text.length)) m.banks.length).1, 65536 + ((plP ms i).2.2 : Int), moSz m⟩], (bkP m.banks ((plP ms i).2.1 + rup (4 * m.text.length)) m.banks.length).2, (plP ms i).2.2 + moSz m)
    | none => plP ms i
def slP (w r : Nat) : Nat → List Int × Nat
  | 0 => ([], r)
  | k + 1 => ((slP w r k).1 ++ [65536 + ((slP w r k).2 : Int)], (slP w r k).2 + rup (4 * w))
structure La where
  pls : List Pl
  stack : Int
  slots : List Int
  flash : Int
  ram : Int
  tgts : List (List Tg)
def laF (ms : List Mo) (c : Cf) : La :=
  ⟨(plP ms ms.length).1, 65536 + ((plP ms ms.length).2.2 : Int), (slP c.words.toNat ((plP ms ms.length).2.2 + c.stack.toNat) c.slots.toNat).1, (plP ms ms.length).2.1, (slP c.words.toNat ((plP ms ms.length).2.2 + c.stack.toNat) c.slots.toNat).2, ms.map fun m => tgsOf ms m.imps⟩
def linkC (ms : List Mo) (c : Cf) : Int :=
  if soundF ms c ≠ 0 then soundF ms c else if ms.all (fun m => resB ms m.imps) = false then 5 else if longB ms c = true then 6 else if 16384 < (laF ms c).flash then 7 else if 16384 < (laF ms c).ram then 8 else 0
def zeroLa : La := ⟨[], 0, [], 0, 0, []⟩
def linkL (ms : List Mo) (c : Cf) : La := if linkC ms c = 0 then laF ms c else zeroLa

/-! ### What modules that pass are like -/

structure Sound (ms : List Mo) (c : Cf) : Prop where
  cfg : 0 ≤ c.slots ∧ c.slots ≤ 4 ∧ 1 ≤ c.words ∧ c.words ≤ 64 ∧ 0 ≤ c.stack ∧ c.stack ≤ 1024 ∧ c.stack.tmod 32 = 0
  len : 1 ≤ ms.length ∧ ms.length ≤ 4
  mo : ∀ m ∈ ms, GoodM m
  full : ∀ m ∈ ms, ∀ s ∈ m.imps, fullOk s = true
theorem full_of {m : Mo} (h : modOk m = 0) : ∀ s ∈ m.imps, fullOk s = true := by
  obtain ⟨_, _, _, _, h5, _⟩ := modOk_parts h
  simp only [impsB, Bool.and_eq_true, List.all_eq_true] at h5
  exact h5.2
theorem sound_of {ms : List Mo} {c : Cf} (h : soundF ms c = 0) : Sound ms c := by
  unfold soundF at h
  repeat' split at h
  all_goals first | (exfalso; omega) | skip
  rename_i h1 h2 h3 h4
  simp only [cfgB, Bool.not_eq_false, decide_eq_true_eq, List.all_eq_true] at h1 h2 h3
  exact ⟨⟨h1.1, h1.2.1, h1.2.2.1, h1.2.2.2.1, h1.2.2.2.2.1, h1.2.2.2.2.2.1, h1.2.2.2.2.2.2.1⟩, h2, fun m hm => good_of (h3 m hm), fun m hm => full_of (h3 m hm)⟩
theorem res_eq {ms : List Mo} (hl : ms.length ≤ 4) (hg : ∀ m ∈ ms, GoodM m) {s : ByteArray} (hf : fullOk s = true) : namesP ms ms.length s = resolveF ms s := by
  have e := names_res (ms := ms) hf ms.length (Nat.le_refl _)
  rw [List.take_length] at e
  rw [e]
  have : ms.all (fun m => decide (m.exps.length ≤ 16)) = true := by
    rw [List.all_eq_true]
    intro q hq
    simpa using (hg q hq).el
  simp only [resolveF, decide_eq_true hl, hf, this, Bool.and_true]
theorem rup_le (n : Nat) : rup n ≤ n + 31 := by unfold rup; omega
theorem rup_mod (n : Nat) : rup n % 32 = 0 := by unfold rup; omega
theorem rup_id {n : Nat} (h : n % 32 = 0) : rup n = n := by unfold rup; omega
theorem bkP_len (bs : List (List Int)) (f : Nat) {k : Nat} (h : k ≤ bs.length) : (bkP bs f k).1.length = k := by
  induction k with
  | zero => rfl
  | succ k ih => simp only [bkP, List.getElem?_eq_getElem (show k < bs.length by omega)]; simp [ih (by omega)]
theorem bkP_le {bs : List (List Int)} (hb : ∀ b ∈ bs, b.length ≤ 64) (f k : Nat) : (bkP bs f k).2 ≤ f + 287 * k := by
  induction k with
  | zero => simp [bkP]
  | succ k ih =>
    unfold bkP
    split
    · rename_i b h
      have := hb b (List.mem_of_getElem? h)
      have := rup_le (4 * b.length)
      simp only
      omega
    · omega
theorem bkP_at (bs : List (List Int)) (f : Nat) {k : Nat} {b : List Int} (h : bs[k]? = some b) : bkP bs f (k + 1) = ((bkP bs f k).1 ++ [((bkP bs f k).2 : Int)], (bkP bs f k).2 + rup (4 * b.length)) := by
  rw [bkP, h]
theorem plP_at {ms : List Mo} {i : Nat} {m : Mo} (h : ms[i]? = some m) : plP ms (i + 1) = ((plP ms i).1 ++ [⟨(plP ms i).2.1, (bkP m.banks ((plP ms i).2.1 + rup (4 * m.text.length)) m.banks.length).1, 65536 + ((plP ms i).2.2 : Int), moSz m⟩], (bkP m.banks ((plP ms i).2.1 + rup (4 * m.text.length)) m.banks.length).2, (plP ms i).2.2 + moSz m) := by
  rw [plP, h]
theorem plP_le {ms : List Mo} (hg : ∀ m ∈ ms, GoodM m) (i : Nat) : (plP ms i).2.1 ≤ 1979 * i ∧ (plP ms i).2.2 ≤ 1055 * i := by
  induction i with
  | zero => simp [plP]
  | succ i ih =>
    unfold plP
    split
    · rename_i m h
      have g := hg m (List.mem_of_getElem? h)
      have h1 := bkP_le (fun b hb => (g.bk b hb).1) ((plP ms i).2.1 + rup (4 * m.text.length)) m.banks.length
      have h2 := rup_le (4 * m.text.length)
      have h3 := rup_le (m.data.length + m.bss.toNat)
      have h4 := g.tl
      have h5 := g.bl
      have h6 := g.dl
      have h7 := g.bss
      simp only [moSz]
      omega
    · omega
theorem plP_ram (ms : List Mo) (i : Nat) : (plP ms i).2.2 % 32 = 0 := by
  induction i with
  | zero => rfl
  | succ i ih =>
    unfold plP
    split
    · rename_i m h
      have := rup_mod (m.data.length + m.bss.toNat)
      simp only [moSz]
      omega
    · exact ih
theorem plP_len {ms : List Mo} {i : Nat} (h : i ≤ ms.length) : (plP ms i).1.length = i := by
  induction i with
  | zero => rfl
  | succ i ih => simp only [plP, List.getElem?_eq_getElem (show i < ms.length by omega)]; simp [ih (by omega)]
theorem slP_len (w r k : Nat) : (slP w r k).1.length = k := by
  induction k with
  | zero => rfl
  | succ k ih => simp [slP, ih]
theorem slP_le {w : Nat} (hw : w ≤ 64) (r k : Nat) : (slP w r k).2 ≤ r + 287 * k := by
  induction k with
  | zero => simp [slP]
  | succ k ih =>
    have := rup_le (4 * w)
    simp only [slP]
    omega
theorem tgs_at {ms : List Mo} {l : List ByteArray} {i : Nat} {s : ByteArray} {p : Nat × Ex} (h : l[i]? = some s) (hr : resolveF ms s = some p) : tgsOf ms (l.take (i + 1)) = tgsOf ms (l.take i) ++ [tgOf p] := by
  unfold tgsOf
  rw [List.take_add_one, h]
  simp [hr]
/-- Rounded up, in the program's numbers. -/
theorem rup_wrap {n : Nat} (h : n ≤ 1099511627776) : IntKind.i64.wrap (IntKind.i64.wrap ((IntKind.i64.wrap (IntKind.i64.wrap ((n : Int) + 32) - 1)).tdiv 32) * 32) = (rup n : Int) := by
  rw [wrap64 (x := (n : Int) + 32) (by omega), wrap64 (x := (n : Int) + 32 - 1) (by omega), Int.tdiv_eq_ediv_of_nonneg (by omega), wrap64 (x := ((n : Int) + 32 - 1) / 32) (by omega), wrap64 (by omega)]
  unfold rup
  omega
end Go.Proofs.YtbfjkjdbdejnmaaGreat.Ab
