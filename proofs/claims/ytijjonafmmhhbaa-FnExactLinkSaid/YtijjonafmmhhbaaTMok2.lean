/- ModuleOk of impl. No condition. -/
import Derived.Test.YtijjonafmmhhbaaTMok
import Derived.Test.YtijjonafmmhhbaaTRes1
namespace Go.Proofs.Ytijjonafmmhhbaa.Ab
set_option linter.unusedVariables false
set_option linter.unusedSimpArgs false

def BoxM (cells : List AV) (m : Mo) : Prop := ∃ b1 z1 b2 z2 b3 z3 b4 z4 b5 z5 b6 z6, cells = cellsM m b1 z1 b2 z2 b3 z3 b4 z4 b5 z5 b6 z6
def hHasP : CH := fun args hl K => match args, hl with
  | [.ptr 0 0 0 _, .v (.int .i64 b)], [.box cells] => ∃ m, BoxM cells m ∧ smMo m ∧ K (.v (.bool (pieceOf m b).isSome)) [.box cells]
  | _, _ => False
theorem piece_some {m : Mo} {b : Int} : (pieceOf m b).isSome = decide (-1 ≤ b ∧ b < m.banks.length) := by
  rw [Bool.eq_iff_iff, decide_eq_true_eq]
  unfold pieceOf
  split
  · simp; omega
  · split
    · obtain ⟨j, rfl⟩ := Int.eq_ofNat_of_zero_le (by omega : 0 ≤ b)
      rw [Int.toNat_natCast, List.getElem?_eq_getElem (by omega)]
      simp; omega
    · simp; omega
def cx_s_hasPiece : Ctx := mkC []
theorem cx_s_hasPiece_ok : CtxOk Try.prog cx_s_hasPiece := cx0_ok
set_option maxRecDepth 100000 in
set_option pp.maxSteps 1500 in
set_option maxHeartbeats 4000000 in
theorem s_hasPiece : HSound Try.prog 94 (callM [.rw] false hHasP) := by
  refine callM_sound cx_s_hasPiece_ok mixed Try.func94 rfl fun args hl K hp => ?_
  unfold hHasP at hp
  split at hp
  · rename_i n b cells
    obtain ⟨m, ⟨b1, z1, b2, z2, b3, z3, b4, z4, b5, z5, b6, z6, rfl⟩, hb, hp⟩ := hp
    rw [piece_some] at hp
    repeat' ((first
      | refine And.intro (fun h2 => ?_) (fun h2 => ?_)
      | fail) <;> try cases h2)
    · refine fin_b hp ?_
      have h2 := of_decide_eq_true h2
      rw [List.length_map]
      rw [decide_eq_decide]
      omega
    · have h2 := of_decide_eq_false h2
      refine fin_b hp (decide_eq_false ?_)
      omega
  · exact hp.elim
def hPieceI : CH := fun args hl K => match args, hl with
  | [.ptr 0 0 0 _, .v (.int .i64 b)], [.box cells] => ∃ m ws b1 z1 b2 z2 b3 z3 b4 z4 b5 z5 b6 z6, cells = cellsM m b1 z1 b2 z2 b3 z3 b4 z4 b5 z5 b6 z6 ∧ smMo m ∧ pieceOf m b = some ws ∧ K (.imm (bif b == -1 then b1 else b2) (bif b == -1 then z1 else false) 1 (ws.map intC)) [.box cells]
  | _, _ => False
def cx_s_pieceI : Ctx := mkC []
theorem cx_s_pieceI_ok : CtxOk Try.prog cx_s_pieceI := cx0_ok
set_option maxRecDepth 100000 in
set_option pp.maxSteps 1500 in
set_option maxHeartbeats 4000000 in
theorem s_pieceI : HSound Try.prog 95 (callM [.rw] false hPieceI) := by
  refine callM_sound cx_s_pieceI_ok mixed Try.func95 rfl fun args hl K hp => ?_
  unfold hPieceI at hp
  split at hp
  · rename_i n b cells
    obtain ⟨m, ws, b1, z1, b2, z2, b3, z3, b4, z4, b5, z5, b6, z6, rfl, hb, he, hp⟩ := hp
    have hs : (pieceOf m b).isSome = true := by rw [he]; rfl
    rw [piece_some, decide_eq_true_eq] at hs
    refine Or.inl ?_
    refine And.intro (fun h2 => ?_) (fun h2 => ?_)
    · have h2 := of_decide_eq_true h2
      rw [show pieceOf m b = some m.text from if_pos (by omega)] at he
      cases he
      rw [show (b == -1) = true from by simp; omega] at hp
      exact hp
    · have h2 := of_decide_eq_false h2
      obtain ⟨j, rfl⟩ := Int.eq_ofNat_of_zero_le (by omega : 0 ≤ b)
      have hg : m.banks[j]? = some m.banks[j] := List.getElem?_eq_getElem (by omega)
      rw [show pieceOf m (j : Int) = m.banks[j]? from by unfold pieceOf; rw [if_neg (by omega), if_pos (by omega), Int.toNat_natCast], hg] at he
      cases he
      refine Exists.intro j (And.intro rfl (Exists.intro (bankC m.banks[j]) (And.intro (get_map hg) ?_)))
      rw [show ((j : Int) == -1) = false from by simp] at hp
      exact hp
  · exact hp.elim
def hGoodE : CH := fun args hl K => match args, hl with
  | [.ptr 0 0 0 _, .agg [.v (.string n), .v (.int .i64 bk), .v (.int .i64 ps)]], [.box cells] => ∃ m, BoxM cells m ∧ smMo m ∧ n.size ≤ 1048576 ∧ K (.v (.bool (goodE m ⟨n, bk, ps⟩))) [.box cells]
  | _, _ => False
def cx_s_goodExport : Ctx := mkC [(42, callM [] false hName), (94, callM [.rw] false hHasP), (95, callM [.rw] false hPieceI)]
theorem cx_s_goodExport_ok : CtxOk Try.prog cx_s_goodExport := mkC_ok (mem1 ⟨s_isName, fnOk Try.func42 rfl rfl⟩ (mem1 ⟨s_hasPiece, fnOk Try.func94 rfl rfl⟩ (mem1 ⟨s_pieceI, fnOk Try.func95 rfl rfl⟩ mem0)))
set_option maxRecDepth 100000 in
set_option pp.maxSteps 1500 in
set_option maxHeartbeats 8000000 in
theorem s_goodExport : HSound Try.prog 45 (callM [.rw] false hGoodE) := by
  refine callM_sound cx_s_goodExport_ok mixed Try.func45 rfl fun args hl K hp => ?_
  unfold hGoodE at hp
  split at hp
  · rename_i k n bk ps cells
    obtain ⟨m, ⟨b1, z1, b2, z2, b3, z3, b4, z4, b5, z5, b6, z6, rfl⟩, hb, hn, hp⟩ := hp
    refine Or.inl ?_
    refine And.intro (show wfB _ = true from by kernel_rfl) ?_
    have key : ∀ e : Ex, goodE m e = (nameOk e.n && ((pieceOf m e.bank).isSome && (decide (e.pos ≥ 0) && match pieceOf m e.bank with | some ws => decide (e.pos < ws.length) | none => false))) := by
      intro e
      unfold goodE
      cases pieceOf m e.bank with
      | none => simp
      | some ws =>
        simp only [Option.isSome_some, Bool.true_and, Bool.decide_and, ge_iff_le]
    rw [key] at hp
    simp only at hp
    clear key
    apply HeldC.intro
    · refine And.intro hn ?_
      exact And.intro rfl rfl
    cases h1 : nameOk n with
    | false =>
      rw [h1] at hp
      repeat' ((first
        | refine And.intro (fun h2 => ?_) (fun h2 => ?_)
        | refine And.intro (And.intro rfl rfl) ?_
        | exact And.intro rfl rfl
        | fail) <;> try cases h2)
      all_goals exact hp
    | true =>
      rw [h1] at hp
      repeat' ((first
        | refine And.intro (fun h2 => ?_) (fun h2 => ?_)
        | refine And.intro (And.intro rfl rfl) ?_
        | exact And.intro rfl rfl
        | fail) <;> try cases h2)
      apply HeldC.intro
      · refine Exists.intro m (And.intro ⟨_, _, _, _, _, _, _, _, _, _, _, _, rfl⟩ (And.intro hb ?_))
        exact And.intro rfl rfl
      cases hpc : pieceOf m bk with
      | none =>
        rw [hpc] at hp
        repeat' ((first
          | refine And.intro (fun h2 => ?_) (fun h2 => ?_)
          | refine And.intro (And.intro rfl rfl) ?_
          | exact And.intro rfl rfl
          | fail) <;> try cases h2)
        all_goals exact hp
      | some ws =>
        rw [hpc] at hp
        simp only [Option.isSome_some, Bool.true_and] at hp
        repeat' ((first
          | refine And.intro (fun h2 => ?_) (fun h2 => ?_)
          | refine And.intro (And.intro rfl rfl) ?_
          | exact And.intro rfl rfl
          | fail) <;> try cases h2)
        · rw [h2, Bool.true_and] at hp
          apply HeldC.intro
          · refine Exists.intro m (Exists.intro ws (Exists.intro b1 (Exists.intro z1 (Exists.intro b2 (Exists.intro z2 (Exists.intro b3 (Exists.intro z3 (Exists.intro b4 (Exists.intro z4 (Exists.intro b5 (Exists.intro z5 (Exists.intro b6 (Exists.intro z6 (And.intro rfl (And.intro hb (And.intro hpc ?_))))))))))))))))
            exact And.intro rfl rfl
          repeat' ((first
            | refine And.intro (fun h2 => ?_) (fun h2 => ?_)
            | refine And.intro (And.intro rfl rfl) ?_
            | exact And.intro rfl rfl
            | fail) <;> try cases h2)
          refine fin_b hp ?_
          rw [List.length_map]
        · rw [h2, Bool.false_and] at hp
          exact hp
  · exact hp.elim

def seenE (l : List Ex) (q : ByteArray) : Bool := l.any fun e => decide (e.n = q)
def cx_s_impl_ModuleOk : Ctx := mkC [(42, callM [] false hName), (43, callM [] true hWords), (44, callM [] false hHalves), (45, callM [.rw] false hGoodE)]
theorem cx_s_impl_ModuleOk_ok : CtxOk Try.prog cx_s_impl_ModuleOk := mkC_ok (mem1 ⟨s_isName, fnOk Try.func42 rfl rfl⟩ (mem1 ⟨s_words, fnOk Try.func43 rfl rfl⟩ (mem1 ⟨s_halves, fnOk Try.func44 rfl rfl⟩ (mem1 ⟨s_goodExport, fnOk Try.func45 rfl rfl⟩ mem0))))
set_option maxRecDepth 100000 in
set_option pp.maxSteps 1500 in
set_option maxHeartbeats 16000000 in
theorem s_impl_ModuleOk : HSound Try.prog 10 (callM [] true hModOk) := by
  refine callM_sound cx_s_impl_ModuleOk_ok mixed Try.func10 rfl fun args hl K hp => ?_
  unfold hModOk at hp
  split at hp
  · rename_i a
    obtain ⟨m, ⟨b1, z1, b2, z2, b3, z3, b4, z4, b5, z5, b6, z6, rfl⟩, hb, hp⟩ := hp
    have him := hb.imps
    have g1 := hb.text
    have hrl := hb.rels
    have hdl := hb.data
    refine And.intro hb.name ?_
    refine And.intro (fun h => ?_) (fun h => ?_)
    · have h : nameOk m.name = false := by simpa using h
      exact fin_i hp (by simp only [modOk, h, if_true])
    have e1 : nameOk m.name = true := by simpa using h
    clear h
    have f2 : codeB m = false → modOk m = 2 := fun h => by simp only [modOk, e1, h, if_true, Bool.true_eq_false, if_false]
    repeat' ((first
      | refine And.intro (fun h2 => ?_) (fun h2 => ?_)
      | refine Exists.intro m.text (And.intro rfl (And.intro g1 ?_))
      | fail) <;> try cases h2)
    · have h1 := of_decide_eq_true h2
      rw [List.length_map] at h1
      refine fin_i hp (f2 ?_)
      simp only [codeB, decide_eq_false (by omega : ¬ m.text.length ≤ 200), Bool.false_and]
    · have h1 := of_decide_eq_true h2
      rw [List.length_map] at h1
      refine fin_i hp (f2 ?_)
      simp only [codeB, decide_eq_false (by omega : ¬ m.banks.length ≤ 4), Bool.false_and, Bool.and_false]
    · have h1 : wordsB m.text = false := by simpa using h2
      refine fin_i hp (f2 ?_)
      simp only [codeB, h1, Bool.false_and, Bool.and_false]
    rename_i q1 q2
    have q1 := of_decide_eq_false q1
    have q2 := of_decide_eq_false q2
    rw [List.length_map] at q1 q2
    have q3 : wordsB m.text = true := by simpa using h2
    clear h2
    have e : codeB m = m.banks.all fun b => decide (1 ≤ b.length ∧ b.length ≤ 64) && wordsB b := by
      simp only [codeB, decide_eq_true (by omega : m.text.length ≤ 200), decide_eq_true (by omega : m.banks.length ≤ 4), q3, Bool.true_and]
    rw [e] at f2
    refine Exists.intro true (Exists.intro [1, 36, 37, 38] (Exists.intro (fun n vs h => ∃ i : Nat, i ≤ m.banks.length ∧ n = m.banks.length - i ∧ (m.banks.take i).all (fun b => decide (1 ≤ b.length ∧ b.length ≤ 64) && wordsB b) = true ∧ vs = [.ptr 0 0 0 8, .imm b2 z2 1 (m.banks.map bankC), .v (.int .i64 m.banks.length), .v (.int .i64 i)] ∧ h = [.box (cellsM m b1 z1 b2 z2 b3 z3 b4 z4 b5 z5 b6 z6)]) (And.intro ?_ ?_)))
    · refine Exists.intro [] (Exists.intro m.banks.length ?_)
      exact ⟨0, by omega, rfl, rfl, by rw [List.length_map]; rfl, rfl⟩
    intro n vs h hI
    obtain ⟨i, hi, rfl, hall, rfl, rfl⟩ := hI
    refine And.intro (fun h1 => ?_) (fun h1 => ?_)
    · simp only [decide_eq_true_eq] at h1
      have hlt : i < m.banks.length := by omega
      obtain ⟨b, hbi⟩ : ∃ b, m.banks[i]? = some b := ⟨_, List.getElem?_eq_getElem hlt⟩
      have hbl := hb.bank b (List.mem_of_getElem? hbi)
      have hil : m.banks.length ≤ 1048576 := hb.banks
      refine Exists.intro i (And.intro rfl (Exists.intro (bankC b) (And.intro (get_map hbi) ?_)))
      repeat' ((first
        | refine And.intro (fun h2 => ?_) (fun h2 => ?_)
        | refine Exists.intro b (And.intro rfl (And.intro hbl ?_))
        | fail) <;> try cases h2)
      · have h2 := of_decide_eq_true h2
        rw [List.length_map] at h2
        refine fin_i hp (f2 (all_bad hbi ?_))
        rw [decide_eq_false (by omega), Bool.false_and]
      · have h2 := of_decide_eq_true h2
        rw [List.length_map] at h2
        refine fin_i hp (f2 (all_bad hbi ?_))
        rw [decide_eq_false (by omega), Bool.false_and]
      · have h2 : wordsB b = false := by simpa using h2
        refine fin_i hp (f2 (all_bad hbi ?_))
        rw [h2, Bool.and_false]
      · rename_i r1 r2
        have r1 := of_decide_eq_false r1
        have r2 := of_decide_eq_false r2
        rw [List.length_map] at r1 r2
        have h2 : wordsB b = true := by simpa using h2
        refine Exists.intro [] (Exists.intro (m.banks.length - (i + 1)) (And.intro (by omega) ⟨i + 1, by omega, rfl, all_take hbi hall ?_, ?_, rfl⟩))
        · rw [h2, decide_eq_true (by omega)]
          rfl
        · rw [wrap_succ hlt (by omega)]
    simp only [decide_eq_false_iff_not] at h1
    rw [List.take_of_length_le (by omega)] at hall
    have e2 : codeB m = true := by rw [e]; exact hall
    clear f2 e q1 q2 q3 hall h1 hi
    have f3 : restB m = false → modOk m = 3 := fun h => by simp only [modOk, e1, e2, h, if_true, Bool.true_eq_false, if_false]
    repeat' ((first
      | refine And.intro (fun h2 => ?_) (fun h2 => ?_)
      | fail) <;> try cases h2)
    · have h2 := of_decide_eq_true h2
      rw [List.length_map] at h2
      exact fin_i hp (f3 (by simp only [restB, decide_eq_false (by omega : ¬ m.data.length ≤ 512), Bool.false_and]))
    · have h2 := of_decide_eq_true h2
      exact fin_i hp (f3 (by simp only [restB, decide_eq_false (by omega : ¬ 0 ≤ m.bss), Bool.false_and, Bool.and_false]))
    · have h2 := of_decide_eq_true h2
      exact fin_i hp (f3 (by simp only [restB, decide_eq_false (by omega : ¬ m.bss ≤ 512), Bool.false_and, Bool.and_false]))
    · rename_i q1 q2 q3
      have h2 := of_decide_eq_true h2
      have q1 := of_decide_eq_false q1
      have q2 := of_decide_eq_false q2
      have q3 := of_decide_eq_false q3
      rw [List.length_map] at q1 h2
      have e3 : restB m = true := by simp only [restB, decide_eq_true (by omega : m.data.length ≤ 512), decide_eq_true (by omega : m.bss ≤ 512), decide_eq_true (by omega : 0 ≤ m.bss), Bool.and_true]
      have : relsB m.data.length m.rels = false := by simp only [relsB, decide_eq_false (by omega : ¬ m.rels.length ≤ 16), Bool.false_and]
      exact fin_i hp (by simp only [modOk, e1, e2, e3, this, if_true, Bool.true_eq_false, if_false])
    rename_i q1 q2 q3
    have q1 := of_decide_eq_false q1
    have q2 := of_decide_eq_false q2
    have q3 := of_decide_eq_false q3
    have h2 := of_decide_eq_false h2
    rw [List.length_map] at q1 h2
    have e3 : restB m = true := by simp only [restB, decide_eq_true (by omega : m.data.length ≤ 512), decide_eq_true (by omega : m.bss ≤ 512), decide_eq_true (by omega : 0 ≤ m.bss), Bool.and_true]
    have f4 : relsB m.data.length m.rels = false → modOk m = 4 := fun h => by simp only [modOk, e1, e2, e3, h, if_true, Bool.true_eq_false, if_false]
    have er : relsB m.data.length m.rels = (List.range m.rels.length).all (relB m.data.length m.rels) := by
      simp only [relsB, decide_eq_true (by omega : m.rels.length ≤ 16), Bool.true_and]
    rw [er] at f4
    refine Exists.intro true (Exists.intro [1, 75, 76, 77] (Exists.intro (fun n vs h => ∃ i : Nat, i ≤ m.rels.length ∧ n = m.rels.length - i ∧ (∀ k < i, relB m.data.length m.rels k = true) ∧ vs = [.ptr 0 0 0 8, .imm b4 z4 1 (m.rels.map intC), .v (.int .i64 m.rels.length), .v (.int .i64 i)] ∧ h = [.box (cellsM m b1 z1 b2 z2 b3 z3 b4 z4 b5 z5 b6 z6)]) (And.intro ?_ ?_)))
    · refine Exists.intro [] (Exists.intro m.rels.length ?_)
      exact ⟨0, by omega, rfl, fun k hk => by omega, by rw [List.length_map]; rfl, rfl⟩
    intro n vs h hI
    obtain ⟨i, hi, rfl, hall, rfl, rfl⟩ := hI
    refine And.intro (fun h1 => ?_) (fun h1 => ?_)
    · simp only [decide_eq_true_eq] at h1
      have hlt : i < m.rels.length := by omega
      obtain ⟨r, hri⟩ : ∃ r, m.rels[i]? = some r := ⟨_, List.getElem?_eq_getElem hlt⟩
      have er2 := relB_val (d := m.data.length) hri
      have hw : IntKind.i64.wrap (((m.data.map byteC).length : Int) - 4) = (m.data.length : Int) - 4 := by rw [List.length_map]; exact wrap64 (by omega)
      refine Exists.intro i (And.intro rfl (Exists.intro (intC r) (And.intro (get_map hri) ?_)))
      have prev : 0 < i → ∃ q, m.rels[i - 1]? = some q ∧ m.rels.getD (i - 1) 0 = q := fun h0 => by
        obtain ⟨q, hq⟩ : ∃ q, m.rels[i - 1]? = some q := ⟨_, List.getElem?_eq_getElem (by omega)⟩
        exact ⟨q, hq, by simp [List.getD_eq_getElem?_getD, hq]⟩
      repeat' ((first
        | refine And.intro (fun h2 => ?_) (fun h2 => ?_)
        | refine And.intro (by decide) ?_
        | (obtain ⟨q, hq, hq2⟩ := prev (by simp only [decide_eq_true_eq] at *; omega)
           refine Exists.intro (i - 1) (And.intro (by rw [wrap64 (by omega)]; simp only [decide_eq_true_eq] at *; omega) (Exists.intro (intC q) (And.intro (get_map hq) ?_))))
        | fail) <;> try cases h2)
      all_goals clear prev
      all_goals rw [hw] at *
      all_goals simp only [decide_eq_true_eq, decide_eq_false_iff_not, bne_iff_ne, ne_eq, bne_eq_false_iff_eq, Decidable.not_not] at *
      all_goals first
        | (refine fin_i hp (f4 (range_bad hlt ?_))
           rw [er2]
           refine decide_eq_false ?_
           omega)
        | (refine Exists.intro [] (Exists.intro (m.rels.length - (i + 1)) (And.intro (by omega) ⟨i + 1, by omega, rfl, lt_step hall ?_, ?_, rfl⟩))
           · rw [er2]
             refine decide_eq_true ?_
             omega
           · rw [wrap_succ hlt (by omega)])
    simp only [decide_eq_false_iff_not] at h1
    have e4 : relsB m.data.length m.rels = true := by
      rw [er]
      exact range_all fun k hk => hall k (by omega)
    clear f4 er hall h1 hi f3 q1 q2 q3 h2
    have f5 : impsB m = false → modOk m = 5 := fun h => by simp only [modOk, e1, e2, e3, e4, h, if_true, Bool.true_eq_false, if_false]
    refine And.intro (fun h => ?_) (fun h => ?_)
    · have h := of_decide_eq_true h
      rw [List.length_map] at h
      exact fin_i hp (f5 (by simp only [impsB, decide_eq_false (by omega : ¬ m.imps.length ≤ 16), Bool.false_and]))
    have h := of_decide_eq_false h
    rw [List.length_map] at h
    have ei : impsB m = m.imps.all fullOk := by simp only [impsB, decide_eq_true (by omega : m.imps.length ≤ 16), Bool.true_and]
    rw [ei] at f5
    refine Exists.intro true (Exists.intro [1, 117, 118, 119] (Exists.intro (fun n vs h => ∃ i : Nat, i ≤ m.imps.length ∧ n = m.imps.length - i ∧ (m.imps.take i).all fullOk = true ∧ vs = [.ptr 0 0 0 8, .imm b5 z5 1 (m.imps.map strC), .v (.int .i64 m.imps.length), .v (.int .i64 i)] ∧ h = [.box (cellsM m b1 z1 b2 z2 b3 z3 b4 z4 b5 z5 b6 z6)]) (And.intro ?_ ?_)))
    · refine Exists.intro [] (Exists.intro m.imps.length ?_)
      exact ⟨0, by omega, rfl, rfl, by rw [List.length_map]; rfl, rfl⟩
    intro n vs h hI
    obtain ⟨i, hi, rfl, hall, rfl, rfl⟩ := hI
    refine And.intro (fun h1 => ?_) (fun h1 => ?_)
    · simp only [decide_eq_true_eq] at h1
      have hlt : i < m.imps.length := by omega
      obtain ⟨s, hsi⟩ : ∃ s, m.imps[i]? = some s := ⟨_, List.getElem?_eq_getElem hlt⟩
      have hss := hb.imp s (List.mem_of_getElem? hsi)
      refine Exists.intro i (And.intro rfl (Exists.intro (strC s) (And.intro (get_map hsi) ?_)))
      refine And.intro hss (fun a b hab => ?_)
      refine And.intro (fun h3 => ?_) (fun h3 => ?_)
      · exact fin_i hp (f5 (all_bad hsi (by simpa using h3)))
      · refine Exists.intro [] (Exists.intro (m.imps.length - (i + 1)) (And.intro (by omega) ⟨i + 1, by omega, rfl, all_take hsi hall (by simpa using h3), ?_, rfl⟩))
        rw [wrap_succ hlt (by omega)]
    simp only [decide_eq_false_iff_not] at h1
    rw [List.take_of_length_le (by omega)] at hall
    have e5 : impsB m = true := by rw [ei]; exact hall
    clear f5 ei hall h1 hi h
    have f6 : expsB m = false → modOk m = 6 := fun h => by simp only [modOk, e1, e2, e3, e4, e5, h, if_true, Bool.true_eq_false, if_false]
    refine And.intro (fun h => ?_) (fun h => ?_)
    · have h := of_decide_eq_true h
      rw [List.length_map] at h
      exact fin_i hp (f6 (by simp only [expsB, decide_eq_false (by omega : ¬ m.exps.length ≤ 16), Bool.false_and]))
    have h := of_decide_eq_false h
    rw [List.length_map] at h
    have ee : expsB m = (List.range m.exps.length).all (expB m) := by
      simp only [expsB, decide_eq_true (by omega : m.exps.length ≤ 16), Bool.true_and]
    rw [ee] at f6
    refine Exists.intro true (Exists.intro [1, 12, 138, 139, 140] (Exists.intro (fun n vs h => ∃ (i : Nat) (S : List (MK × Value)), i ≤ m.exps.length ∧ n = m.exps.length - i ∧ (∀ k < i, expB m k = true) ∧ (∀ q, mapFind (.s q) S = match seenE (m.exps.take i) q with | true => some (.bool true) | false => none) ∧ vs = [.ptr 0 0 0 8, .mapr 1, .imm b6 z6 3 (m.exps.map exC), .v (.int .i64 m.exps.length), .v (.int .i64 i)] ∧ h = [.box (cellsM m b1 z1 b2 z2 b3 z3 b4 z4 b5 z5 b6 z6), .mp 0 S]) (And.intro ?_ ?_)))
    · refine Exists.intro [] (Exists.intro m.exps.length ?_)
      exact ⟨0, [], by omega, rfl, fun k hk => by omega, fun q => rfl, by rw [List.length_map]; rfl, rfl⟩
    intro n vs h hI
    obtain ⟨i, S, hi, rfl, hall, hS, rfl, rfl⟩ := hI
    refine And.intro (fun h1 => ?_) (fun h1 => ?_)
    · simp only [decide_eq_true_eq] at h1
      have hlt : i < m.exps.length := by omega
      obtain ⟨e, hei⟩ : ∃ e, m.exps[i]? = some e := ⟨_, List.getElem?_eq_getElem hlt⟩
      have eb := expB_val hei
      have hen := hb.exp e (List.mem_of_getElem? hei)
      have hsa : (m.exps.take i).all (fun q => decide (q.n ≠ e.n)) = !seenE (m.exps.take i) e.n := by
        unfold seenE
        rw [List.not_any_eq_all_not]
        congr
        funext q
        simp
      refine Exists.intro i (And.intro rfl (Exists.intro (exC e) (And.intro (get_map hei) ?_)))
      refine And.intro (fun v hv => ?_) (fun hv => ?_)
      · rw [hS] at hv
        have hsn : seenE (m.exps.take i) e.n = true := by
          cases hh : seenE (m.exps.take i) e.n with
          | true => rfl
          | false => rw [hh] at hv; cases hv
        rw [hsn] at hv
        cases hv
        repeat' ((first
          | refine And.intro (fun h2 => ?_) (fun h2 => ?_)
          | fail) <;> try cases h2)
        refine fin_i hp (f6 (range_bad hlt ?_))
        rw [eb, hsa, hsn]
        simp
      · rw [hS] at hv
        have hsn : seenE (m.exps.take i) e.n = false := by
          cases hh : seenE (m.exps.take i) e.n with
          | false => rfl
          | true => rw [hh] at hv; cases hv
        clear hv
        rw [hsn] at hsa
        rw [hsa] at eb
        repeat' ((first
          | refine And.intro (fun h2 => ?_) (fun h2 => ?_)
          | refine Exists.intro m (And.intro ⟨_, _, _, _, _, _, _, _, _, _, _, _, rfl⟩ (And.intro hb (And.intro hen ?_)))
          | fail) <;> try cases h2)
        · have h2 : goodE m e = false := by simpa using h2
          refine fin_i hp (f6 (range_bad hlt ?_))
          rw [eb, h2]
          rfl
        · have h2 : goodE m e = true := by simpa using h2
          refine Exists.intro [] (Exists.intro (m.exps.length - (i + 1)) (And.intro (by omega) ⟨i + 1, mapSet (.s e.n) (.bool true) S, by omega, rfl, lt_step hall (by rw [eb, h2]; rfl), fun q => ?_, ?_, rfl⟩))
          · rw [mapFind_set, hS]
            have : seenE (m.exps.take (i + 1)) q = (seenE (m.exps.take i) q || decide (e.n = q)) := by
              unfold seenE
              rw [List.take_add_one, hei]
              simp
            rw [this]
            by_cases hq : e.n = q
            · subst hq
              simp [hsn]
            · rw [if_neg (by simpa using hq), decide_eq_false hq, Bool.or_false]
          · rw [wrap_succ hlt (by omega)]
    · simp only [decide_eq_false_iff_not] at h1
      have e6 : expsB m = true := by
        rw [ee]
        exact range_all fun k hk => hall k (by omega)
      exact fin_i hp (by simp only [modOk, e1, e2, e3, e4, e5, e6, Bool.true_eq_false, if_false])
  · exact hp.elim
end Go.Proofs.Ytijjonafmmhhbaa.Ab
