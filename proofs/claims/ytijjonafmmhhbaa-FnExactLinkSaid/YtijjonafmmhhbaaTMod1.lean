/- Modules as trees: their slices laid, compared, measured. No condition. -/
import Derived.Test.YtijjonafmmhhbaaTInts
namespace Go.Proofs.Ytijjonafmmhhbaa.Ab
set_option linter.unusedVariables false
set_option linter.unusedSimpArgs false

structure Ex where
  n : ByteArray
  bank : Int
  pos : Int
def exC (e : Ex) : List AV := [.v (.string e.n), .v (.int .i64 e.bank), .v (.int .i64 e.pos)]
def strC (s : ByteArray) : List AV := [.v (.string s)]
def bankC (b : List Int) : List AV := [.sl 1 (b.map intC)]
/-! ### String: slices of scalars: laid, compared (printed by gen/scal.py) -/

theorem closed_String (bs : List ByteArray) : ClosedL (bs.map strC) := by
  intro e he x hx
  obtain ⟨b, _, rfl⟩ := List.mem_map.1 he
  simp [strC] at hx
  subst hx
  rfl
def hToString : CH := fun args hl K => match args, hl with
  | [.imm _ _ 1 l], [] => ∃ bs : List ByteArray, l = bs.map strC ∧ bs.length ≤ 1048576 ∧ K (.slc 0 0 bs.length false) [.lst 1 (bs.map strC)]
  | _, _ => False
def cx_s_toStringS : Ctx := mkC []
theorem cx_s_toStringS_ok : CtxOk Try.prog cx_s_toStringS := cx0_ok
set_option maxRecDepth 100000 in
set_option pp.maxSteps 1500 in
theorem s_toStringS : HSound Try.prog 116 (callM [] true hToString) := by
  refine callM_sound cx_s_toStringS_ok mixed Try.func116 rfl fun args hl K hp => ?_
  unfold hToString at hp
  split at hp
  · rename_i t z l
    obtain ⟨bs, rfl, hb, hp⟩ := hp
    refine Or.inl ?_
    refine Exists.intro bs.length (And.intro (by simp) (And.intro (by simp) (And.intro (by simp only; omega) ?_)))
    refine Exists.intro false (Exists.intro [0, 3, 4] (Exists.intro (fun m vs h => ∃ i : Nat, i ≤ bs.length ∧ m = bs.length - i ∧ vs = [.imm t z 1 (bs.map strC), .slc 0 0 bs.length true, .v (.int .i64 i)] ∧ h = [.lst 1 ((bs.take i).map strC ++ List.replicate (bs.length - i) (strC .empty))]) (And.intro ?_ ?_)))
    · refine Exists.intro bs.length ?_
      exact ⟨0, by omega, rfl, rfl, rfl⟩
    · intro m vs h hI
      obtain ⟨i, hi, rfl, rfl, rfl⟩ := hI
      refine And.intro (fun h1 => ?_) (fun h1 => ?_)
      · simp only [decide_eq_true_eq, List.length_map] at h1
        have hlt : i < bs.length := by omega
        obtain ⟨b, hbi⟩ : ∃ b, bs[i]? = some b := ⟨_, List.getElem?_eq_getElem hlt⟩
        refine Exists.intro i (And.intro rfl (Exists.intro (strC b) (And.intro (by simp [hbi]) ?_)))
        refine Exists.intro i (And.intro rfl (And.intro hlt ?_))
        refine Exists.intro (strC .empty) (And.intro (by rw [Nat.zero_add, List.getElem?_append_right (by simp; omega), List.getElem?_replicate, if_pos (by simp; omega)]) (And.intro (by decide) ?_))
        refine Exists.intro (bs.length - (i + 1)) (And.intro (by omega) ?_)
        refine ⟨i + 1, by omega, rfl, ?_, ?_⟩
        · rw [← wrap_succ hlt (by omega)]
        · rw [← fill_step strC (strC .empty) bs i b hbi, Nat.zero_add]
          rfl
      · simp only [decide_eq_false_iff_not, List.length_map] at h1
        have : i = bs.length := by omega
        subst this
        have e : (bs.take bs.length).map strC ++ List.replicate (bs.length - bs.length) (strC .empty) = bs.map strC := by simp
        rw [← e] at hp
        refine And.intro (e ▸ closed_String bs) ?_
        exact hp
  · exact hp.elim

def hEqString : CH := fun args hl K => match args, hl with
  | [.imm _ _ 1 l, .imm _ _ 1 r], [] => ∃ bs : List ByteArray, l = bs.map strC ∧ r = bs.map strC ∧ bs.length ≤ 1048576 ∧ K (.v (.bool true)) []
  | _, _ => False
def cx_s_eqStringS : Ctx := mkC []
theorem cx_s_eqStringS_ok : CtxOk Try.prog cx_s_eqStringS := cx0_ok
set_option maxRecDepth 100000 in
set_option pp.maxSteps 1500 in
theorem s_eqStringS : HSound Try.prog 56 (callM [] true hEqString) := by
  refine callM_sound cx_s_eqStringS_ok mixed Try.func56 rfl fun args hl K hp => ?_
  unfold hEqString at hp
  split at hp
  · rename_i t z l t' z' r
    obtain ⟨bs, rfl, rfl, hb, hp⟩ := hp
    refine And.intro (fun h1 => ?_) (fun h1 => ?_)
    · simp at h1
    clear h1
    refine Exists.intro false (Exists.intro [0, 1, 5] (Exists.intro (fun m vs h => ∃ i : Nat, i ≤ bs.length ∧ m = bs.length - i ∧ vs = [.imm t z 1 (bs.map strC), .imm t' z' 1 (bs.map strC), .v (.int .i64 i)] ∧ h = []) (And.intro ?_ ?_)))
    · refine Exists.intro bs.length ?_
      exact ⟨0, by omega, rfl, rfl, rfl⟩
    · intro m vs h hI
      obtain ⟨i, hi, rfl, rfl, rfl⟩ := hI
      refine And.intro (fun h1 => ?_) (fun h1 => ?_)
      · simp only [decide_eq_true_eq, List.length_map] at h1
        have hlt : i < bs.length := by omega
        obtain ⟨b, hbi⟩ : ∃ b, bs[i]? = some b := ⟨_, List.getElem?_eq_getElem hlt⟩
        refine And.intro (by kernel_rfl) ?_
        refine Exists.intro i (And.intro rfl (Exists.intro (strC b) (And.intro (by simp [hbi]) ?_)))
        refine Exists.intro i (And.intro rfl (Exists.intro (strC b) (And.intro (by simp [hbi]) ?_)))
        refine And.intro (fun h1 => ?_) (fun h1 => ?_)
        · exfalso; simp at h1
        · refine Exists.intro (bs.length - (i + 1)) (And.intro (by omega) ?_)
          refine ⟨i + 1, by omega, rfl, ?_, rfl⟩
          have hw2 : IntKind.wrap .i64 ((i : Int) + 1) = ((i + 1 : Nat) : Int) := by
            rw [wrap64] <;> omega
          rw [← hw2]
      · exact hp
  · exact hp.elim

/-! ### Export: slices of plain structs (printed by gen/slice.py) -/

def zeroExport : Ex := ⟨.empty, 0, 0⟩
theorem closed_Export (bs : List Ex) : ClosedL (bs.map exC) := by
  intro e he x hx
  obtain ⟨b, _, rfl⟩ := List.mem_map.1 he
  simp [exC] at hx
  rcases hx with rfl | rfl | rfl <;> rfl
def hConvExport : CH := fun args hl K => match args, hl with
  | [.agg [.v a0, .v a1, .v a2]], [] => K (.agg [.v a0, .v a1, .v a2]) []
  | _, _ => False
def cx_s_toExport : Ctx := mkC []
theorem cx_s_toExport_ok : CtxOk Try.prog cx_s_toExport := cx0_ok
set_option maxRecDepth 100000 in
set_option pp.maxSteps 1500 in
theorem s_toExport : HSound Try.prog 140 (callM [] false hConvExport) := by
  refine callM_sound cx_s_toExport_ok mixed Try.func140 rfl fun args hl K hp => ?_
  unfold hConvExport at hp
  split at hp
  · exact hp
  · exact hp.elim

def hToExport : CH := fun args hl K => match args, hl with
  | [.imm _ _ 3 l], [] => ∃ bs : List Ex, l = bs.map exC ∧ bs.length ≤ 1048576 ∧ K (.slc 0 0 bs.length false) [.lst 3 (bs.map exC)]
  | _, _ => False
def cx_s_toExportS : Ctx := mkC [(140, callM [] false hConvExport)]
theorem cx_s_toExportS_ok : CtxOk Try.prog cx_s_toExportS := mkC_ok (mem1 ⟨s_toExport, fnOk Try.func140 rfl rfl⟩ mem0)
set_option maxRecDepth 100000 in
set_option pp.maxSteps 1500 in
theorem s_toExportS : HSound Try.prog 117 (callM [] true hToExport) := by
  refine callM_sound cx_s_toExportS_ok mixed Try.func117 rfl fun args hl K hp => ?_
  unfold hToExport at hp
  split at hp
  · rename_i t z l
    obtain ⟨bs, rfl, hb, hp⟩ := hp
    refine Or.inl ?_
    refine Exists.intro bs.length (And.intro (by simp) (And.intro (by simp) (And.intro (by simp only; omega) ?_)))
    refine Exists.intro false (Exists.intro [0, 3, 4] (Exists.intro (fun m vs h => ∃ i : Nat, i ≤ bs.length ∧ m = bs.length - i ∧ vs = [.imm t z 3 (bs.map exC), .slc 0 0 bs.length true, .v (.int .i64 i)] ∧ h = [.lst 3 ((bs.take i).map exC ++ List.replicate (bs.length - i) (exC zeroExport))]) (And.intro ?_ ?_)))
    · refine Exists.intro bs.length ?_
      exact ⟨0, by omega, rfl, rfl, rfl⟩
    · intro m vs h hI
      obtain ⟨i, hi, rfl, rfl, rfl⟩ := hI
      refine And.intro (fun h1 => ?_) (fun h1 => ?_)
      · simp only [decide_eq_true_eq, List.length_map] at h1
        have hlt : i < bs.length := by omega
        obtain ⟨b, hbi⟩ : ∃ b, bs[i]? = some b := ⟨_, List.getElem?_eq_getElem hlt⟩
        refine Exists.intro i (And.intro rfl (Exists.intro (exC b) (And.intro (by simp [hbi]) ?_)))
        refine Exists.intro i (And.intro rfl (And.intro hlt ?_))
        refine Exists.intro (exC zeroExport) (And.intro (by rw [Nat.zero_add, List.getElem?_append_right (by simp; omega), List.getElem?_replicate, if_pos (by simp; omega)]) (And.intro (by decide) ?_))
        refine Exists.intro (bs.length - (i + 1)) (And.intro (by omega) ?_)
        refine ⟨i + 1, by omega, rfl, ?_, ?_⟩
        · rw [← wrap_succ hlt (by omega)]
        · rw [← fill_step exC (exC zeroExport) bs i b hbi, Nat.zero_add]
          rfl
      · simp only [decide_eq_false_iff_not, List.length_map] at h1
        have : i = bs.length := by omega
        subst this
        have e : (bs.take bs.length).map exC ++ List.replicate (bs.length - bs.length) (exC zeroExport) = bs.map exC := by simp
        rw [← e] at hp
        refine And.intro (e ▸ closed_Export bs) ?_
        exact hp
  · exact hp.elim

def cx_iEqExport : Ctx := mkC []
theorem cx_iEqExport_ok : CtxOk Try.prog cx_iEqExport := cx0_ok
def iEqExport : Handler := inlH cx_iEqExport Try.f104.ntmps Try.f104.results.toList (Try.f104.body.getD .skip)
theorem s_iEqExport : HSound Try.prog 104 iEqExport := inlF cx_iEqExport_ok mixed Try.func104 rfl
def hEqExport : CH := fun args hl K => match args, hl with
  | [.imm _ _ 3 l, .imm _ _ 3 r], [] => ∃ bs : List Ex, l = bs.map exC ∧ r = bs.map exC ∧ bs.length ≤ 1048576 ∧ K (.v (.bool true)) []
  | _, _ => False
def cx_s_eqExportS : Ctx := mkC [(104, iEqExport)]
theorem cx_s_eqExportS_ok : CtxOk Try.prog cx_s_eqExportS := mkC_ok (mem1 ⟨s_iEqExport, fnOk Try.func104 rfl rfl⟩ mem0)
set_option maxRecDepth 100000 in
set_option pp.maxSteps 1500 in
theorem s_eqExportS : HSound Try.prog 57 (callM [] true hEqExport) := by
  refine callM_sound cx_s_eqExportS_ok mixed Try.func57 rfl fun args hl K hp => ?_
  unfold hEqExport at hp
  split at hp
  · rename_i t z l t' z' r
    obtain ⟨bs, rfl, rfl, hb, hp⟩ := hp
    refine And.intro (fun h1 => ?_) (fun h1 => ?_)
    · simp at h1
    · clear h1
      refine Exists.intro true (Exists.intro [0, 1, 5] (Exists.intro (fun m vs h => ∃ i : Nat, i ≤ bs.length ∧ m = bs.length - i ∧ vs = [.imm t z 3 (bs.map exC), .imm t' z' 3 (bs.map exC), .v (.int .i64 i)] ∧ h = []) (And.intro ?_ ?_)))
      · refine Exists.intro [] (Exists.intro bs.length ?_)
        exact ⟨0, by omega, rfl, rfl, rfl⟩
      · intro m vs h hI
        obtain ⟨i, hi, rfl, rfl, rfl⟩ := hI
        refine And.intro (fun h1 => ?_) (fun h1 => ?_)
        · simp only [decide_eq_true_eq, List.length_map] at h1
          have hlt : i < bs.length := by omega
          obtain ⟨b, hbi⟩ : ∃ b, bs[i]? = some b := ⟨_, List.getElem?_eq_getElem hlt⟩
          refine Or.inl ?_
          refine And.intro (show wfB _ = true from by kernel_rfl) ?_
          refine Exists.intro i (And.intro rfl (Exists.intro (exC b) (And.intro (get_map hbi) ?_)))
          refine Exists.intro i (And.intro rfl (Exists.intro (exC b) (And.intro (get_map hbi) ?_)))
          apply HeldC.intro
          · repeat' (first | refine And.intro (fun h1 => absurd h1 (by simp; done)) (fun h1 => ?_) | exact And.intro rfl rfl)
          repeat' (first
            | refine And.intro (fun h1 => ?_) (fun h1 => ?_)
            | refine And.intro (Exists.intro i (And.intro rfl (Exists.intro (exC b) (And.intro (get_map hbi) (And.intro rfl rfl))))) ?_
            | refine And.intro (And.intro rfl rfl) ?_)
          · cases h1
          · refine Exists.intro [] (Exists.intro (bs.length - (i + 1)) (And.intro (by omega) ?_))
            exact ⟨i + 1, by omega, rfl, by rw [wrap_succ hlt (by omega)], rfl⟩
        · exact hp
  · exact hp.elim

def bigStr (s : ByteArray) : Prop := s.size ≤ maxLen
/-! ### String: the size of a slice with what its elements hold (printed by gen/szl.py) -/

def wtString (bs : List ByteArray) : Nat := bs.length + (bs.map ByteArray.size).sum
def hSzString : CH := fun args hl K => match args, hl with
  | [.imm _ _ 1 l, .v (.int .i64 n)], [] => ∃ bs : List ByteArray, l = bs.map strC ∧ (∀ b ∈ bs, bigStr b) ∧ bs.length ≤ maxLen ∧ 0 ≤ n ∧ n ≤ 1048576 ∧ K (.v (.int .i64 (szB n (wtString bs)))) []
  | _, _ => False
def cx_s_szStringS : Ctx := mkC []
theorem cx_s_szStringS_ok : CtxOk Try.prog cx_s_szStringS := cx0_ok
set_option maxRecDepth 100000 in
set_option pp.maxSteps 1500 in
theorem s_szStringS : HSound Try.prog 109 (callM [] true hSzString) := by
  refine callM_sound cx_s_szStringS_ok mixed Try.func109 rfl fun args hl K hp => ?_
  unfold hSzString at hp
  split at hp
  · rename_i t z l n
    obtain ⟨bs, rfl, hbig, hlen, hn0, hn1, hp⟩ := hp
    have hml : maxLen ≤ 9223372036854775807 := by decide
    have hw : IntKind.i64.wrap (n - ((bs.map strC).length : Int)) = n - bs.length := by rw [List.length_map]; exact wrap64 (by omega)
    refine And.intro (fun h1 => ?_) (fun h1 => ?_)
    · have h1 := of_decide_eq_true h1
      rw [hw] at h1
      refine fin_i hp ?_
      rw [szB_neg (by simp only [wtString]; omega)]
    have h1 := of_decide_eq_false h1
    refine Exists.intro false (Exists.intro [0, 1, 5] (Exists.intro (fun m vs h => ∃ i : Nat, i ≤ bs.length ∧ m = bs.length - i ∧ 0 ≤ n - bs.length - ((bs.take i).map ByteArray.size).sum ∧ vs = [.imm t z 1 (bs.map strC), .v (.int .i64 (n - bs.length - ((bs.take i).map ByteArray.size).sum)), .v (.int .i64 i)] ∧ h = []) (And.intro ?_ ?_)))
    · refine Exists.intro bs.length ?_
      refine ⟨0, by omega, rfl, ?_, ?_, rfl⟩
      · rw [hw] at h1; simp; omega
      · rw [hw]; simp
    · rw [hw] at h1
      clear hw
      intro m vs h hI
      obtain ⟨i, hi, rfl, hs0, rfl, rfl⟩ := hI
      refine And.intro (fun h2 => ?_) (fun h2 => ?_)
      · simp only [decide_eq_true_eq, List.length_map] at h2
        have hlt : i < bs.length := by omega
        obtain ⟨b, hbi⟩ : ∃ b, bs[i]? = some b := ⟨_, List.getElem?_eq_getElem hlt⟩
        have hbb := hbig b (List.mem_of_getElem? hbi)
        have hst := sum_take (f := ByteArray.size) hbi
        have hle := sum_take_le ByteArray.size bs (i + 1)
        generalize hS : ((bs.take i).map ByteArray.size).sum = S at *
        generalize hS1 : ((bs.take (i + 1)).map ByteArray.size).sum = S1 at *
        have hlt2 : i < (bs.length : Int) := by omega
        refine Exists.intro i (And.intro rfl (Exists.intro (strC b) (And.intro (get_map hbi) ?_)))
        simp only [bigStr] at hbb
        have hww : IntKind.i64.wrap (n - ↑bs.length - ↑S - (b.size : Int)) = n - bs.length - S - (b.size : Int) := wrap64 (by omega)
        refine And.intro (fun h3 => ?_) (fun h3 => ?_)
        · have h3 := of_decide_eq_true h3
          refine fin_i hp ?_
          rw [hww] at h3
          rw [szB_neg (by simp only [wtString]; omega)]
        · have h3 := of_decide_eq_false h3
          refine Exists.intro (bs.length - (i + 1)) (And.intro (by omega) ?_)
          rw [hww] at h3
          refine ⟨i + 1, by omega, rfl, ?_, ?_, rfl⟩
          · rw [hS1]; omega
          · rw [wrap_succ hlt (by omega), hS1, show n - (bs.length : Int) - (S1 : Int) = n - bs.length - S - (ByteArray.size b : Nat) by omega]
            rw [hww]
      · simp only [decide_eq_false_iff_not, List.length_map] at h2
        have : i = bs.length := by omega
        subst this
        rw [List.take_length] at hs0 ⊢
        refine fin_i hp ?_
        rw [szB_pos (by simp only [wtString]; omega)]
        simp only [wtString]
        omega
  · exact hp.elim

end Go.Proofs.Ytijjonafmmhhbaa.Ab
