/- Functions walked, part 3. No condition. -/
import Derived.Test.YtbfjkjdbdejnmaaGreatWalk2
set_option linter.unusedVariables false
set_option linter.unusedSimpArgs false
/- Modules as trees: banks, exports, whole modules: laid, compared, measured. No condition. -/
namespace Go.Proofs.YtbfjkjdbdejnmaaGreat.Ab
set_option linter.unusedVariables false
set_option linter.unusedSimpArgs false

def exW (e : Ex) : Nat := e.n.size
def bigEx (e : Ex) : Prop := e.n.size ≤ maxLen
def hSzEx : CH := fun args hl K => match args, hl with
  | [.agg [.v (.string s), .v _, .v _], .v (.int .i64 n)], [] => s.size ≤ maxLen ∧ 0 ≤ n ∧ n ≤ 1048576 ∧ K (.v (.int .i64 (szB n s.size))) []
  | _, _ => False
def cx_s_szExport : Ctx := mkC []
theorem cx_s_szExport_ok : CtxOk Tryz.prog cx_s_szExport := cx0_ok
set_option maxRecDepth 100000 in
set_option pp.maxSteps 1500 in
theorem s_szExport : HSound Tryz.prog 136 (callM [] false hSzEx) := by
  refine callM_sound cx_s_szExport_ok mixed Tryz.func136 rfl fun args hl K hp => ?_
  unfold hSzEx at hp
  split at hp
  · rename_i s _ _ n
    obtain ⟨h0, h1, h2, hp⟩ := hp
    have hml : maxLen ≤ 9223372036854775807 := by decide
    have hw : IntKind.i64.wrap (n - s.size) = n - s.size := wrap64 (by omega)
    repeat' ((first | refine And.intro (fun h1 => ?_) (fun h1 => ?_) | refine And.intro (by decide) ?_ | refine And.intro (show wfB _ = true from by kernel_rfl) ?_ | refine And.intro (And.intro rfl rfl) ?_ | exact And.intro rfl rfl | apply HeldC.intro | exact AV.top | (apply HeldF.intro; refine Exists.intro _ (And.intro (by assumption) ?_); refine And.intro (by decide) ?_; exact And.intro rfl rfl) | (refine And.intro (by (refine Exists.intro _ (And.intro (by assumption) ?_); refine And.intro (by decide) ?_; exact And.intro rfl rfl)) ?_) | refine Or.inl ?_) <;> try cases h1)
    all_goals refine fin_i hp ?_
    all_goals clear hp
    all_goals rw [hw] at *
    all_goals simp only [szB, decide_eq_true_eq, decide_eq_false_iff_not] at *
    all_goals split <;> omega
  · exact hp.elim
/-! ### Export: the size of a slice with what its elements hold (printed by gen/szl.py) -/

def wtExport (bs : List Ex) : Nat := bs.length + (bs.map exW).sum
def hSzExport : CH := fun args hl K => match args, hl with
  | [.imm _ _ 3 l, .v (.int .i64 n)], [] => ∃ bs : List Ex, l = bs.map exC ∧ (∀ b ∈ bs, bigEx b) ∧ bs.length ≤ maxLen ∧ 0 ≤ n ∧ n ≤ 1048576 ∧ K (.v (.int .i64 (szB n (wtExport bs)))) []
  | _, _ => False
def cx_s_szExportS : Ctx := mkC [(136, callM [] false hSzEx)]
theorem cx_s_szExportS_ok : CtxOk Tryz.prog cx_s_szExportS := mkC_ok (mem1 ⟨s_szExport, fnOk Tryz.func136 rfl rfl⟩ mem0)
set_option maxRecDepth 100000 in
set_option pp.maxSteps 1500 in
theorem s_szExportS : HSound Tryz.prog 85 (callM [] true hSzExport) := by
  refine callM_sound cx_s_szExportS_ok mixed Tryz.func85 rfl fun args hl K hp => ?_
  unfold hSzExport at hp
  split at hp
  · rename_i t z l n
    obtain ⟨bs, rfl, hbig, hlen, hn0, hn1, hp⟩ := hp
    have hml : maxLen ≤ 9223372036854775807 := by decide
    have hw : IntKind.i64.wrap (n - ((bs.map exC).length : Int)) = n - bs.length := by rw [List.length_map]; exact wrap64 (by omega)
    refine And.intro (fun h1 => ?_) (fun h1 => ?_)
    · have h1 := of_decide_eq_true h1
      rw [hw] at h1
      refine fin_i hp ?_
      rw [szB_neg (by simp only [wtExport]; omega)]
    have h1 := of_decide_eq_false h1
    refine Exists.intro false (Exists.intro [0, 1, 5] (Exists.intro (fun m vs h => ∃ i : Nat, i ≤ bs.length ∧ m = bs.length - i ∧ 0 ≤ n - bs.length - ((bs.take i).map exW).sum ∧ vs = [.imm t z 3 (bs.map exC), .v (.int .i64 (n - bs.length - ((bs.take i).map exW).sum)), .v (.int .i64 i)] ∧ h = []) (And.intro ?_ ?_)))
    · refine Exists.intro bs.length ?_
      refine ⟨0, by omega, rfl, ?_, ?_, rfl⟩
      · rw [hw] at h1; simp; omega
      · rw [hw]; simp
    · rw [hw] at h1
      clear hw
      intro m vs h hI
      obtain ⟨i, hi, rfl, hs0, rfl, rfl⟩ := hI
      refine And.intro (fun h2 => ?_) (fun h2 => ?_)
      · simp only [decide_eq_true_eq, List.length_map] at h2
        have hlt : i < bs.length := by omega
        obtain ⟨b, hbi⟩ : ∃ b, bs[i]? = some b := ⟨_, List.getElem?_eq_getElem hlt⟩
        have hbb := hbig b (List.mem_of_getElem? hbi)
        have hst := sum_take (f := exW) hbi
        have hle := sum_take_le exW bs (i + 1)
        generalize hS : ((bs.take i).map exW).sum = S at *
        generalize hS1 : ((bs.take (i + 1)).map exW).sum = S1 at *
        have hlt2 : i < (bs.length : Int) := by omega
        refine Exists.intro i (And.intro rfl (Exists.intro (exC b) (And.intro (get_map hbi) ?_)))
        refine And.intro hbb (And.intro hs0 (And.intro (by omega) ?_))
        refine And.intro (fun h3 => ?_) (fun h3 => ?_)
        · have h3 := of_decide_eq_true h3
          refine fin_i hp ?_
          try rw [List.length_map] at h3
          have h3 : n - bs.length - (S : Int) < (exW b : Nat) := szB_lt hs0 h3
          rw [szB_neg (by simp only [wtExport]; omega)]
        · have h3 := of_decide_eq_false h3
          refine Exists.intro (bs.length - (i + 1)) (And.intro (by omega) ?_)
          try rw [List.length_map] at h3
          have h3 : (exW b : Nat) ≤ n - bs.length - (S : Int) := szB_ge hs0 h3
          refine ⟨i + 1, by omega, rfl, ?_, ?_, rfl⟩
          · rw [hS1]; omega
          · rw [wrap_succ hlt (by omega), hS1, show n - (bs.length : Int) - (S1 : Int) = n - bs.length - S - (exW b : Nat) by omega]
            (try rw [List.length_map])
            rw [← szB_pos h3]
            try rfl
      · simp only [decide_eq_false_iff_not, List.length_map] at h2
        have : i = bs.length := by omega
        subst this
        rw [List.take_length] at hs0 ⊢
        refine fin_i hp ?_
        rw [szB_pos (by simp only [wtExport]; omega)]
        simp only [wtExport]
        omega
  · exact hp.elim

def bigBank (b : List Int) : Prop := b.length ≤ maxLen
def smBank (b : List Int) : Prop := b.length ≤ 1048576
/-! ### IntS: the size of a slice with what its elements hold (printed by gen/szl.py) -/

def wtIntS (bs : List (List Int)) : Nat := bs.length + (bs.map List.length).sum
def hSzIntS : CH := fun args hl K => match args, hl with
  | [.imm _ _ 1 l, .v (.int .i64 n)], [] => ∃ bs : List (List Int), l = bs.map bankC ∧ (∀ b ∈ bs, bigBank b) ∧ bs.length ≤ maxLen ∧ 0 ≤ n ∧ n ≤ 1048576 ∧ K (.v (.int .i64 (szB n (wtIntS bs)))) []
  | _, _ => False
def cx_s_szIntSS : Ctx := mkC [(35, callM [] true hSzB)]
theorem cx_s_szIntSS_ok : CtxOk Tryz.prog cx_s_szIntSS := mkC_ok (mem1 ⟨s_szIntS, fnOk Tryz.func35 rfl rfl⟩ mem0)
set_option maxRecDepth 100000 in
set_option pp.maxSteps 1500 in
theorem s_szIntSS : HSound Tryz.prog 82 (callM [] true hSzIntS) := by
  refine callM_sound cx_s_szIntSS_ok mixed Tryz.func82 rfl fun args hl K hp => ?_
  unfold hSzIntS at hp
  split at hp
  · rename_i t z l n
    obtain ⟨bs, rfl, hbig, hlen, hn0, hn1, hp⟩ := hp
    have hml : maxLen ≤ 9223372036854775807 := by decide
    have hw : IntKind.i64.wrap (n - ((bs.map bankC).length : Int)) = n - bs.length := by rw [List.length_map]; exact wrap64 (by omega)
    refine And.intro (fun h1 => ?_) (fun h1 => ?_)
    · have h1 := of_decide_eq_true h1
      rw [hw] at h1
      refine fin_i hp ?_
      rw [szB_neg (by simp only [wtIntS]; omega)]
    have h1 := of_decide_eq_false h1
    refine Exists.intro false (Exists.intro [0, 1, 5] (Exists.intro (fun m vs h => ∃ i : Nat, i ≤ bs.length ∧ m = bs.length - i ∧ 0 ≤ n - bs.length - ((bs.take i).map List.length).sum ∧ vs = [.imm t z 1 (bs.map bankC), .v (.int .i64 (n - bs.length - ((bs.take i).map List.length).sum)), .v (.int .i64 i)] ∧ h = []) (And.intro ?_ ?_)))
    · refine Exists.intro bs.length ?_
      refine ⟨0, by omega, rfl, ?_, ?_, rfl⟩
      · rw [hw] at h1; simp; omega
      · rw [hw]; simp
    · rw [hw] at h1
      clear hw
      intro m vs h hI
      obtain ⟨i, hi, rfl, hs0, rfl, rfl⟩ := hI
      refine And.intro (fun h2 => ?_) (fun h2 => ?_)
      · simp only [decide_eq_true_eq, List.length_map] at h2
        have hlt : i < bs.length := by omega
        obtain ⟨b, hbi⟩ : ∃ b, bs[i]? = some b := ⟨_, List.getElem?_eq_getElem hlt⟩
        have hbb := hbig b (List.mem_of_getElem? hbi)
        have hst := sum_take (f := List.length) hbi
        have hle := sum_take_le List.length bs (i + 1)
        generalize hS : ((bs.take i).map List.length).sum = S at *
        generalize hS1 : ((bs.take (i + 1)).map List.length).sum = S1 at *
        have hlt2 : i < (bs.length : Int) := by omega
        refine Exists.intro i (And.intro rfl (Exists.intro (bankC b) (And.intro (get_map hbi) ?_)))
        refine And.intro hs0 (And.intro (by omega) (And.intro (by simp only [bigBank] at hbb; rw [List.length_map]; omega) ?_))
        refine And.intro (fun h3 => ?_) (fun h3 => ?_)
        · have h3 := of_decide_eq_true h3
          refine fin_i hp ?_
          try rw [List.length_map] at h3
          have h3 : n - bs.length - (S : Int) < (List.length b : Nat) := szB_lt hs0 h3
          rw [szB_neg (by simp only [wtIntS]; omega)]
        · have h3 := of_decide_eq_false h3
          refine Exists.intro (bs.length - (i + 1)) (And.intro (by omega) ?_)
          try rw [List.length_map] at h3
          have h3 : (List.length b : Nat) ≤ n - bs.length - (S : Int) := szB_ge hs0 h3
          refine ⟨i + 1, by omega, rfl, ?_, ?_, rfl⟩
          · rw [hS1]; omega
          · rw [wrap_succ hlt (by omega), hS1, show n - (bs.length : Int) - (S1 : Int) = n - bs.length - S - (List.length b : Nat) by omega]
            (try rw [List.length_map])
            rw [← szB_pos h3]
            try rfl
      · simp only [decide_eq_false_iff_not, List.length_map] at h2
        have : i = bs.length := by omega
        subst this
        rw [List.take_length] at hs0 ⊢
        refine fin_i hp ?_
        rw [szB_pos (by simp only [wtIntS]; omega)]
        simp only [wtIntS]
        omega
  · exact hp.elim

/-! ### IntS: slices whose elements own slices: laid, compared (printed by gen/lists.py) -/

theorem closed_IntS (bs : List (List Int)) : ClosedL (bs.map bankC) := by
  intro e he x hx
  obtain ⟨b, _, rfl⟩ := List.mem_map.1 he
  simp [bankC] at hx
  rcases hx with rfl <;> rfl
theorem closed_fillIntS (bs : List (List Int)) (i k : Nat) : ClosedL ((bs.take i).map bankC ++ List.replicate k (bankC [])) := by
  refine closed_app (closed_IntS _) ?_
  have := closed_IntS (List.replicate k [])
  simpa using this
def hToIntS : CH := fun args hl K => match args, hl with
  | [.imm _ _ 1 l], [] => ∃ bs : List (List Int), l = bs.map bankC ∧ (∀ b ∈ bs, smBank b) ∧ bs.length ≤ 1048576 ∧ K (.slc 0 0 bs.length false) [.lst 1 (bs.map bankC)]
  | _, _ => False
def cx_s_toIntSS : Ctx := mkC [(41, callM [] true hToInt)]
theorem cx_s_toIntSS_ok : CtxOk Tryz.prog cx_s_toIntSS := mkC_ok (mem1 ⟨s_toIntS, fnOk Tryz.func41 rfl rfl⟩ mem0)
set_option maxRecDepth 100000 in
set_option pp.maxSteps 1500 in
set_option maxHeartbeats 4000000 in
theorem s_toIntSS : HSound Tryz.prog 95 (callM [] true hToIntS) := by
  refine callM_sound cx_s_toIntSS_ok mixed Tryz.func95 rfl fun args hl K hp => ?_
  unfold hToIntS at hp
  split at hp
  · rename_i t z l
    obtain ⟨bs, rfl, hsm, hb, hp⟩ := hp
    refine Or.inl ?_
    refine Exists.intro bs.length (And.intro (by simp) (And.intro (by simp) (And.intro (by simp only; omega) ?_)))
    refine Exists.intro true (Exists.intro [0, 3, 4] (Exists.intro (fun m vs h => ∃ i : Nat, i ≤ bs.length ∧ m = bs.length - i ∧ vs = [.imm t z 1 (bs.map bankC), .slc 0 0 bs.length false, .v (.int .i64 i)] ∧ h = [.lst 1 ((bs.take i).map bankC ++ List.replicate (bs.length - i) (bankC []))]) (And.intro ?_ ?_)))
    · refine Exists.intro [] ?_
      refine And.intro (closed_fillIntS bs 0 bs.length) ?_
      refine Exists.intro bs.length ?_
      exact ⟨0, by omega, rfl, rfl, rfl⟩
    · intro m vs h hI
      obtain ⟨i, hi, rfl, rfl, rfl⟩ := hI
      refine And.intro (fun h1 => ?_) (fun h1 => ?_)
      · simp only [decide_eq_true_eq, List.length_map] at h1
        have hlt : i < bs.length := by omega
        obtain ⟨b, hbi⟩ : ∃ b, bs[i]? = some b := ⟨_, List.getElem?_eq_getElem hlt⟩
        have hbb := hsm b (List.mem_of_getElem? hbi)
        have hst := fill_step bankC (bankC []) bs i b hbi
        have hcl := closed_fillIntS bs (i + 1) (bs.length - (i + 1))
        have hg : ((bs.take i).map bankC ++ List.replicate (bs.length - i) (bankC []))[0 + i]? = some (bankC []) := by rw [Nat.zero_add, List.getElem?_append_right (by simp; omega), List.getElem?_replicate, if_pos (by simp; omega)]
        rw [← hst] at hcl
        generalize hL : (bs.take i).map bankC ++ List.replicate (bs.length - i) (bankC []) = L at *
        refine Exists.intro i (And.intro rfl (Exists.intro (bankC b) (And.intro (get_map hbi) ?_)))
        refine Exists.intro b (And.intro rfl (And.intro hbb ?_))
        refine Exists.intro i (And.intro rfl (And.intro hlt ?_))
        repeat' (first | refine Exists.intro _ (And.intro (lendL _ _) (And.intro (List.length_map _) (And.intro (by first | exact closed_bytes _ | exact closed_Int _ | exact closed_String _ | exact closed_Export _ | exact closed_IntS _ | exact closed_Target _ | exact closed_TargetS _) ?_))))
        refine Exists.intro (bankC []) (And.intro hg (And.intro (by decide) ?_))
        refine Exists.intro [] ?_
        refine And.intro (by rw [Nat.zero_add]; exact hcl) ?_
        refine Exists.intro (bs.length - (i + 1)) (And.intro (by omega) ?_)
        refine ⟨i + 1, by omega, rfl, ?_, ?_⟩
        · rw [← wrap_succ hlt (by omega)]
        · rw [← hst, Nat.zero_add]
          rfl
      · simp only [decide_eq_false_iff_not, List.length_map] at h1
        have : i = bs.length := by omega
        subst this
        have e : (bs.take bs.length).map bankC ++ List.replicate (bs.length - bs.length) (bankC []) = bs.map bankC := by simp
        rw [← e] at hp
        refine And.intro (e ▸ closed_IntS bs) ?_
        exact hp
  · exact hp.elim

def hEqIntS : CH := fun args hl K => match args, hl with
  | [.imm _ _ 1 l, .imm _ _ 1 r], [] => ∃ bs : List (List Int), l = bs.map bankC ∧ r = bs.map bankC ∧ (∀ b ∈ bs, smBank b) ∧ bs.length ≤ 1048576 ∧ K (.v (.bool true)) []
  | _, _ => False
def cx_s_eqIntSS : Ctx := mkC [(47, callM [] true hEqInt)]
theorem cx_s_eqIntSS_ok : CtxOk Tryz.prog cx_s_eqIntSS := mkC_ok (mem1 ⟨s_eqIntS, fnOk Tryz.func47 rfl rfl⟩ mem0)
set_option maxRecDepth 100000 in
set_option pp.maxSteps 1500 in
set_option maxHeartbeats 4000000 in
theorem s_eqIntSS : HSound Tryz.prog 104 (callM [] true hEqIntS) := by
  refine callM_sound cx_s_eqIntSS_ok mixed Tryz.func104 rfl fun args hl K hp => ?_
  unfold hEqIntS at hp
  split at hp
  · rename_i t z l t' z' r
    obtain ⟨bs, rfl, rfl, hsm, hb, hp⟩ := hp
    refine And.intro (fun h1 => ?_) (fun h1 => ?_)
    · simp at h1
    clear h1
    refine Exists.intro true (Exists.intro [0, 1, 5] (Exists.intro (fun m vs h => ∃ i : Nat, i ≤ bs.length ∧ m = bs.length - i ∧ vs = [.imm t z 1 (bs.map bankC), .imm t' z' 1 (bs.map bankC), .v (.int .i64 i)] ∧ h = []) (And.intro ?_ ?_)))
    · refine Exists.intro [] (Exists.intro bs.length ?_)
      exact ⟨0, by omega, rfl, rfl, rfl⟩
    · intro m vs h hI
      obtain ⟨i, hi, rfl, rfl, rfl⟩ := hI
      refine And.intro (fun h1 => ?_) (fun h1 => ?_)
      · simp only [decide_eq_true_eq, List.length_map] at h1
        have hlt : i < bs.length := by omega
        obtain ⟨b, hbi⟩ : ∃ b, bs[i]? = some b := ⟨_, List.getElem?_eq_getElem hlt⟩
        have hbb := hsm b (List.mem_of_getElem? hbi)
        refine Or.inl ?_
        refine And.intro (show wfB _ = true from by kernel_rfl) ?_
        refine Exists.intro i (And.intro rfl (Exists.intro (bankC b) (And.intro (get_map hbi) ?_)))
        refine Exists.intro i (And.intro rfl (Exists.intro (bankC b) (And.intro (get_map hbi) ?_)))
        apply HeldC.intro
        · refine Exists.intro b ?_; refine And.intro rfl ?_; refine And.intro rfl ?_; refine And.intro hbb ?_
          exact And.intro rfl rfl
        repeat' (first
          | refine And.intro (fun h1 => ?_) (fun h1 => ?_)
          | refine And.intro (Exists.intro i (And.intro rfl (Exists.intro (bankC b) (And.intro (get_map hbi) (And.intro rfl rfl))))) ?_
          | refine And.intro (And.intro rfl rfl) ?_)
        · cases h1
        · refine Exists.intro [] (Exists.intro (bs.length - (i + 1)) (And.intro (by omega) ?_))
          exact ⟨i + 1, by omega, rfl, by rw [wrap_succ hlt (by omega)], rfl⟩
      · exact hp
  · exact hp.elim

end Go.Proofs.YtbfjkjdbdejnmaaGreat.Ab

/- Modules as trees: whole modules: laid, compared, measured. No condition. -/
namespace Go.Proofs.YtbfjkjdbdejnmaaGreat.Ab
set_option linter.unusedVariables false
set_option linter.unusedSimpArgs false

structure Mo where
  name : ByteArray
  text : List Int
  banks : List (List Int)
  data : List Int
  bss : Int
  rels : List Int
  imps : List ByteArray
  exps : List Ex
def zeroMo : Mo := ⟨.empty, [], [], [], 0, [], [], []⟩
def moC (m : Mo) : List AV := [.v (.string m.name), .sl 1 (m.text.map intC), .sl 1 (m.banks.map bankC), .sl 1 (m.data.map byteC), .v (.int .i64 m.bss), .sl 1 (m.rels.map intC), .sl 1 (m.imps.map strC), .sl 3 (m.exps.map exC)]
/-- A module that is read. -/
def MoV (a : AV) (m : Mo) : Prop := ∃ b1 z1 b2 z2 b3 z3 b4 z4 b5 z5 b6 z6, a = .agg [.v (.string m.name), .imm b1 z1 1 (m.text.map intC), .imm b2 z2 1 (m.banks.map bankC), .imm b3 z3 1 (m.data.map byteC), .v (.int .i64 m.bss), .imm b4 z4 1 (m.rels.map intC), .imm b5 z5 1 (m.imps.map strC), .imm b6 z6 3 (m.exps.map exC)]
abbrev moR (m : Mo) : AV := .agg [.v (.string m.name), .slc 0 0 m.text.length false, .slc 1 0 m.banks.length false, .slc 2 0 m.data.length false, .v (.int .i64 m.bss), .slc 3 0 m.rels.length false, .slc 4 0 m.imps.length false, .slc 5 0 m.exps.length false]
abbrev moH (m : Mo) : HP := [.lst 1 (m.text.map intC), .lst 1 (m.banks.map bankC), .lst 1 (m.data.map byteC), .lst 1 (m.rels.map intC), .lst 1 (m.imps.map strC), .lst 3 (m.exps.map exC)]
def wtMo (m : Mo) : Nat := m.name.size + m.text.length + wtIntS m.banks + m.data.length + m.rels.length + wtString m.imps + wtExport m.exps
structure bigMo (m : Mo) : Prop where
  name : m.name.size ≤ maxLen
  text : m.text.length ≤ maxLen
  banks : m.banks.length ≤ maxLen
  bank : ∀ b ∈ m.banks, bigBank b
  data : m.data.length ≤ maxLen
  rels : m.rels.length ≤ maxLen
  imps : m.imps.length ≤ maxLen
  imp : ∀ b ∈ m.imps, bigStr b
  exps : m.exps.length ≤ maxLen
  exp : ∀ b ∈ m.exps, bigEx b
structure smMo (m : Mo) : Prop where
  name : m.name.size ≤ 1048576
  text : m.text.length ≤ 1048576
  banks : m.banks.length ≤ 1048576
  bank : ∀ b ∈ m.banks, smBank b
  data : m.data.length ≤ 1048576
  rels : m.rels.length ≤ 1048576
  imps : m.imps.length ≤ 1048576
  imp : ∀ b ∈ m.imps, b.size ≤ 1048576
  exps : m.exps.length ≤ 1048576
  exp : ∀ b ∈ m.exps, b.n.size ≤ 1048576
theorem le_sum {α : Type} {f : α → Nat} {l : List α} {a : α} (h : a ∈ l) : f a ≤ (l.map f).sum := by
  induction l with
  | nil => cases h
  | cons x l ih =>
    rcases List.mem_cons.1 h with rfl | h
    · simp
    · have := ih h
      simp; omega
theorem sm_of_wt {m : Mo} (h : wtMo m ≤ 1048576) : smMo m := by
  simp only [wtMo, wtIntS, wtString, wtExport] at h
  refine ⟨by omega, by omega, by omega, fun b hb => ?_, by omega, by omega, by omega, fun b hb => ?_, by omega, fun b hb => ?_⟩
  · have := le_sum (f := List.length) hb; simp only [smBank]; omega
  · have := le_sum (f := ByteArray.size) hb; omega
  · have := le_sum (f := exW) hb; simp only [exW] at *; omega

def hSzMo : CH := fun args hl K => match args, hl with
  | [a, .v (.int .i64 n)], [] => ∃ m, MoV a m ∧ bigMo m ∧ 0 ≤ n ∧ n ≤ 1048576 ∧ K (.v (.int .i64 (szB n (wtMo m)))) []
  | _, _ => False
def cx_s_szModule : Ctx := mkC [(35, callM [] true hSzB), (82, callM [] true hSzIntS), (83, callM [] true hSzB), (84, callM [] true hSzString), (85, callM [] true hSzExport)]
theorem cx_s_szModule_ok : CtxOk Tryz.prog cx_s_szModule := mkC_ok (mem1 ⟨s_szIntS, fnOk Tryz.func35 rfl rfl⟩ (mem1 ⟨s_szIntSS, fnOk Tryz.func82 rfl rfl⟩ (mem1 ⟨s_szByteS, fnOk Tryz.func83 rfl rfl⟩ (mem1 ⟨s_szStringS, fnOk Tryz.func84 rfl rfl⟩ (mem1 ⟨s_szExportS, fnOk Tryz.func85 rfl rfl⟩ mem0)))))
set_option maxRecDepth 100000 in
set_option pp.maxSteps 1500 in
set_option maxHeartbeats 4000000 in
theorem s_szModule : HSound Tryz.prog 33 (callM [] true hSzMo) := by
  refine callM_sound cx_s_szModule_ok mixed Tryz.func33 rfl fun args hl K hp => ?_
  unfold hSzMo at hp
  split at hp
  · rename_i a n
    obtain ⟨m, ⟨b1, z1, b2, z2, b3, z3, b4, z4, b5, z5, b6, z6, rfl⟩, hb, hn0, hn1, hp⟩ := hp
    obtain ⟨g1, g2, g3, g4, g5, g6, g7, g8, g9, g10⟩ := hb
    have hml : maxLen ≤ 9223372036854775807 := by decide
    have hw : IntKind.i64.wrap (n - m.name.size) = n - m.name.size := wrap64 (by omega)
    refine And.intro (fun h => ?_) (fun h => ?_)
    · have h := of_decide_eq_true h
      rw [hw] at h
      refine fin_i hp ?_
      rw [szB_neg (by simp only [wtMo]; omega)]
    have h := of_decide_eq_false h
    generalize IntKind.i64.wrap (n - m.name.size) = c0 at *
    refine And.intro (by omega) (And.intro (by omega) (And.intro (by rw [List.length_map]; omega) ?_))
    refine And.intro (fun h => ?_) (fun h => ?_)
    · have h := of_decide_eq_true h
      rw [List.length_map] at h
      have h := szB_lt (by omega) h
      refine fin_i hp ?_
      rw [szB_neg (by simp only [wtMo]; omega)]
    have h := of_decide_eq_false h
    rw [List.length_map] at *
    have q1 := szB_pos (szB_ge (by omega) h)
    generalize szB c0 m.text.length = c1 at *
    refine Exists.intro m.banks (And.intro rfl (And.intro g4 (And.intro g3 (And.intro (by omega) (And.intro (by omega) ?_)))))
    refine And.intro (fun h => ?_) (fun h => ?_)
    · have h := of_decide_eq_true h
      have h := szB_lt (by omega) h
      refine fin_i hp ?_
      rw [szB_neg (by simp only [wtMo]; omega)]
    have h := of_decide_eq_false h
    have q2 := szB_pos (szB_ge (by omega) h)
    generalize szB c1 (wtIntS m.banks) = c2 at *
    refine And.intro (by omega) (And.intro (by omega) (And.intro (by rw [List.length_map]; omega) ?_))
    refine And.intro (fun h => ?_) (fun h => ?_)
    · have h := of_decide_eq_true h
      rw [List.length_map] at h
      have h := szB_lt (by omega) h
      refine fin_i hp ?_
      rw [szB_neg (by simp only [wtMo]; omega)]
    have h := of_decide_eq_false h
    rw [List.length_map] at *
    have q3 := szB_pos (szB_ge (by omega) h)
    generalize szB c2 m.data.length = c3 at *
    refine And.intro (by omega) (And.intro (by omega) (And.intro (by rw [List.length_map]; omega) ?_))
    refine And.intro (fun h => ?_) (fun h => ?_)
    · have h := of_decide_eq_true h
      rw [List.length_map] at h
      have h := szB_lt (by omega) h
      refine fin_i hp ?_
      rw [szB_neg (by simp only [wtMo]; omega)]
    have h := of_decide_eq_false h
    rw [List.length_map] at *
    have q4 := szB_pos (szB_ge (by omega) h)
    generalize szB c3 m.rels.length = c4 at *
    refine Exists.intro m.imps (And.intro rfl (And.intro g8 (And.intro g7 (And.intro (by omega) (And.intro (by omega) ?_)))))
    refine And.intro (fun h => ?_) (fun h => ?_)
    · have h := of_decide_eq_true h
      have h := szB_lt (by omega) h
      refine fin_i hp ?_
      rw [szB_neg (by simp only [wtMo]; omega)]
    have h := of_decide_eq_false h
    have q5 := szB_pos (szB_ge (by omega) h)
    generalize szB c4 (wtString m.imps) = c5 at *
    refine Exists.intro m.exps (And.intro rfl (And.intro g10 (And.intro g9 (And.intro (by omega) (And.intro (by omega) ?_)))))
    refine And.intro (fun h => ?_) (fun h => ?_)
    · have h := of_decide_eq_true h
      have h := szB_lt (by omega) h
      refine fin_i hp ?_
      rw [szB_neg (by simp only [wtMo]; omega)]
    have h := of_decide_eq_false h
    have q6 := szB_pos (szB_ge (by omega) h)
    generalize szB c5 (wtExport m.exps) = c6 at *
    refine fin_i hp ?_
    rw [szB_pos (by simp only [wtMo]; omega)]
    simp only [wtMo]
    omega
  · exact hp.elim

def hToMo : CH := fun args hl K => match args, hl with
  | [a], [] => ∃ m, MoV a m ∧ smMo m ∧ K (moR m) (moH m)
  | _, _ => False
def cx_s_toModule : Ctx := mkC [(41, callM [] true hToInt), (95, callM [] true hToIntS), (96, callM [] true hToB), (97, callM [] true hToString), (98, callM [] true hToExport)]
theorem cx_s_toModule_ok : CtxOk Tryz.prog cx_s_toModule := mkC_ok (mem1 ⟨s_toIntS, fnOk Tryz.func41 rfl rfl⟩ (mem1 ⟨s_toIntSS, fnOk Tryz.func95 rfl rfl⟩ (mem1 ⟨s_toByteS, fnOk Tryz.func96 rfl rfl⟩ (mem1 ⟨s_toStringS, fnOk Tryz.func97 rfl rfl⟩ (mem1 ⟨s_toExportS, fnOk Tryz.func98 rfl rfl⟩ mem0)))))
set_option maxRecDepth 100000 in
set_option pp.maxSteps 1500 in
set_option maxHeartbeats 4000000 in
theorem s_toModule : HSound Tryz.prog 39 (callM [] true hToMo) := by
  refine callM_sound cx_s_toModule_ok mixed Tryz.func39 rfl fun args hl K hp => ?_
  unfold hToMo at hp
  split at hp
  · rename_i a
    obtain ⟨m, ⟨b1, z1, b2, z2, b3, z3, b4, z4, b5, z5, b6, z6, rfl⟩, hb, hp⟩ := hp
    obtain ⟨g0, g1, g2, g3, g4, g5, g6, g7, g8, g9⟩ := hb
    refine Exists.intro m.text (And.intro rfl (And.intro g1 ?_))
    refine Exists.intro m.banks (And.intro rfl (And.intro g3 (And.intro g2 ?_)))
    refine Exists.intro m.data (And.intro rfl (And.intro g4 ?_))
    refine Exists.intro m.rels (And.intro rfl (And.intro g5 ?_))
    refine Exists.intro m.imps (And.intro rfl (And.intro g6 ?_))
    refine Exists.intro m.exps (And.intro rfl (And.intro g8 ?_))
    refine And.intro (closed_Int _) ?_
    refine And.intro (closed_IntS _) ?_
    refine And.intro (closed_bytes _) ?_
    refine And.intro (closed_Int _) ?_
    refine And.intro (closed_String _) ?_
    refine And.intro (closed_Export _) ?_
    exact hp
  · exact hp.elim

def hEqMo : CH := fun args hl K => match args, hl with
  | [a, b], [] => ∃ m, MoV a m ∧ MoV b m ∧ smMo m ∧ K (.v (.bool true)) []
  | _, _ => False
def cx_s_eqModule : Ctx := mkC [(47, callM [] true hEqInt), (104, callM [] true hEqIntS), (54, callM [] true hEqB), (105, callM [] true hEqString), (106, callM [] true hEqExport)]
theorem cx_s_eqModule_ok : CtxOk Tryz.prog cx_s_eqModule := mkC_ok (mem1 ⟨s_eqIntS, fnOk Tryz.func47 rfl rfl⟩ (mem1 ⟨s_eqIntSS, fnOk Tryz.func104 rfl rfl⟩ (mem1 ⟨s_eqByteS, fnOk Tryz.func54 rfl rfl⟩ (mem1 ⟨s_eqStringS, fnOk Tryz.func105 rfl rfl⟩ (mem1 ⟨s_eqExportS, fnOk Tryz.func106 rfl rfl⟩ mem0)))))
set_option maxRecDepth 100000 in
set_option pp.maxSteps 1500 in
set_option maxHeartbeats 4000000 in
theorem s_eqModule : HSound Tryz.prog 45 (callM [] true hEqMo) := by
  refine callM_sound cx_s_eqModule_ok mixed Tryz.func45 rfl fun args hl K hp => ?_
  unfold hEqMo at hp
  split at hp
  · rename_i a b
    obtain ⟨m, ⟨b1, z1, b2, z2, b3, z3, b4, z4, b5, z5, b6, z6, rfl⟩, ⟨b1', z1', b2', z2', b3', z3', b4', z4', b5', z5', b6', z6', rfl⟩, hb, hp⟩ := hp
    obtain ⟨g0, g1, g2, g3, g4, g5, g6, g7, g8, g9⟩ := hb
    refine And.intro (fun h => ?_) (fun h => ?_)
    · exfalso; simp at h
    refine Exists.intro m.text (And.intro rfl (And.intro rfl (And.intro g1 ?_)))
    refine And.intro (fun h => ?_) (fun h => ?_)
    · cases h
    refine Exists.intro m.banks (And.intro rfl (And.intro rfl (And.intro g3 (And.intro g2 ?_))))
    refine And.intro (fun h => ?_) (fun h => ?_)
    · cases h
    refine Exists.intro m.data (Exists.intro m.data (And.intro rfl (And.intro rfl (And.intro g4 ?_))))
    refine And.intro (fun h => ?_) (fun h => ?_)
    · exfalso; simp at h
    refine And.intro (fun h => ?_) (fun h => ?_)
    · exfalso; simp at h
    refine Exists.intro m.rels (And.intro rfl (And.intro rfl (And.intro g5 ?_)))
    refine And.intro (fun h => ?_) (fun h => ?_)
    · cases h
    refine Exists.intro m.imps (And.intro rfl (And.intro rfl (And.intro g6 ?_)))
    refine And.intro (fun h => ?_) (fun h => ?_)
    · cases h
    refine Exists.intro m.exps (And.intro rfl (And.intro rfl (And.intro g8 ?_)))
    refine And.intro (fun h => ?_) (fun h => ?_)
    · cases h
    exact hp
  · exact hp.elim
/-! ### Module: the size of a slice with what its elements hold (printed by gen/szl.py) -/

def wtModule (bs : List Mo) : Nat := bs.length + (bs.map wtMo).sum
def hSzModule : CH := fun args hl K => match args, hl with
  | [.imm _ _ 8 l, .v (.int .i64 n)], [] => ∃ bs : List Mo, l = bs.map moC ∧ (∀ b ∈ bs, bigMo b) ∧ bs.length ≤ maxLen ∧ 0 ≤ n ∧ n ≤ 1048576 ∧ K (.v (.int .i64 (szB n (wtModule bs)))) []
  | _, _ => False
def cx_s_szModuleS : Ctx := mkC [(33, callM [] true hSzMo)]
theorem cx_s_szModuleS_ok : CtxOk Tryz.prog cx_s_szModuleS := mkC_ok (mem1 ⟨s_szModule, fnOk Tryz.func33 rfl rfl⟩ mem0)
set_option maxRecDepth 100000 in
set_option pp.maxSteps 1500 in
theorem s_szModuleS : HSound Tryz.prog 7 (callM [] true hSzModule) := by
  refine callM_sound cx_s_szModuleS_ok mixed Tryz.func7 rfl fun args hl K hp => ?_
  unfold hSzModule at hp
  split at hp
  · rename_i t z l n
    obtain ⟨bs, rfl, hbig, hlen, hn0, hn1, hp⟩ := hp
    have hml : maxLen ≤ 9223372036854775807 := by decide
    have hw : IntKind.i64.wrap (n - ((bs.map moC).length : Int)) = n - bs.length := by rw [List.length_map]; exact wrap64 (by omega)
    refine And.intro (fun h1 => ?_) (fun h1 => ?_)
    · have h1 := of_decide_eq_true h1
      rw [hw] at h1
      refine fin_i hp ?_
      rw [szB_neg (by simp only [wtModule]; omega)]
    have h1 := of_decide_eq_false h1
    refine Exists.intro false (Exists.intro [0, 1, 5] (Exists.intro (fun m vs h => ∃ i : Nat, i ≤ bs.length ∧ m = bs.length - i ∧ 0 ≤ n - bs.length - ((bs.take i).map wtMo).sum ∧ vs = [.imm t z 8 (bs.map moC), .v (.int .i64 (n - bs.length - ((bs.take i).map wtMo).sum)), .v (.int .i64 i)] ∧ h = []) (And.intro ?_ ?_)))
    · refine Exists.intro bs.length ?_
      refine ⟨0, by omega, rfl, ?_, ?_, rfl⟩
      · rw [hw] at h1; simp; omega
      · rw [hw]; simp
    · rw [hw] at h1
      clear hw
      intro m vs h hI
      obtain ⟨i, hi, rfl, hs0, rfl, rfl⟩ := hI
      refine And.intro (fun h2 => ?_) (fun h2 => ?_)
      · simp only [decide_eq_true_eq, List.length_map] at h2
        have hlt : i < bs.length := by omega
        obtain ⟨b, hbi⟩ : ∃ b, bs[i]? = some b := ⟨_, List.getElem?_eq_getElem hlt⟩
        have hbb := hbig b (List.mem_of_getElem? hbi)
        have hst := sum_take (f := wtMo) hbi
        have hle := sum_take_le wtMo bs (i + 1)
        generalize hS : ((bs.take i).map wtMo).sum = S at *
        generalize hS1 : ((bs.take (i + 1)).map wtMo).sum = S1 at *
        have hlt2 : i < (bs.length : Int) := by omega
        refine Exists.intro i (And.intro rfl (Exists.intro (moC b) (And.intro (get_map hbi) ?_)))
        refine Exists.intro b (And.intro ⟨_, _, _, _, _, _, _, _, _, _, _, _, rfl⟩ (And.intro hbb (And.intro hs0 (And.intro (by omega) ?_))))
        refine And.intro (fun h3 => ?_) (fun h3 => ?_)
        · have h3 := of_decide_eq_true h3
          refine fin_i hp ?_
          try rw [List.length_map] at h3
          have h3 : n - bs.length - (S : Int) < (wtMo b : Nat) := szB_lt hs0 h3
          rw [szB_neg (by simp only [wtModule]; omega)]
        · have h3 := of_decide_eq_false h3
          refine Exists.intro (bs.length - (i + 1)) (And.intro (by omega) ?_)
          try rw [List.length_map] at h3
          have h3 : (wtMo b : Nat) ≤ n - bs.length - (S : Int) := szB_ge hs0 h3
          refine ⟨i + 1, by omega, rfl, ?_, ?_, rfl⟩
          · rw [hS1]; omega
          · rw [wrap_succ hlt (by omega), hS1, show n - (bs.length : Int) - (S1 : Int) = n - bs.length - S - (wtMo b : Nat) by omega]
            (try rw [List.length_map])
            rw [← szB_pos h3]
            try rfl
      · simp only [decide_eq_false_iff_not, List.length_map] at h2
        have : i = bs.length := by omega
        subst this
        rw [List.take_length] at hs0 ⊢
        refine fin_i hp ?_
        rw [szB_pos (by simp only [wtModule]; omega)]
        simp only [wtModule]
        omega
  · exact hp.elim

/-! ### Module: slices whose elements own slices: laid, compared (printed by gen/lists.py) -/

theorem closed_Module (bs : List Mo) : ClosedL (bs.map moC) := by
  intro e he x hx
  obtain ⟨b, _, rfl⟩ := List.mem_map.1 he
  simp [moC] at hx
  rcases hx with rfl | rfl | rfl | rfl | rfl | rfl | rfl | rfl <;> rfl
theorem closed_fillModule (bs : List Mo) (i k : Nat) : ClosedL ((bs.take i).map moC ++ List.replicate k (moC zeroMo)) := by
  refine closed_app (closed_Module _) ?_
  have := closed_Module (List.replicate k zeroMo)
  simpa using this
def hToModule : CH := fun args hl K => match args, hl with
  | [.imm _ _ 8 l], [] => ∃ bs : List Mo, l = bs.map moC ∧ (∀ b ∈ bs, smMo b) ∧ bs.length ≤ 1048576 ∧ K (.slc 0 0 bs.length false) [.lst 8 (bs.map moC)]
  | _, _ => False
def cx_s_toModuleS : Ctx := mkC [(39, callM [] true hToMo)]
theorem cx_s_toModuleS_ok : CtxOk Tryz.prog cx_s_toModuleS := mkC_ok (mem1 ⟨s_toModule, fnOk Tryz.func39 rfl rfl⟩ mem0)
set_option maxRecDepth 100000 in
set_option pp.maxSteps 1500 in
set_option maxHeartbeats 4000000 in
theorem s_toModuleS : HSound Tryz.prog 10 (callM [] true hToModule) := by
  refine callM_sound cx_s_toModuleS_ok mixed Tryz.func10 rfl fun args hl K hp => ?_
  unfold hToModule at hp
  split at hp
  · rename_i t z l
    obtain ⟨bs, rfl, hsm, hb, hp⟩ := hp
    refine Or.inl ?_
    refine Exists.intro bs.length (And.intro (by simp) (And.intro (by simp) (And.intro (by simp only; omega) ?_)))
    refine Exists.intro true (Exists.intro [0, 3, 4] (Exists.intro (fun m vs h => ∃ i : Nat, i ≤ bs.length ∧ m = bs.length - i ∧ vs = [.imm t z 8 (bs.map moC), .slc 0 0 bs.length false, .v (.int .i64 i)] ∧ h = [.lst 8 ((bs.take i).map moC ++ List.replicate (bs.length - i) (moC zeroMo))]) (And.intro ?_ ?_)))
    · refine Exists.intro [] ?_
      refine And.intro (closed_fillModule bs 0 bs.length) ?_
      refine Exists.intro bs.length ?_
      exact ⟨0, by omega, rfl, rfl, rfl⟩
    · intro m vs h hI
      obtain ⟨i, hi, rfl, rfl, rfl⟩ := hI
      refine And.intro (fun h1 => ?_) (fun h1 => ?_)
      · simp only [decide_eq_true_eq, List.length_map] at h1
        have hlt : i < bs.length := by omega
        obtain ⟨b, hbi⟩ : ∃ b, bs[i]? = some b := ⟨_, List.getElem?_eq_getElem hlt⟩
        have hbb := hsm b (List.mem_of_getElem? hbi)
        have hst := fill_step moC (moC zeroMo) bs i b hbi
        have hcl := closed_fillModule bs (i + 1) (bs.length - (i + 1))
        have hg : ((bs.take i).map moC ++ List.replicate (bs.length - i) (moC zeroMo))[0 + i]? = some (moC zeroMo) := by rw [Nat.zero_add, List.getElem?_append_right (by simp; omega), List.getElem?_replicate, if_pos (by simp; omega)]
        rw [← hst] at hcl
        generalize hL : (bs.take i).map moC ++ List.replicate (bs.length - i) (moC zeroMo) = L at *
        refine Exists.intro i (And.intro rfl (Exists.intro (moC b) (And.intro (get_map hbi) ?_)))
        refine Exists.intro b (And.intro ⟨_, _, _, _, _, _, _, _, _, _, _, _, rfl⟩ (And.intro hbb ?_))
        refine Exists.intro i (And.intro rfl (And.intro hlt ?_))
        repeat' (first | refine Exists.intro _ (And.intro (lendL _ _) (And.intro (List.length_map _) (And.intro (by first | exact closed_bytes _ | exact closed_Int _ | exact closed_String _ | exact closed_Export _ | exact closed_IntS _ | exact closed_Target _ | exact closed_TargetS _) ?_))))
        refine Exists.intro (moC zeroMo) (And.intro hg (And.intro (by decide) ?_))
        refine Exists.intro [] ?_
        refine And.intro (by rw [Nat.zero_add]; exact hcl) ?_
        refine Exists.intro (bs.length - (i + 1)) (And.intro (by omega) ?_)
        refine ⟨i + 1, by omega, rfl, ?_, ?_⟩
        · rw [← wrap_succ hlt (by omega)]
        · rw [← hst, Nat.zero_add]
          rfl
      · simp only [decide_eq_false_iff_not, List.length_map] at h1
        have : i = bs.length := by omega
        subst this
        have e : (bs.take bs.length).map moC ++ List.replicate (bs.length - bs.length) (moC zeroMo) = bs.map moC := by simp
        rw [← e] at hp
        refine And.intro (e ▸ closed_Module bs) ?_
        exact hp
  · exact hp.elim

def hEqModule : CH := fun args hl K => match args, hl with
  | [.imm _ _ 8 l, .imm _ _ 8 r], [] => ∃ bs : List Mo, l = bs.map moC ∧ r = bs.map moC ∧ (∀ b ∈ bs, smMo b) ∧ bs.length ≤ 1048576 ∧ K (.v (.bool true)) []
  | _, _ => False
def cx_s_eqModuleS : Ctx := mkC [(45, callM [] true hEqMo)]
theorem cx_s_eqModuleS_ok : CtxOk Tryz.prog cx_s_eqModuleS := mkC_ok (mem1 ⟨s_eqModule, fnOk Tryz.func45 rfl rfl⟩ mem0)
set_option maxRecDepth 100000 in
set_option pp.maxSteps 1500 in
set_option maxHeartbeats 4000000 in
theorem s_eqModuleS : HSound Tryz.prog 13 (callM [] true hEqModule) := by
  refine callM_sound cx_s_eqModuleS_ok mixed Tryz.func13 rfl fun args hl K hp => ?_
  unfold hEqModule at hp
  split at hp
  · rename_i t z l t' z' r
    obtain ⟨bs, rfl, rfl, hsm, hb, hp⟩ := hp
    refine And.intro (fun h1 => ?_) (fun h1 => ?_)
    · simp at h1
    clear h1
    refine Exists.intro true (Exists.intro [0, 1, 5] (Exists.intro (fun m vs h => ∃ i : Nat, i ≤ bs.length ∧ m = bs.length - i ∧ vs = [.imm t z 8 (bs.map moC), .imm t' z' 8 (bs.map moC), .v (.int .i64 i)] ∧ h = []) (And.intro ?_ ?_)))
    · refine Exists.intro [] (Exists.intro bs.length ?_)
      exact ⟨0, by omega, rfl, rfl, rfl⟩
    · intro m vs h hI
      obtain ⟨i, hi, rfl, rfl, rfl⟩ := hI
      refine And.intro (fun h1 => ?_) (fun h1 => ?_)
      · simp only [decide_eq_true_eq, List.length_map] at h1
        have hlt : i < bs.length := by omega
        obtain ⟨b, hbi⟩ : ∃ b, bs[i]? = some b := ⟨_, List.getElem?_eq_getElem hlt⟩
        have hbb := hsm b (List.mem_of_getElem? hbi)
        refine Or.inl ?_
        refine And.intro (show wfB _ = true from by kernel_rfl) ?_
        refine Exists.intro i (And.intro rfl (Exists.intro (moC b) (And.intro (get_map hbi) ?_)))
        refine Exists.intro i (And.intro rfl (Exists.intro (moC b) (And.intro (get_map hbi) ?_)))
        apply HeldC.intro
        · refine Exists.intro b ?_; refine And.intro ⟨_, _, _, _, _, _, _, _, _, _, _, _, rfl⟩ ?_; refine And.intro ⟨_, _, _, _, _, _, _, _, _, _, _, _, rfl⟩ ?_; refine And.intro hbb ?_
          exact And.intro rfl rfl
        repeat' (first
          | refine And.intro (fun h1 => ?_) (fun h1 => ?_)
          | refine And.intro (Exists.intro i (And.intro rfl (Exists.intro (moC b) (And.intro (get_map hbi) (And.intro rfl rfl))))) ?_
          | refine And.intro (And.intro rfl rfl) ?_)
        · cases h1
        · refine Exists.intro [] (Exists.intro (bs.length - (i + 1)) (And.intro (by omega) ?_))
          exact ⟨i + 1, by omega, rfl, by rw [wrap_succ hlt (by omega)], rfl⟩
      · exact hp
  · exact hp.elim

end Go.Proofs.YtbfjkjdbdejnmaaGreat.Ab
