/- Functions walked, part 3. No condition. -/
import Derived.Test.YtbfjkjdbdejnmaaGreatWalk2
set_option linter.unusedVariables false
set_option linter.unusedSimpArgs false
/- Modules as trees: banks, exports, whole modules: laid, compared, measured. No condition. -/
namespace Go.Proofs.YtbfjkjdbdejnmaaGreat.Ab
set_option linter.unusedVariables false
set_option linter.unusedSimpArgs false

def exW (e : Ex) : Nat := e.n.size
def bigEx (e : Ex) : Prop := e.n.size ≤ maxLen
def hSzEx : CH := fun args hl K => match args, hl with
  | [.agg [.v (.string s), .v _, .v _], .v (.int .i64 n)], [] => s.size ≤ maxLen ∧ 0 ≤ n ∧ n ≤ 1048576 ∧ K (.v (.int .i64 (szB n s.size))) []
  | _, _ => False
def cx_s_szExport : Ctx := mkC []
theorem cx_s_szExport_ok : CtxOk Tryz.prog cx_s_szExport := cx0_ok
set_option maxRecDepth 100000 in
set_option pp.maxSteps 1500 in
theorem s_szExport : HSound Tryz.prog 136 (callM [] false hSzEx) := by
  refine callM_sound cx_s_szExport_ok mixed Tryz.func136 rfl fun args hl K hp => ?_
  unfold hSzEx at hp
  split at hp
  · rename_i s _ _ n
    obtain ⟨h0, h1, h2, hp⟩ := hp
    have hml : maxLen ≤ 9223372036854775807 := by decide
    have hw : IntKind.i64.wrap (n - s.size) = n - s.size := wrap64 (by omega)
    repeat' ((first | refine And.intro (fun h1 => ?_) (fun h1 => ?_) | refine And.intro (by decide) ?_ | refine And.intro (show wfB _ = true from by kernel_rfl) ?_ | refine And.intro (And.intro rfl rfl) ?_ | exact And.intro rfl rfl | apply HeldC.intro | exact AV.top | (apply HeldF.intro; refine Exists.intro _ (And.intro (by assumption) ?_); refine And.intro (by decide) ?_; exact And.intro rfl rfl) | (refine And.intro (by (refine Exists.intro _ (And.intro (by assumption) ?_); refine And.intro (by decide) ?_; exact And.intro rfl rfl)) ?_) | refine Or.inl ?_) <;> try cases h1)
    all_goals refine fin_i hp ?_
    all_goals clear hp
    all_goals rw [hw] at *
    all_goals simp only [szB, decide_eq_true_eq, decide_eq_false_iff_not] at *
    all_goals split <;> omega
  · exact hp.elim
/-! ### Export: the size of a slice with what its elements hold (printed by gen/szl.py) -/

def wtExport (bs : List Ex) : Nat := bs.length + (bs.map exW).sum
def hSzExport : CH := fun args hl K => match args, hl with
  | [.imm _ _ 3 l, .v (.int .i64 n)], [] => ∃ bs : List Ex, l = bs.map exC ∧ (∀ b ∈ bs, bigEx b) ∧ bs.length ≤ maxLen ∧ 0 ≤ n ∧ n ≤ 1048576 ∧ K (.v (.int .i64 (szB n (wtExport bs)))) []
  | _, _ => False
def cx_s_szExportS : Ctx := mkC [(136, callM [] false hSzEx)]
theorem cx_s_szExportS_ok : CtxOk Tryz.prog cx_s_szExportS := mkC_ok (mem1 ⟨s_szExport, fnOk Tryz.func136 rfl rfl⟩ mem0)
set_option maxRecDepth 100000 in
set_option pp.maxSteps 1500 in
theorem s_szExportS : HSound Tryz.prog 85 (callM [] true hSzExport) := by
  refine callM_sound cx_s_szExportS_ok mixed Tryz.func85 rfl fun args hl K hp => ?_
  unfold hSzExport at hp
  split at hp
  · rename_i t z l n
    obtain ⟨bs, rfl, hbig, hlen, hn0, hn1, hp⟩ := hp
    have hml : maxLen ≤ 9223372036854775807 := by decide
    have hw : IntKind.i64.wrap (n - ((bs.map exC).length : Int)) = n - bs.length := by rw [List.length_map]; exact wrap64 (by omega)
    refine And.intro (fun h1 => ?_) (fun h1 => ?_)
    · have h1 := of_decide_eq_true h1
      rw [hw] at h1
      refine fin_i hp ?_
      rw [szB_neg (by simp only [wtExport]; omega)]
    have h1 := of_decide_eq_false h1
    refine Exists.intro false (Exists.intro [0, 1, 5] (Exists.intro (fun m vs h => ∃ i : Nat, i ≤ bs.length ∧ m = bs.length - i ∧ 0 ≤ n - bs.length - ((bs.take i).map exW).sum ∧ vs = [.imm t z 3 (bs.map exC), .v (.int .i64 (n - bs.length - ((bs.take i).map exW).sum)), .v (.int .i64 i)] ∧ h = []) (And.intro ?_ ?_)))
    · refine Exists.intro bs.length ?_
      refine ⟨0, by omega, rfl, ?_, ?_, rfl⟩
      · rw [hw] at h1; simp; omega
      · rw [hw]; simp
    · rw [hw] at h1
      clear hw
      intro m vs h hI
      obtain ⟨i, hi, rfl, hs0, rfl, rfl⟩ := hI
      refine And.intro (fun h2 => ?_) (fun h2 => ?_)
      · simp only [decide_eq_true_eq, List.length_map] at h2
        have hlt : i < bs.length := by omega
        obtain ⟨b, hbi⟩ : ∃ b, bs[i]? = some b := ⟨_, List.getElem?_eq_getElem hlt⟩
        have hbb := hbig b (List.mem_of_getElem? hbi)
        have hst := sum_take (f := exW) hbi
        have hle := sum_take_le exW bs (i + 1)
        generalize hS : ((bs.take i).map exW).sum = S at *
        generalize hS1 : ((bs.take (i + 1)).map exW).sum = S1 at *
        have hlt2 : i < (bs.length : Int) := by omega
        refine Exists.intro i (And.intro rfl (Exists.intro (exC b) (And.intro (get_map hbi) ?_)))
        refine And.intro hbb (And.intro hs0 (And.intro (by omega) ?_))
        refine And.intro (fun h3 => ?_) (fun h3 => ?_)
        · have h3 := of_decide_eq_true h3
          refine fin_i hp ?_
          try rw [List.length_map] at h3
          have h3 : n - bs.length - (S : Int) < (exW b : Nat) := szB_lt hs0 h3
          rw [szB_neg (by simp only [wtExport]; omega)]
        · have h3 := of_decide_eq_false h3
          refine Exists.intro (bs.length - (i + 1)) (And.intro (by omega) ?_)
          try rw [List.length_map] at h3
          have h3 : (exW b : Nat) ≤ n - bs.length - (S : Int) := szB_ge hs0 h3
          refine ⟨i + 1, by omega, rfl, ?_, ?_, rfl⟩
          · rw [hS1]; omega
          · rw [wrap_succ hlt (by omega), hS1, show n - (bs.length : Int) - (S1 : Int) = n - bs.length - S - (exW b : Nat) by omega]
            (try rw [List.length_map])
            rw [← szB_pos h3]
            try rfl
      · simp only [decide_eq_false_iff_not, List.length_map] at h2
        have : i = bs.length := by omega
        subst this
        rw [List.take_length] at hs0 ⊢
        refine fin_i hp ?_
        rw [szB_pos (by simp only [wtExport]; omega)]
        simp only [wtExport]
        omega
  · exact hp.elim

def bigBank (b : List Int) : Prop := b.length ≤ maxLen
def smBank (b : List Int) : Prop := b.length ≤ 1048576
/-! ### IntS: the size of a slice with what its elements hold (printed by gen/szl.py) -/

def wtIntS (bs : List (List Int)) : Nat := bs.length + (bs.map List.length).sum
def hSzIntS : CH := fun args hl K => match args, hl with
  | [.imm _ _ 1 l, .v (.int .i64 n)], [] => ∃ bs : List (List Int), l = bs.map bankC ∧ (∀ b ∈ bs, bigBank b) ∧ bs.length ≤ maxLen ∧ 0 ≤ n ∧ n ≤ 1048576 ∧ K (.v (.int .i64 (szB n (wtIntS bs)))) []
  | _, _ => False
def cx_s_szIntSS : Ctx := mkC [(35, callM [] true hSzB)]
theorem cx_s_szIntSS_ok : CtxOk Tryz.prog cx_s_szIntSS := mkC_ok (mem1 ⟨s_szIntS, fnOk Tryz.func35 rfl rfl⟩ mem0)
set_option maxRecDepth 100000 in
set_option pp.maxSteps 1500 in
theorem s_szIntSS : HSound Tryz.prog 82 (callM [] true hSzIntS) := by
  refine callM_sound cx_s_szIntSS_ok mixed Tryz.func82 rfl fun args hl K hp => ?_
  unfold hSzIntS at hp
  split at hp
  · rename_i t z l n
    obtain ⟨bs, rfl, hbig, hlen, hn0, hn1, hp⟩ := hp
    have hml : maxLen ≤ 9223372036854775807 := by decide
    have hw : IntKind.i64.wrap (n - ((bs.map bankC).length : Int)) = n - bs.length := by rw [List.length_map]; exact wrap64 (by omega)
    refine And.intro (fun h1 => ?_) (fun h1 => ?_)
    · have h1 := of_decide_eq_true h1
      rw [hw] at h1
      refine fin_i hp ?_
      rw [szB_neg (by simp only [wtIntS]; omega)]
    have h1 := of_decide_eq_false h1
    refine Exists.intro false (Exists.intro [0, 1, 5] (Exists.intro (fun m vs h => ∃ i : Nat, i ≤ bs.length ∧ m = bs.length - i ∧ 0 ≤ n - bs.length - ((bs.take i).map List.length).sum ∧ vs = [.imm t z 1 (bs.map bankC), .v (.int .i64 (n - bs.length - ((bs.take i).map List.length).sum)), .v (.int .i64 i)] ∧ h = []) (And.intro ?_ ?_)))
    · refine Exists.intro bs.length ?_
      refine ⟨0, by omega, rfl, ?_, ?_, rfl⟩
      · rw [hw] at h1; simp; omega
      · rw [hw]; simp
    · rw [hw] at h1
      clear hw
      intro m vs h hI
      obtain ⟨i, hi, rfl, hs0, rfl, rfl⟩ := hI
      refine And.intro (fun h2 => ?_) (fun h2 => ?_)
      · simp only [decide_eq_true_eq, List.length_map] at h2
        have hlt : i < bs.length := by omega
        obtain ⟨b, hbi⟩ : ∃ b, bs[i]? = some b := ⟨_, List.getElem?_eq_getElem hlt⟩
        have hbb := hbig b (List.mem_of_getElem? hbi)
        have hst := sum_take (f := List.length) hbi
        have hle := sum_take_le List.length bs (i + 1)
        generalize hS : ((bs.take i).map List.length).sum = S at *
        generalize hS1 : ((bs.take (i + 1)).map List.length).sum = S1 at *
        have hlt2 : i < (bs.length : Int) := by omega
        refine Exists.intro i (And.intro rfl (Exists.intro (bankC b) (And.intro (get_map hbi) ?_)))
        refine And.intro hs0 (And.intro (by omega) (And.intro (by simp only [bigBank] at hbb; rw [List.length_map]; omega) ?_))
        refine And.intro (fun h3 => ?_) (fun h3 => ?_)
        · have h3 := of_decide_eq_true h3
          refine fin_i hp ?_
          try rw [List.length_map] at h3
          have h3 : n - bs.length - (S : Int) < (List.length b : Nat) := szB_lt hs0 h3
          rw [szB_neg (by simp only [wtIntS]; omega)]
        · have h3 := of_decide_eq_false h3
          refine Exists.intro (bs.length - (i + 1)) (And.intro (by omega) ?_)
          try rw [List.length_map] at h3
          have h3 : (List.length b : Nat) ≤ n - bs.length - (S : Int) := szB_ge hs0 h3
          refine ⟨i + 1, by omega, rfl, ?_, ?_, rfl⟩
          · rw [hS1]; omega
          · rw [wrap_succ hlt (by omega), hS1, show n - (bs.length : Int) - (S1 : Int) = n - bs.length - S - (List.length b : Nat) by omega]
            (try rw [List.length_map])
            rw [← szB_pos h3]
            try rfl
      · simp only [decide_eq_false_iff_not, List.length_map] at h2
        have : i = bs.length := by omega
        subst this
        rw [List.take_length] at hs0 ⊢
        refine fin_i hp ?_
        rw [szB_pos (by simp only [wtIntS]; omega)]
        simp only [wtIntS]
        omega
  · exact hp.elim

/-! ### IntS: slices whose elements own slices: laid, compared (printed by gen/lists.py) -/

theorem closed_IntS (bs : List (List Int)) : ClosedL (bs.map bankC) := by
  intro e he x hx
  obtain ⟨b, _, rfl⟩ := List.mem_map.1 he
  simp [bankC] at hx
  rcases hx with rfl <;> rfl
theorem closed_fillIntS (bs : List (List Int)) (i k : Nat) : ClosedL ((bs.take i).map bankC ++ List.replicate k (bankC [])) := by
  refine closed_app (closed_IntS _) ?_
  have := closed_IntS (List.replicate k [])
  simpa using this
def hToIntS : CH := fun args hl K => match args, hl with
  | [.imm _ _ 1 l], [] => ∃ bs : List (List Int), l = bs.map bankC ∧ (∀ b ∈ bs, smBank b) ∧ bs.length ≤ 1048576 ∧ K (.slc 0 0 bs.length false) [.lst 1 (bs.map bankC)]
  | _, _ => False
def cx_s_toIntSS : Ctx := mkC [(41, callM [] true hToInt)]
theorem cx_s_toIntSS_ok : CtxOk Tryz.prog cx_s_toIntSS := mkC_ok (mem1 ⟨s_toIntS, fnOk Tryz.func41 rfl rfl⟩ mem0)
set_option maxRecDepth 100000 in
set_option pp.maxSteps 1500 in
set_option maxHeartbeats 4000000 in
theorem s_toIntSS : HSound Tryz.prog 95 (callM [] true hToIntS) := by
  refine callM_sound cx_s_toIntSS_ok mixed Tryz.func95 rfl fun args hl K hp => ?_
  unfold hToIntS at hp
  split at hp
  · rename_i t z l
    obtain ⟨bs, rfl, hsm, hb, hp⟩ := hp
    refine Or.inl ?_
    refine Exists.intro bs.length (And.intro (by simp) (And.intro (by simp) (And.intro (by simp only; omega) ?_)))
    refine Exists.intro true (Exists.intro [0, 3, 4] (Exists.intro (fun m vs h => ∃ i : Nat, i ≤ bs.length ∧ m = bs.length - i ∧ vs = [.imm t z 1 (bs.map bankC), .slc 0 0 bs.length false, .v (.int .i64 i)] ∧ h = [.lst 1 ((bs.take i).map bankC ++ List.replicate (bs.length - i) (bankC []))]) (And.intro ?_ ?_)))
    · refine Exists.intro [] ?_
      refine And.intro (closed_fillIntS bs 0 bs.length) ?_
      refine Exists.intro bs.length ?_
      exact ⟨0, by omega, rfl, rfl, rfl⟩
    · intro m vs h hI
      obtain ⟨i, hi, rfl, rfl, rfl⟩ := hI
      refine And.intro (fun h1 => ?_) (fun h1 => ?_)
      · simp only [decide_eq_true_eq, List.length_map] at h1
        have hlt : i < bs.length := by omega
        obtain ⟨b, hbi⟩ : ∃ b, bs[i]? = some b := ⟨_, List.getElem?_eq_getElem hlt⟩
        have hbb := hsm b (List.mem_of_getElem? hbi)
        have hst := fill_step bankC (bankC []) bs i b hbi
        have hcl := closed_fillIntS bs (i + 1) (bs.length - (i + 1))
        have hg : ((bs.take i).map bankC ++ List.replicate (bs.length - i) (bankC []))[0 + i]? = some (bankC []) := by rw [Nat.zero_add, List.getElem?_append_right (by simp; omega), List.getElem?_replicate, if_pos (by simp; omega)]
        rw [← hst] at hcl
        generalize hL : (bs.take i).map bankC ++ List.replicate (bs.length - i) (bankC []) = L at *
        refine Exists.intro i (And.intro rfl (Exists.intro (bankC b) (And.intro (get_map hbi) ?_)))
        refine Exists.intro b (And.intro rfl (And.intro hbb ?_))
        refine Exists.intro i (And.intro rfl (And.intro hlt ?_))
        repeat' (first | refine Exists.intro _ (And.intro (lendL _ _) (And.intro (List.length_map _) (And.intro (by first | exact closed_bytes _ | exact closed_Int _ | exact closed_String _ | exact closed_Export _ | exact closed_IntS _ | exact closed_Target _ | exact closed_TargetS _) ?_))))
        refine Exists.intro (bankC []) (And.intro hg (And.intro (by decide) ?_))
        refine Exists.intro [] ?_
        refine And.intro (by rw [Nat.zero_add]; exact hcl) ?_
        refine Exists.intro (bs.length - (i + 1)) (And.intro (by omega) ?_)
        refine ⟨i + 1, by omega, rfl, ?_, ?_⟩
        · rw [← wrap_succ hlt (by omega)]
        · rw [← hst, Nat.zero_add]
          rfl
      · simp only [decide_eq_false_iff_not, List.length_map] at h1
        have : i = bs.length := by omega
        subst this
        have e : (bs.take bs.length).map bankC ++ List.replicate (bs.length - bs.length) (bankC []) = bs.map bankC := by simp
        rw [← e] at hp
        refine And.intro (e ▸ closed_IntS bs) ?_
        exact hp
  · exact hp.elim

def hEqIntS : CH := fun args hl K => match args, hl with
  | [.imm _ _ 1 l, .imm _ _ 1 r], [] => ∃ bs : List (List Int), l = bs.map bankC ∧ r = bs.map bankC ∧ (∀ b ∈ bs, smBank b) ∧ bs.length ≤ 1048576 ∧ K (.v (.bool true)) []
  | _, _ => False
def cx_s_eqIntSS : Ctx := mkC [(47, callM [] true hEqInt)]
theorem cx_s_eqIntSS_ok : CtxOk Tryz.prog cx_s_eqIntSS := mkC_ok (mem1 ⟨s_eqIntS, fnOk Tryz.func47 rfl rfl⟩ mem0)
set_option maxRecDepth 100000 in
set_option pp.maxSteps 1500 in
set_option maxHeartbeats 4000000 in
theorem s_eqIntSS : HSound Tryz.prog 104 (callM [] true hEqIntS) := by
  refine callM_sound cx_s_eqIntSS_ok mixed Tryz.func104 rfl fun args hl K hp => ?_
  unfold hEqIntS at hp
  split at hp
  · rename_i t z l t' z' r
    obtain ⟨bs, rfl, rfl, hsm, hb, hp⟩ := hp
    refine And.intro (fun h1 => ?_) (fun h1 => ?_)
    · simp at h1
    clear h1
    refine Exists.intro true (Exists.intro [0, 1, 5] (Exists.intro (fun m vs h => ∃ i : Nat, i ≤ bs.length ∧ m = bs.length - i ∧ vs = [.imm t z 1 (bs.map bankC), .imm t' z' 1 (bs.map bankC), .v (.int .i64 i)] ∧ h = []) (And.intro ?_ ?_)))
    · refine Exists.intro [] (Exists.intro bs.length ?_)
      exact ⟨0, by omega, rfl, rfl, rfl⟩
    · intro m vs h hI
      obtain ⟨i, hi, rfl, rfl, rfl⟩ := hI
      refine And.intro (fun h1 => ?_) (fun h1 => ?_)
      · simp only [decide_eq_true_eq, List.length_map] at h1
        have hlt : i < bs.length := by omega
        obtain ⟨b, hbi⟩ : ∃ b, bs[i]? = some b := ⟨_, List.getElem?_eq_getElem hlt⟩
        have hbb := hsm b (List.mem_of_getElem? hbi)
        refine Or.inl ?_
        refine And.intro (show wfB _ = true from by kernel_rfl) ?_
        refine Exists.intro i (And.intro rfl (Exists.intro (bankC b) (And.intro (get_map hbi) ?_)))
        refine Exists.intro i (And.intro rfl (Exists.intro (bankC b) (And.intro (get_map hbi) ?_)))
        apply HeldC.intro
        · refine Exists.intro b ?_; refine And.intro rfl ?_; refine And.intro rfl ?_; refine And.intro hbb ?_
          exact And.intro rfl rfl
        repeat' (first
          | refine And.intro (fun h1 => ?_) (fun h1 => ?_)
          | refine And.intro (Exists.intro i (And.intro rfl (Exists.intro (bankC b) (And.intro (get_map hbi) (And.intro rfl rfl))))) ?_
          | refine And.intro (And.intro rfl rfl) ?_)
        · cases h1
        · refine Exists.intro [] (Exists.intro (bs.length - (i + 1)) (And.intro (by omega) ?_))
          exact ⟨i + 1, by omega, rfl, by rw [wrap_succ hlt (by omega)], rfl⟩
      · exact hp
  · exact hp.elim

end Go.Proofs.YtbfjkjdbdejnmaaGreat.Ab

/- Slices of whole numbers: marked and found again. No condition. -/
namespace Go.Proofs.YtbfjkjdbdejnmaaGreat.Ab
set_option linter.unusedVariables false
set_option linter.unusedSimpArgs false


end Go.Proofs.YtbfjkjdbdejnmaaGreat.Ab

/- Slices of whole numbers: found again. No condition. -/
namespace Go.Proofs.YtbfjkjdbdejnmaaGreat.Ab
set_option linter.unusedVariables false
set_option linter.unusedSimpArgs false

end Go.Proofs.YtbfjkjdbdejnmaaGreat.Ab

/- Targets, lists of targets, places: laid, compared. No condition. -/
namespace Go.Proofs.YtbfjkjdbdejnmaaGreat.Ab
set_option linter.unusedVariables false
set_option linter.unusedSimpArgs false

structure Tg where
  mod : Int
  bank : Int
  pos : Int
def tgC (t : Tg) : List AV := [.v (.int .i64 t.mod), .v (.int .i64 t.bank), .v (.int .i64 t.pos)]
theorem closed_Target (bs : List Tg) : ClosedL (bs.map tgC) := by
  intro e he x hx
  obtain ⟨b, _, rfl⟩ := List.mem_map.1 he
  simp [tgC] at hx
  rcases hx with rfl | rfl | rfl <;> rfl
def tgsC (b : List Tg) : List AV := [.sl 3 (b.map tgC)]
def smTgs (b : List Tg) : Prop := b.length ≤ 1048576
/-! ### TargetS: slices whose elements own slices: laid, compared (printed by gen/lists.py) -/

theorem closed_TargetS (bs : List (List Tg)) : ClosedL (bs.map tgsC) := by
  intro e he x hx
  obtain ⟨b, _, rfl⟩ := List.mem_map.1 he
  simp [tgsC] at hx
  rcases hx with rfl <;> rfl
structure Pl where
  text : Int
  banks : List Int
  data : Int
  size : Int
def plC (p : Pl) : List AV := [.v (.int .i64 p.text), .sl 1 (p.banks.map intC), .v (.int .i64 p.data), .v (.int .i64 p.size)]
def smPl (p : Pl) : Prop := p.banks.length ≤ 1048576
/-! ### Place: slices whose elements own slices: laid, compared (printed by gen/lists.py) -/

theorem closed_Place (bs : List Pl) : ClosedL (bs.map plC) := by
  intro e he x hx
  obtain ⟨b, _, rfl⟩ := List.mem_map.1 he
  simp [plC] at hx
  rcases hx with rfl | rfl | rfl | rfl <;> rfl
end Go.Proofs.YtbfjkjdbdejnmaaGreat.Ab
