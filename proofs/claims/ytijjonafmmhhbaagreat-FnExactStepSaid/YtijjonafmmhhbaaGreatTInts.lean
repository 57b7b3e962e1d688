/- Slices of whole numbers: laid, compared, measured. No condition. -/
import Derived.Test.YtijjonafmmhhbaaGreatTIns
import Derived.Test.YtijjonafmmhhbaaGreatTRegs2
namespace Go.Proofs.YtijjonafmmhhbaaGreat.Ab
set_option linter.unusedVariables false
set_option linter.unusedSimpArgs false

theorem lendL {α : Type} (C : α → List AV) (l : List α) : List.take l.length (List.map C l) = l.map C := by rw [← List.length_map (f := C), List.take_length]
theorem lendD {α : Type} (C : α → List AV) (l : List α) : List.take l.length (List.drop 0 (List.map C l)) = l.map C := by rw [List.drop_zero]; exact lendL C l
theorem sum_take {α : Type} {f : α → Nat} {l : List α} {i : Nat} {a : α} (h : l[i]? = some a) : ((l.take (i + 1)).map f).sum = ((l.take i).map f).sum + f a := by
  rw [List.take_add_one, h]
  simp
theorem sum_take_le {α : Type} (f : α → Nat) (l : List α) (i : Nat) : ((l.take i).map f).sum ≤ (l.map f).sum := by
  have h : (l.map f).sum = ((l.take i ++ l.drop i).map f).sum := by rw [List.take_append_drop]
  rw [h, List.map_append, List.sum_append]
  exact Nat.le_add_right _ _
theorem szB_neg {n : Int} {a : Nat} (h : n < a) : szB n a = -1 := if_pos (by omega)
theorem szB_pos {n : Int} {a : Nat} (h : a ≤ n) : szB n a = n - a := if_neg (by omega)
theorem szB_lt {n : Int} {a : Nat} (h0 : 0 ≤ n) (h : szB n a < 0) : n < a := by
  rcases Int.lt_or_le n a with q | q
  · exact q
  · rw [szB_pos q] at h; omega
theorem szB_ge {n : Int} {a : Nat} (h0 : 0 ≤ n) (h : ¬ szB n a < 0) : a ≤ n := by
  rcases Int.lt_or_le n a with q | q
  · rw [szB_neg q] at h; omega
  · exact q

def cx_s_szIntS : Ctx := mkC []
theorem cx_s_szIntS_ok : CtxOk Tryz.prog cx_s_szIntS := cx0_ok
set_option maxRecDepth 100000 in
set_option pp.maxSteps 1500 in
theorem s_szIntS : HSound Tryz.prog 51 (callM [] true hSzB) := by
  refine callM_sound cx_s_szIntS_ok mixed Tryz.func51 rfl fun args hl K hp => ?_
  unfold hSzB at hp
  split at hp
  · rename_i l n
    obtain ⟨h0, h1, h2, hp⟩ := hp
    have hw : IntKind.i64.wrap (n - l.length) = n - l.length := wrap64 (by omega)
    repeat' ((first | refine And.intro (fun h1 => ?_) (fun h1 => ?_) | refine And.intro (by decide) ?_ | refine And.intro (show wfB _ = true from by kernel_rfl) ?_ | refine And.intro (And.intro rfl rfl) ?_ | exact And.intro rfl rfl | apply HeldC.intro | exact AV.top | (apply HeldF.intro; refine Exists.intro _ (And.intro (by assumption) ?_); refine And.intro (by decide) ?_; exact And.intro rfl rfl) | (refine And.intro (by (refine Exists.intro _ (And.intro (by assumption) ?_); refine And.intro (by decide) ?_; exact And.intro rfl rfl)) ?_) | refine Or.inl ?_) <;> try cases h1)
    all_goals refine fin_i hp ?_
    all_goals clear hp
    all_goals rw [hw] at *
    all_goals simp only [szB, decide_eq_true_eq, decide_eq_false_iff_not] at *
    all_goals split <;> omega
  · exact hp.elim
/-! ### Int: slices of scalars: laid, compared (printed by gen/scal.py) -/

theorem closed_Int (bs : List Int) : ClosedL (bs.map intC) := by
  intro e he x hx
  obtain ⟨b, _, rfl⟩ := List.mem_map.1 he
  simp [intC] at hx
  subst hx
  rfl
def hToInt : CH := fun args hl K => match args, hl with
  | [.imm _ _ 1 l], [] => ∃ bs : List Int, l = bs.map intC ∧ bs.length ≤ 1048576 ∧ K (.slc 0 0 bs.length false) [.lst 1 (bs.map intC)]
  | _, _ => False
def cx_s_toIntS : Ctx := mkC []
theorem cx_s_toIntS_ok : CtxOk Tryz.prog cx_s_toIntS := cx0_ok
set_option maxRecDepth 100000 in
set_option pp.maxSteps 1500 in
theorem s_toIntS : HSound Tryz.prog 53 (callM [] true hToInt) := by
  refine callM_sound cx_s_toIntS_ok mixed Tryz.func53 rfl fun args hl K hp => ?_
  unfold hToInt at hp
  split at hp
  · rename_i t z l
    obtain ⟨bs, rfl, hb, hp⟩ := hp
    refine Or.inl ?_
    refine Exists.intro bs.length (And.intro (by simp) (And.intro (by simp) (And.intro (by simp only; omega) ?_)))
    refine Exists.intro false (Exists.intro [0, 3, 4] (Exists.intro (fun m vs h => ∃ i : Nat, i ≤ bs.length ∧ m = bs.length - i ∧ vs = [.imm t z 1 (bs.map intC), .slc 0 0 bs.length true, .v (.int .i64 i)] ∧ h = [.lst 1 ((bs.take i).map intC ++ List.replicate (bs.length - i) (intC 0))]) (And.intro ?_ ?_)))
    · refine Exists.intro bs.length ?_
      exact ⟨0, by omega, rfl, rfl, rfl⟩
    · intro m vs h hI
      obtain ⟨i, hi, rfl, rfl, rfl⟩ := hI
      refine And.intro (fun h1 => ?_) (fun h1 => ?_)
      · simp only [decide_eq_true_eq, List.length_map] at h1
        have hlt : i < bs.length := by omega
        obtain ⟨b, hbi⟩ : ∃ b, bs[i]? = some b := ⟨_, List.getElem?_eq_getElem hlt⟩
        refine Exists.intro i (And.intro rfl (Exists.intro (intC b) (And.intro (by simp [hbi]) ?_)))
        refine Exists.intro i (And.intro rfl (And.intro hlt ?_))
        refine Exists.intro (intC 0) (And.intro (by rw [Nat.zero_add, List.getElem?_append_right (by simp; omega), List.getElem?_replicate, if_pos (by simp; omega)]) (And.intro (by decide) ?_))
        refine Exists.intro (bs.length - (i + 1)) (And.intro (by omega) ?_)
        refine ⟨i + 1, by omega, rfl, ?_, ?_⟩
        · rw [← wrap_succ hlt (by omega)]
        · rw [← fill_step intC (intC 0) bs i b hbi, Nat.zero_add]
          rfl
      · simp only [decide_eq_false_iff_not, List.length_map] at h1
        have : i = bs.length := by omega
        subst this
        have e : (bs.take bs.length).map intC ++ List.replicate (bs.length - bs.length) (intC 0) = bs.map intC := by simp
        rw [← e] at hp
        refine And.intro (e ▸ closed_Int bs) ?_
        exact hp
  · exact hp.elim

def hEqInt : CH := fun args hl K => match args, hl with
  | [.imm _ _ 1 l, .imm _ _ 1 r], [] => ∃ bs : List Int, l = bs.map intC ∧ r = bs.map intC ∧ bs.length ≤ 1048576 ∧ K (.v (.bool true)) []
  | _, _ => False
def cx_s_eqIntS : Ctx := mkC []
theorem cx_s_eqIntS_ok : CtxOk Tryz.prog cx_s_eqIntS := cx0_ok
set_option maxRecDepth 100000 in
set_option pp.maxSteps 1500 in
theorem s_eqIntS : HSound Tryz.prog 56 (callM [] true hEqInt) := by
  refine callM_sound cx_s_eqIntS_ok mixed Tryz.func56 rfl fun args hl K hp => ?_
  unfold hEqInt at hp
  split at hp
  · rename_i t z l t' z' r
    obtain ⟨bs, rfl, rfl, hb, hp⟩ := hp
    refine And.intro (fun h1 => ?_) (fun h1 => ?_)
    · simp at h1
    clear h1
    refine Exists.intro false (Exists.intro [0, 1, 5] (Exists.intro (fun m vs h => ∃ i : Nat, i ≤ bs.length ∧ m = bs.length - i ∧ vs = [.imm t z 1 (bs.map intC), .imm t' z' 1 (bs.map intC), .v (.int .i64 i)] ∧ h = []) (And.intro ?_ ?_)))
    · refine Exists.intro bs.length ?_
      exact ⟨0, by omega, rfl, rfl, rfl⟩
    · intro m vs h hI
      obtain ⟨i, hi, rfl, rfl, rfl⟩ := hI
      refine And.intro (fun h1 => ?_) (fun h1 => ?_)
      · simp only [decide_eq_true_eq, List.length_map] at h1
        have hlt : i < bs.length := by omega
        obtain ⟨b, hbi⟩ : ∃ b, bs[i]? = some b := ⟨_, List.getElem?_eq_getElem hlt⟩
        refine And.intro (by kernel_rfl) ?_
        refine Exists.intro i (And.intro rfl (Exists.intro (intC b) (And.intro (by simp [hbi]) ?_)))
        refine Exists.intro i (And.intro rfl (Exists.intro (intC b) (And.intro (by simp [hbi]) ?_)))
        refine And.intro (fun h1 => ?_) (fun h1 => ?_)
        · exfalso; simp at h1
        · refine Exists.intro (bs.length - (i + 1)) (And.intro (by omega) ?_)
          refine ⟨i + 1, by omega, rfl, ?_, rfl⟩
          have hw2 : IntKind.wrap .i64 ((i : Int) + 1) = ((i + 1 : Nat) : Int) := by
            rw [wrap64] <;> omega
          rw [← hw2]
      · exact hp
  · exact hp.elim

end Go.Proofs.YtijjonafmmhhbaaGreat.Ab
