/- Functions walked, part 4. No condition. -/
import Derived.Test.YtbfjkjdbdejnmaaGreatWalk1
import Derived.Lib.Bytealg
import Derived.Lib.IndexLaws
import Derived.Lib.Strings
import Derived.WalkKit
import Derived.Lib.Walk
import Derived.Test.YtbfjkjdbdejnmaaGreatWalk3
set_option linter.unusedVariables false
set_option linter.unusedSimpArgs false
/- Names: a name, a name and a dot and a name; where the dot is. No condition. -/
namespace Go.Proofs.YtbfjkjdbdejnmaaGreat.Ab
set_option linter.unusedVariables false
set_option linter.unusedSimpArgs false

/-! ### The library's search for a byte -/

set_option maxRecDepth 100000 in
theorem calls_IndexByte (s : ByteArray) (c : Int) (w : World) : Calls Tryz.prog 247 #[.string s, .int .u8 c] w fun e w' => e = .returned (.int .i64 (Lib.indexByte s.data.toList c.toNat.toUInt8)) ∧ w' = w := by
  go_enter Tryz.func247, Tryz.ntmps247
  go_wp2
  rw [run_callFunc_extern Tryz.func251 (by kernel_rfl) (by kernel_rfl) (by kernel_rfl) (e := Extern.BytealgIndexByte.indexByte) (by kernel_rfl), Lib.run_indexByteString]
  simp only [Result.andThen]
  rw [Oper.upon_value]
  go_wp2
  go_ret
  exact ⟨rfl, rfl⟩
def hIdxB : Handler := fun args h K => match args with
  | [.v (.string s), .v (.int .u8 c)] => K (.v (.int .i64 (Lib.indexByte s.data.toList c.toNat.toUInt8))) h
  | _ => False
theorem s_IndexByte : HSound Tryz.prog 247 (hIdxB) := by
  intro E G S F h w args vs K hg hl hv hp
  unfold hIdxB at hp
  split at hp
  · rename_i s c
    obtain ⟨x, y, rfl⟩ : ∃ x y, vs = [x, y] := by
      match vs, hl with
      | [x, y], _ => exact ⟨x, y, rfl⟩
    have h1 := hv 0 _ rfl
    have h2 := hv 1 _ rfl
    simp only [List.getD_cons_zero, List.getD_cons_succ] at h1 h2
    have e1 : x = .string s := (VR.v_inv h1).1
    have e2 : y = .int .u8 c := (VR.v_inv h2).1
    subst e1 e2
    refine (calls_IndexByte s c w).mono ?_
    rintro e w' ⟨rfl, rfl⟩
    exact ⟨_, h, G, S, F, hp, hg, Ext.refl _ _ _ _, .inl ⟨_, rfl, vr_int _ _ _ _ _ _⟩⟩
  · exact hp.elim

/-! ### Where the dot is -/

def dotI (s : ByteArray) : Int := Lib.indexByte s.data.toList 46
theorem dotI_some {s : ByteArray} {i : Nat} (h : s.data.toList[i]? = some 46) (hn : ∀ k < i, s.data.toList[k]? ≠ some 46) : dotI s = i := by
  have hg := Lib.indexByte_ge s.data.toList 46
  unfold dotI
  rcases Int.lt_or_le (Lib.indexByte s.data.toList 46) 0 with q | q
  · exact absurd h (Lib.indexByte_none (by omega) i)
  · obtain ⟨o, ho⟩ := Int.eq_ofNat_of_zero_le q
    obtain ⟨h1, h2⟩ := Lib.indexByte_some ho
    rw [ho]
    rcases Nat.lt_trichotomy o i with r | r | r
    · exact absurd h1 (hn o r)
    · rw [r]
    · exact absurd h (h2 i r)
theorem dotI_none {s : ByteArray} (hn : ∀ k : Nat, s.data.toList[k]? ≠ some 46) : dotI s = -1 := by
  have hg := Lib.indexByte_ge s.data.toList 46
  unfold dotI
  rcases Int.lt_or_le (Lib.indexByte s.data.toList 46) 0 with q | q
  · omega
  · obtain ⟨o, ho⟩ := Int.eq_ofNat_of_zero_le q
    exact absurd (Lib.indexByte_some ho).1 (hn o)
theorem dotI_lt {s : ByteArray} {p : Nat} (h : dotI s = p) : p < s.size ∧ s.data.toList[p]? = some 46 ∧ ∀ k < p, s.data.toList[k]? ≠ some 46 := by
  obtain ⟨h1, h2⟩ := Lib.indexByte_some h
  refine ⟨?_, h1, h2⟩
  have := (List.getElem?_eq_some_iff.1 h1).1
  simpa using this
theorem dotI_ge (s : ByteArray) : -1 ≤ dotI s := Lib.indexByte_ge _ _
def azB (b : UInt8) : Bool := decide (97 ≤ b.toNat ∧ b.toNat ≤ 122)
def nameOk (s : ByteArray) : Bool := s.data.toList.all azB && decide (1 ≤ s.size ∧ s.size ≤ 12)
def fullOk (s : ByteArray) : Bool := decide (0 ≤ dotI s) && nameOk (s.extract 0 (dotI s).toNat) && nameOk (s.extract ((dotI s).toNat + 1) s.size)
def headS (s : ByteArray) : ByteArray := s.extract 0 (dotI s).toNat
def tailS (s : ByteArray) : ByteArray := s.extract ((dotI s).toNat + 1) s.size
def strD : ByteArray := ⟨#[46]⟩

def hDot : CH := fun args hl K => match args, hl with
  | [.v (.string s)], [] => s.size ≤ 1048576 ∧ K (.v (.int .i64 (dotI s))) []
  | _, _ => False
def cx_s_l4Dot : Ctx := mkC []
theorem cx_s_l4Dot_ok : CtxOk Tryz.prog cx_s_l4Dot := cx0_ok
set_option maxRecDepth 100000 in
set_option pp.maxSteps 1500 in
theorem s_l4Dot : HSound Tryz.prog 226 (callM [] false hDot) := by
  refine callM_sound cx_s_l4Dot_ok mixed Tryz.func226 rfl fun args hl K hp => ?_
  unfold hDot at hp
  split at hp
  · rename_i s
    obtain ⟨hs, hp⟩ := hp
    refine Exists.intro false (Exists.intro [0, 3] (Exists.intro (fun m vs h => ∃ i : Nat, i ≤ s.size ∧ m = s.size - i ∧ (∀ k < i, s.data.toList[k]? ≠ some 46) ∧ vs = [.v (.string s), .v (.int .i64 i)] ∧ h = []) (And.intro ?_ ?_)))
    · refine Exists.intro s.size ?_
      exact ⟨0, by omega, rfl, fun k hk => by omega, rfl, rfl⟩
    · intro m vs h hI
      obtain ⟨i, hi, rfl, hall, rfl, rfl⟩ := hI
      refine And.intro (fun h1 => ?_) (fun h1 => ?_)
      · have h1 := of_decide_eq_true h1
        have hlt : i < s.size := by omega
        obtain ⟨b, hb⟩ : ∃ b, s.data[i]? = some b := ⟨_, Array.getElem?_eq_getElem hlt⟩
        have hbl : s.data.toList[i]? = some b := by simpa using hb
        refine Exists.intro i (And.intro rfl (Exists.intro b (And.intro hb ?_)))
        refine And.intro (fun h2 => ?_) (fun h2 => ?_)
        · have h2 : (b.toNat : Int) = 46 := by simpa using h2
          have hb46 : b = 46 := UInt8.toNat_inj.1 (by simpa using (by omega : b.toNat = 46))
          subst hb46
          exact fin_i hp (dotI_some hbl hall)
        · have h2 : ¬ (b.toNat : Int) = 46 := by simpa using h2
          refine Exists.intro (s.size - (i + 1)) (And.intro (by omega) ⟨i + 1, by omega, rfl, fun k hk => ?_, ?_, rfl⟩)
          · rcases Nat.lt_or_ge k i with q | q
            · exact hall k q
            · have : k = i := by omega
              subst this
              rw [hbl]
              intro e
              cases e
              exact h2 rfl
          · rw [wrap_succ hlt (by omega)]
      · have h1 := of_decide_eq_false h1
        refine fin_i hp (dotI_none fun k => ?_)
        rcases Nat.lt_or_ge k i with q | q
        · exact hall k q
        · rw [List.getElem?_eq_none (by simpa using (by omega : s.size ≤ k))]
          simp
  · exact hp.elim

def hName : CH := fun args hl K => match args, hl with
  | [.v (.string s)], [] => s.size ≤ 1048576 ∧ K (.v (.bool (nameOk s))) []
  | _, _ => False
theorem nameOk_bad {s : ByteArray} {i : Nat} {b : UInt8} (h : s.data.toList[i]? = some b) (hb : (b.toNat : Int) < 97 ∨ 122 < (b.toNat : Int)) : nameOk s = false := by
  have : s.data.toList.all azB = false := by
    rw [List.all_eq_false]
    exact ⟨b, List.mem_of_getElem? h, by simp [azB]; omega⟩
  simp [nameOk, this]
theorem low_step {s : ByteArray} {i : Nat} {b : UInt8} (h : s.data.toList[i]? = some b) (hall : ∀ b ∈ s.data.toList.take i, azB b = true) (h1 : ¬ (b.toNat : Int) < 97) (h2 : ¬ 122 < (b.toNat : Int)) : ∀ b ∈ s.data.toList.take (i + 1), azB b = true := by
  intro c hc
  rw [List.take_add_one, h] at hc
  simp at hc
  rcases hc with hc | rfl
  · exact hall c (by simpa using hc)
  · simp [azB]
    omega
def cx_s_l4NameOk : Ctx := mkC []
theorem cx_s_l4NameOk_ok : CtxOk Tryz.prog cx_s_l4NameOk := cx0_ok
set_option maxRecDepth 100000 in
set_option pp.maxSteps 1500 in
theorem s_l4NameOk : HSound Tryz.prog 221 (callM [] false hName) := by
  refine callM_sound cx_s_l4NameOk_ok mixed Tryz.func221 rfl fun args hl K hp => ?_
  unfold hName at hp
  split at hp
  · rename_i s
    obtain ⟨hs, hp⟩ := hp
    refine Exists.intro false (Exists.intro [0, 3] (Exists.intro (fun m vs h => ∃ i : Nat, i ≤ s.size ∧ m = s.size - i ∧ (∀ b ∈ s.data.toList.take i, azB b = true) ∧ vs = [.v (.string s), .v (.int .i64 i)] ∧ h = []) (And.intro ?_ ?_)))
    · refine Exists.intro s.size ?_
      exact ⟨0, by omega, rfl, fun b hb => by simp at hb, rfl, rfl⟩
    · intro m vs h hI
      obtain ⟨i, hi, rfl, hall, rfl, rfl⟩ := hI
      refine And.intro (fun h1 => ?_) (fun h1 => ?_)
      · have h1 := of_decide_eq_true h1
        have hlt : i < s.size := by omega
        obtain ⟨b, hb⟩ : ∃ b, s.data[i]? = some b := ⟨_, Array.getElem?_eq_getElem hlt⟩
        have hbl : s.data.toList[i]? = some b := by simpa using hb
        refine Exists.intro i (And.intro rfl (Exists.intro b (And.intro hb ?_)))
        refine And.intro (fun h2 => ?_) (fun h2 => ?_)
        · refine And.intro (fun h3 => ?_) (fun h3 => by cases h3)
          refine And.intro (fun h4 => ?_) (fun h4 => by cases h4)
          exact fin_b hp (nameOk_bad hbl (.inl (of_decide_eq_true h2)))
        · have h2 := of_decide_eq_false h2
          refine Exists.intro i (And.intro rfl (Exists.intro b (And.intro hb ?_)))
          refine And.intro (fun h3 => by cases h3) (fun h3 => ?_)
          refine And.intro (fun h4 => ?_) (fun h4 => ?_)
          · exact fin_b hp (nameOk_bad hbl (.inr (of_decide_eq_true h4)))
          · have h4 := of_decide_eq_false h4
            refine Exists.intro (s.size - (i + 1)) (And.intro (by omega) ⟨i + 1, by omega, rfl, low_step hbl hall h2 h4, ?_, rfl⟩)
            rw [wrap_succ hlt (by omega)]
      · have h1 := of_decide_eq_false h1
        rw [List.take_of_length_le (by simpa using (by omega : s.size ≤ i))] at hall
        have e : s.data.toList.all azB = true := List.all_eq_true.2 hall
        have e2 : nameOk s = decide (1 ≤ s.size ∧ s.size ≤ 12) := by simp only [nameOk, e, Bool.true_and]
        repeat' ((first | refine And.intro (fun h1 => ?_) (fun h1 => ?_) | refine And.intro (by decide) ?_ | refine And.intro (show wfB _ = true from by kernel_rfl) ?_ | refine And.intro (And.intro rfl rfl) ?_ | exact And.intro rfl rfl | apply HeldC.intro | exact AV.top | (apply HeldF.intro; refine Exists.intro _ (And.intro (by assumption) ?_); refine And.intro (by decide) ?_; exact And.intro rfl rfl) | (refine And.intro (by (refine Exists.intro _ (And.intro (by assumption) ?_); refine And.intro (by decide) ?_; exact And.intro rfl rfl)) ?_) | refine Or.inl ?_) <;> try cases h1)
        all_goals refine fin_b hp ?_
        all_goals clear hp
        all_goals rw [e2, Bool.eq_iff_iff]
        all_goals simp only [decide_eq_true_eq, decide_eq_false_iff_not, reduceCtorEq, iff_false, iff_true] at *
        all_goals omega
  · exact hp.elim
def cx_s_isName : Ctx := mkC []
theorem cx_s_isName_ok : CtxOk Tryz.prog cx_s_isName := cx0_ok
set_option maxRecDepth 100000 in
set_option pp.maxSteps 1500 in
theorem s_isName : HSound Tryz.prog 197 (callM [] false hName) := by
  refine callM_sound cx_s_isName_ok mixed Tryz.func197 rfl fun args hl K hp => ?_
  unfold hName at hp
  split at hp
  · rename_i s
    obtain ⟨hs, hp⟩ := hp
    have key : decide (1 ≤ s.size ∧ s.size ≤ 12) = false → nameOk s = false := fun h => by simp only [nameOk, h, Bool.and_false]
    repeat' ((first | refine And.intro (fun h1 => ?_) (fun h1 => ?_) | refine And.intro (by decide) ?_ | refine And.intro (show wfB _ = true from by kernel_rfl) ?_ | refine And.intro (And.intro rfl rfl) ?_ | exact And.intro rfl rfl | apply HeldC.intro | exact AV.top | (apply HeldF.intro; refine Exists.intro _ (And.intro (by assumption) ?_); refine And.intro (by decide) ?_; exact And.intro rfl rfl) | (refine And.intro (by (refine Exists.intro _ (And.intro (by assumption) ?_); refine And.intro (by decide) ?_; exact And.intro rfl rfl)) ?_) | refine Or.inl ?_) <;> try cases h1)
    · exact fin_b hp (key (by simp only [decide_eq_true_eq, decide_eq_false_iff_not] at *; omega))
    · exact fin_b hp (key (by simp only [decide_eq_true_eq, decide_eq_false_iff_not] at *; omega))
    rename_i q1
    have q1 := of_decide_eq_false q1
    have q2 := of_decide_eq_false h1
    clear h1
    refine Exists.intro false (Exists.intro [0, 13, 14] (Exists.intro (fun m vs h => ∃ i : Nat, i ≤ s.size ∧ m = s.size - i ∧ (∀ b ∈ s.data.toList.take i, azB b = true) ∧ vs = [.v (.string s), .v (.int .i64 s.size), .v (.int .i64 i)] ∧ h = []) (And.intro ?_ ?_)))
    · refine Exists.intro s.size ?_
      exact ⟨0, by omega, rfl, fun b hb => by simp at hb, rfl, rfl⟩
    · intro m vs h hI
      obtain ⟨i, hi, rfl, hall, rfl, rfl⟩ := hI
      refine And.intro (fun h1 => ?_) (fun h1 => ?_)
      · have h1 := of_decide_eq_true h1
        have hlt : i < s.size := by omega
        obtain ⟨b, hb⟩ : ∃ b, s.data[i]? = some b := ⟨_, Array.getElem?_eq_getElem hlt⟩
        have hbl : s.data.toList[i]? = some b := by simpa using hb
        refine Exists.intro i (And.intro rfl (Exists.intro b (And.intro hb ?_)))
        refine And.intro (fun h2 => ?_) (fun h2 => ?_)
        · refine And.intro (fun h3 => ?_) (fun h3 => by cases h3)
          refine And.intro (fun h4 => ?_) (fun h4 => by cases h4)
          exact fin_b hp (nameOk_bad hbl (.inl (of_decide_eq_true h2)))
        · have h2 := of_decide_eq_false h2
          refine Exists.intro i (And.intro rfl (Exists.intro b (And.intro hb ?_)))
          refine And.intro (fun h3 => by cases h3) (fun h3 => ?_)
          refine And.intro (fun h4 => ?_) (fun h4 => ?_)
          · exact fin_b hp (nameOk_bad hbl (.inr (of_decide_eq_true h4)))
          · have h4 := of_decide_eq_false h4
            refine Exists.intro (s.size - (i + 1)) (And.intro (by omega) ⟨i + 1, by omega, rfl, low_step hbl hall h2 h4, ?_, rfl⟩)
            rw [wrap_succ hlt (by omega)]
      · have h1 := of_decide_eq_false h1
        rw [List.take_of_length_le (by simpa using (by omega : s.size ≤ i))] at hall
        have e : s.data.toList.all azB = true := List.all_eq_true.2 hall
        refine fin_b hp ?_
        simp only [nameOk, e, Bool.true_and]
        rw [decide_eq_true (by omega)]
  · exact hp.elim

def hFull : CH := fun args hl K => match args, hl with
  | [.v (.string s)], [] => s.size ≤ 1048576 ∧ K (.v (.bool (fullOk s))) []
  | _, _ => False
def cx_s_l4FullOk : Ctx := mkC [(226, callM [] false hDot), (221, callM [] false hName)]
theorem cx_s_l4FullOk_ok : CtxOk Tryz.prog cx_s_l4FullOk := mkC_ok (mem1 ⟨s_l4Dot, fnOk Tryz.func226 rfl rfl⟩ (mem1 ⟨s_l4NameOk, fnOk Tryz.func221 rfl rfl⟩ mem0))
set_option maxRecDepth 100000 in
set_option pp.maxSteps 1500 in
theorem s_l4FullOk : HSound Tryz.prog 224 (callM [] false hFull) := by
  refine callM_sound cx_s_l4FullOk_ok mixed Tryz.func224 rfl fun args hl K hp => ?_
  unfold hFull at hp
  split at hp
  · rename_i s
    obtain ⟨hs, hp⟩ := hp
    refine And.intro hs ?_
    refine And.intro (fun h1 => ?_) (fun h1 => ?_)
    · have h1 := of_decide_eq_true h1
      obtain ⟨p, hpq⟩ := Int.eq_ofNat_of_zero_le h1
      obtain ⟨hp1, hp2, hp3⟩ := dotI_lt hpq
      have e0 : (dotI s).toNat = p := by omega
      have ef : fullOk s = (nameOk (s.extract 0 p) && nameOk (s.extract (p + 1) s.size)) := by
        simp only [fullOk, e0, decide_eq_true h1, Bool.true_and]
      refine Exists.intro p (And.intro hpq ?_)
      refine And.intro (by omega) (And.intro (by omega) ?_)
      refine And.intro (by rw [ByteArray.size_extract]; omega) ?_
      refine And.intro (fun h3 => ?_) (fun h3 => by cases h3)
      refine And.intro (fun h4 => ?_) (fun h4 => ?_)
      · refine Exists.intro (p + 1) (And.intro (by rw [hpq, wrap64 (by omega)]; omega) ?_)
        refine And.intro (by omega) (And.intro (by omega) ?_)
        refine And.intro (by rw [ByteArray.size_extract]; omega) ?_
        refine And.intro (fun h5 => ?_) (fun h5 => by cases h5)
        refine fin_b hp ?_
        rw [ef, h4]
        rfl
      · refine And.intro (fun h5 => by cases h5) (fun h5 => ?_)
        refine fin_b hp ?_
        rw [ef, h4]
        rfl
    · have h1 := of_decide_eq_false h1
      have ef : fullOk s = false := by
        simp only [fullOk, decide_eq_false h1, Bool.false_and]
      repeat' ((first | refine And.intro (fun h1 => ?_) (fun h1 => ?_) | refine And.intro (by decide) ?_ | refine And.intro (show wfB _ = true from by kernel_rfl) ?_ | refine And.intro (And.intro rfl rfl) ?_ | exact And.intro rfl rfl | apply HeldC.intro | exact AV.top | (apply HeldF.intro; refine Exists.intro _ (And.intro (by assumption) ?_); refine And.intro (by decide) ?_; exact And.intro rfl rfl) | (refine And.intro (by (refine Exists.intro _ (And.intro (by assumption) ?_); refine And.intro (by decide) ?_; exact And.intro rfl rfl)) ?_) | refine Or.inl ?_) <;> try cases h1)
      all_goals exact fin_b hp ef
  · exact hp.elim

/-! ### The library's cut at a dot -/

def hIdx : CH := fun args hl K => match args, hl with
  | [.v (.string s), .v (.string t)], [] => t = strD ∧ s.size ≤ 1048576 ∧ K (.v (.int .i64 (dotI s))) []
  | _, _ => False
def cx_s_Index : Ctx := mkC [(247, hIdxB)]
theorem cx_s_Index_ok : CtxOk Tryz.prog cx_s_Index := mkC_ok (mem1 ⟨s_IndexByte, fnOk Tryz.func247 rfl rfl⟩ mem0)
set_option maxRecDepth 100000 in
set_option pp.maxSteps 1500 in
theorem s_Index : HSound Tryz.prog 244 (callM [] false hIdx) := by
  refine callM_sound cx_s_Index_ok mixed Tryz.func244 rfl fun args hl K hp => ?_
  unfold hIdx at hp
  split at hp
  · rename_i s t
    obtain ⟨rfl, hs, hp⟩ := hp
    refine And.intro (fun h1 => by cases h1) (fun h1 => ?_)
    refine And.intro (fun h1 => by cases h1) (fun h1 => ?_)
    refine And.intro (fun h1 => ?_) (fun h1 => ?_)
    · refine fin_i hp ?_
      have e : s.toList = strD.toList := (beq_iff_eq.1 h1).symm
      rw [ByteArray.toList_eq, ByteArray.toList_eq] at e
      unfold dotI
      rw [show s.data.toList = [46] from e]
      rfl
    · refine And.intro (fun h2 => ?_) (fun h2 => by cases h2)
      refine Exists.intro 0 (And.intro rfl (Exists.intro 46 (And.intro rfl ?_)))
      exact hp
  · exact hp.elim
def hCut : CH := fun args hl K => match args, hl with
  | [.v (.string s), .v (.string t)], [] => t = strD ∧ s.size ≤ 1048576 ∧ (0 ≤ dotI s → K (.tup [.v (.string (headS s)), .v (.string (tailS s)), .v (.bool true)]) []) ∧ (dotI s < 0 → K (.tup [.v (.string s), .v (.string .empty), .v (.bool false)]) [])
  | _, _ => False
def cx_s_SCut : Ctx := mkC [(244, callM [] false hIdx)]
theorem cx_s_SCut_ok : CtxOk Tryz.prog cx_s_SCut := mkC_ok (mem1 ⟨s_Index, fnOk Tryz.func244 rfl rfl⟩ mem0)
set_option maxRecDepth 100000 in
set_option pp.maxSteps 1500 in
theorem s_SCut : HSound Tryz.prog 237 (callM [] false hCut) := by
  refine callM_sound cx_s_SCut_ok mixed Tryz.func237 rfl fun args hl K hp => ?_
  unfold hCut at hp
  split at hp
  · rename_i s t
    obtain ⟨rfl, hs, hp1, hp2⟩ := hp
    refine And.intro rfl (And.intro hs ?_)
    refine And.intro (fun h1 => ?_) (fun h1 => ?_)
    · have h1 := of_decide_eq_true h1
      obtain ⟨p, hpq⟩ := Int.eq_ofNat_of_zero_le h1
      obtain ⟨q1, q2, q3⟩ := dotI_lt hpq
      have e0 : (dotI s).toNat = p := by omega
      have hp := hp1 h1
      simp only [headS, tailS, e0] at hp
      clear hp1 hp2
      refine And.intro (show Region.lexB _ _ = true from by kernel_rfl) ?_
      refine Exists.intro p (And.intro hpq ?_)
      refine And.intro (by omega) (And.intro (by omega) ?_)
      have hw : IntKind.i64.wrap (dotI s + (strD.size : Int)) = ((p + 1 : Nat) : Int) := by rw [show (strD.size : Int) = 1 from rfl, wrap64 (by omega)]; omega
      refine Exists.intro (p + 1) (And.intro hw ?_)
      refine And.intro (by omega) (And.intro (by omega) ?_)
      exact hp
    · have h1 := of_decide_eq_false h1
      exact hp2 (by omega)
  · exact hp.elim
def cx_s_strCut : Ctx := mkC [(237, callM [] false hCut)]
theorem cx_s_strCut_ok : CtxOk Tryz.prog cx_s_strCut := mkC_ok (mem1 ⟨s_SCut, fnOk Tryz.func237 rfl rfl⟩ mem0)
set_option maxRecDepth 100000 in
set_option pp.maxSteps 1500 in
theorem s_strCut : HSound Tryz.prog 231 (callM [] false hCut) := by
  refine callM_sound cx_s_strCut_ok mixed Tryz.func231 rfl fun args hl K hp => ?_
  unfold hCut at hp
  split at hp
  · rename_i s t
    obtain ⟨rfl, hs, hp1, hp2⟩ := hp
    refine And.intro rfl (And.intro hs (And.intro (fun h => ?_) (fun h => ?_)))
    · exact hp1 h
    · exact hp2 h
  · exact hp.elim
def hHalves : CH := fun args hl K => match args, hl with
  | [.v (.string s)], [] => s.size ≤ 1048576 ∧ ∀ a b, (fullOk s = true → a = headS s ∧ b = tailS s) → K (.tup [.v (.string a), .v (.string b), .v (.bool (fullOk s))]) []
  | _, _ => False
def cx_s_halves : Ctx := mkC [(231, callM [] false hCut), (197, callM [] false hName)]
theorem cx_s_halves_ok : CtxOk Tryz.prog cx_s_halves := mkC_ok (mem1 ⟨s_strCut, fnOk Tryz.func231 rfl rfl⟩ (mem1 ⟨s_isName, fnOk Tryz.func197 rfl rfl⟩ mem0))
set_option maxRecDepth 100000 in
set_option pp.maxSteps 1500 in
theorem s_halves : HSound Tryz.prog 199 (callM [] false hHalves) := by
  refine callM_sound cx_s_halves_ok mixed Tryz.func199 rfl fun args hl K hp => ?_
  unfold hHalves at hp
  split at hp
  · rename_i s
    obtain ⟨hs, hp⟩ := hp
    refine And.intro rfl (And.intro hs (And.intro (fun h1 => ?_) (fun h1 => ?_)))
    · obtain ⟨p, hpq⟩ := Int.eq_ofNat_of_zero_le h1
      obtain ⟨q1, q2, q3⟩ := dotI_lt hpq
      have e0 : (dotI s).toNat = p := by omega
      have ef : fullOk s = (nameOk (headS s) && nameOk (tailS s)) := by
        simp only [fullOk, headS, tailS, decide_eq_true h1, Bool.true_and]
      have hp := hp (headS s) (tailS s) (fun _ => ⟨rfl, rfl⟩)
      rw [ef] at hp
      have s1 : (headS s).size ≤ 1048576 := by simp only [headS, ByteArray.size_extract]; omega
      have s2 : (tailS s).size ≤ 1048576 := by simp only [tailS, ByteArray.size_extract]; omega
      generalize headS s = a at *
      generalize tailS s = b at *
      clear ef
      refine And.intro (fun h3 => ?_) (fun h3 => by cases h3)
      refine And.intro s1 ?_
      refine And.intro (fun h4 => ?_) (fun h4 => by cases h4)
      refine And.intro (fun h5 => ?_) (fun h5 => ?_)
      · refine And.intro s2 ?_
        refine And.intro (fun h6 => ?_) (fun h6 => by cases h6)
        rw [h5] at hp
        exact hp
      · refine And.intro (fun h6 => by cases h6) (fun h6 => ?_)
        rw [h5] at hp
        exact hp
    · have ef : fullOk s = false := by
        simp only [fullOk, decide_eq_false (by omega : ¬ 0 ≤ dotI s), Bool.false_and]
      have hp := hp s .empty (fun h => by rw [ef] at h; cases h)
      rw [ef] at hp
      repeat' ((first | refine And.intro (fun h1 => ?_) (fun h1 => ?_) | refine And.intro (by decide) ?_ | refine And.intro (show wfB _ = true from by kernel_rfl) ?_ | refine And.intro (And.intro rfl rfl) ?_ | exact And.intro rfl rfl | apply HeldC.intro | exact AV.top | (apply HeldF.intro; refine Exists.intro _ (And.intro (by assumption) ?_); refine And.intro (by decide) ?_; exact And.intro rfl rfl) | (refine And.intro (by (refine Exists.intro _ (And.intro (by assumption) ?_); refine And.intro (by decide) ?_; exact And.intro rfl rfl)) ?_) | refine Or.inl ?_) <;> try cases h1)
      all_goals exact hp
  · exact hp.elim
end Go.Proofs.YtbfjkjdbdejnmaaGreat.Ab

/- Resolve: the plain law: a table of names finds what a search finds. No condition. -/
namespace Go.Proofs.YtbfjkjdbdejnmaaGreat.Ab
set_option linter.unusedVariables false
set_option linter.unusedSimpArgs false

theorem ba_ext {a b : ByteArray} (h : a.data.toList = b.data.toList) : a = b := by
  cases a; cases b
  simp only at h
  congr
  exact Array.toList_inj.1 h
theorem ba_beq2 (a b : ByteArray) : (a.toList == b.toList) = decide (a = b) := by
  rw [ByteArray.toList_eq, ByteArray.toList_eq]
  rw [Bool.eq_iff_iff]
  simp only [beq_iff_eq, decide_eq_true_eq]
  exact ⟨ba_ext, fun h => by rw [h]⟩

/-- What is found: the module's place, and the export. -/
def findEx (b : ByteArray) (l : List Ex) : Option Ex := l.find? fun e => decide (e.n = b)
def firstM (ms : List Mo) (a : ByteArray) : Option Nat := ms.findIdx? fun m => decide (m.name = a)
def resG (ms : List Mo) (a b : ByteArray) : Option (Nat × Ex) := (firstM ms a).bind fun k => (ms[k]?).bind fun m => (findEx b m.exps).map fun e => (k, e)
def resolveF (ms : List Mo) (s : ByteArray) : Option (Nat × Ex) := match decide (ms.length ≤ 4) && fullOk s && ms.all fun m => decide (m.exps.length ≤ 16) with
  | true => resG ms (headS s) (tailS s)
  | false => none
def tgtV (p : Nat × Ex) : Value := .agg #[.int .i64 p.1, .int .i64 p.2.bank, .int .i64 p.2.pos]
def resV : Option (Nat × Ex) → AV
  | none => .tup [.agg [.v (.int .i64 0), .v (.int .i64 0), .v (.int .i64 0)], .v (.bool false)]
  | some p => .tup [.agg [.v (.int .i64 p.1), .v (.int .i64 p.2.bank), .v (.int .i64 p.2.pos)], .v (.bool true)]

/-! ### The search -/

theorem resG_none {ms : List Mo} {a b : ByteArray} (h : ∀ m ∈ ms, m.name ≠ a) : resG ms a b = none := by
  have : firstM ms a = none := by
    unfold firstM
    rw [List.findIdx?_eq_none_iff]
    intro m hm
    simpa using h m hm
  simp [resG, this]
theorem resG_at {ms : List Mo} {a b : ByteArray} {i : Nat} {m : Mo} (hm : ms[i]? = some m) (ha : m.name = a) (h : ∀ k < i, ∀ q, ms[k]? = some q → q.name ≠ a) : resG ms a b = (findEx b m.exps).map fun e => (i, e) := by
  obtain ⟨hi, he⟩ := List.getElem?_eq_some_iff.1 hm
  have : firstM ms a = some i := by
    unfold firstM
    rw [List.findIdx?_eq_some_iff_getElem]
    refine ⟨hi, by simpa [he] using ha, fun j hj => ?_⟩
    simpa using h j hj _ (List.getElem?_eq_getElem (by omega))
  simp [resG, this, hm]
theorem findEx_at {b : ByteArray} {l : List Ex} {i : Nat} {e : Ex} (he : l[i]? = some e) (hn : e.n = b) (h : ∀ k < i, ∀ q, l[k]? = some q → q.n ≠ b) : findEx b l = some e := by
  obtain ⟨hi, hh⟩ := List.getElem?_eq_some_iff.1 he
  unfold findEx
  rw [List.find?_eq_some_iff_getElem]
  refine ⟨by simpa using hn, i, hi, hh, fun j hj => ?_⟩
  simpa using h j hj _ (List.getElem?_eq_getElem (by omega))
theorem findEx_none {b : ByteArray} {l : List Ex} (h : ∀ e ∈ l, e.n ≠ b) : findEx b l = none := by
  unfold findEx
  rw [List.find?_eq_none]
  intro e he
  simpa using h e he

/-! ### The table -/

def keyOf (nm : ByteArray) (e : Ex) : ByteArray := nm ++ strD ++ e.n
def seenB (ms : List Mo) (i : Nat) (q : ByteArray) : Bool := (ms.take i).any fun m => decide (m.name = q)
def findKey (q : ByteArray) (nm : ByteArray) (l : List Ex) : Option Ex := l.find? fun e => decide (keyOf nm e = q)
def namesP (ms : List Mo) : Nat → ByteArray → Option (Nat × Ex)
  | 0, _ => none
  | i + 1, q => match ms[i]? with
    | some m => (namesP ms i q).or (match seenB ms i m.name with | true => none | false => (findKey q m.name m.exps).map fun e => (i, e))
    | none => namesP ms i q
theorem mapFind_set {k q : MK} {x : Value} : ∀ {l : List (MK × Value)}, mapFind q (mapSet k x l) = if k = q then some x else mapFind q l
  | [] => by simp only [mapSet, mapFind]
  | (a, v) :: l => by
    unfold mapSet
    by_cases h : a = k
    · subst h
      simp only [if_true, mapFind]
      split <;> rfl
    · rw [if_neg h]
      simp only [mapFind]
      rw [mapFind_set]
      by_cases h2 : a = q
      · subst h2
        rw [if_pos rfl, if_neg (fun e => h e.symm), if_pos rfl]
      · rw [if_neg h2, if_neg h2]

theorem low_ne46 {b : UInt8} (h : azB b = true) : b ≠ 46 := by
  rintro rfl
  revert h
  decide
theorem name_no46 {s : ByteArray} (h : nameOk s = true) (k : Nat) : s.data.toList[k]? ≠ some 46 := by
  intro hk
  simp only [nameOk, Bool.and_eq_true] at h
  exact low_ne46 (List.all_eq_true.1 h.1 _ (List.mem_of_getElem? hk)) rfl
theorem data_app (a b : ByteArray) : (a ++ b).data.toList = a.data.toList ++ b.data.toList := by
  rw [ByteArray.data_append, Array.toList_append]
theorem data_ext (s : ByteArray) (a b : Nat) : (s.extract a b).data.toList = (s.data.toList.take b).drop a := by
  rw [ByteArray.data_extract, Array.toList_extract, List.extract_eq_drop_take']
theorem full_split {s : ByteArray} (h : fullOk s = true) : nameOk (headS s) = true ∧ nameOk (tailS s) = true ∧ ∃ p : Nat, dotI s = p ∧ p < s.size ∧ s.data.toList[p]? = some 46 ∧ ∀ k < p, s.data.toList[k]? ≠ some 46 := by
  simp only [fullOk, Bool.and_eq_true, decide_eq_true_eq] at h
  obtain ⟨⟨h1, h2⟩, h3⟩ := h
  obtain ⟨p, hp⟩ := Int.eq_ofNat_of_zero_le h1
  exact ⟨h2, h3, p, hp, dotI_lt hp⟩
/-- A name, a dot and a name is so in one way alone. -/
theorem key_eq {s : ByteArray} (h : fullOk s = true) (nm : ByteArray) (e : Ex) : keyOf nm e = s ↔ (nm = headS s ∧ e.n = tailS s) := by
  obtain ⟨n1, n2, p, hp, hlt, h46, hno⟩ := full_split h
  have e0 : (dotI s).toNat = p := by omega
  have hs : s.size = s.data.toList.length := by simp
  have hd : s.data.toList = (headS s).data.toList ++ ([46] ++ (tailS s).data.toList) := by
    simp only [headS, tailS, e0, data_ext, List.drop_zero]
    rw [hs, List.take_length]
    have h1 := (List.getElem?_eq_some_iff.1 h46)
    obtain ⟨g1, g2⟩ := h1
    conv => lhs; rw [← List.take_append_drop p s.data.toList, List.drop_eq_getElem_cons g1, g2]
    rfl
  have hl : (headS s).data.toList.length = p := by
    simp only [headS, e0, data_ext, List.drop_zero, List.length_take]
    omega
  have key : (keyOf nm e).data.toList = nm.data.toList ++ ([46] ++ e.n.data.toList) := by
    simp only [keyOf, data_app, List.append_assoc]
    rfl
  constructor
  · intro q
    have q1 : nm.data.toList ++ ([46] ++ e.n.data.toList) = (headS s).data.toList ++ ([46] ++ (tailS s).data.toList) := by rw [← key, ← hd, q]
    have hlen : nm.data.toList.length = p := by
      rcases Nat.lt_trichotomy nm.data.toList.length p with r | r | r
      · exfalso
        have g : s.data.toList[nm.data.toList.length]? = some 46 := by
          rw [hd, ← q1, List.getElem?_append_right (Nat.le_refl _), Nat.sub_self]
          rfl
        exact hno _ r g
      · exact r
      · exfalso
        have g : (keyOf nm e).data.toList[nm.data.toList.length]? = some 46 := by
          rw [key, List.getElem?_append_right (Nat.le_refl _), Nat.sub_self]
          rfl
        rw [q, hd, List.getElem?_append_right (by omega), hl] at g
        obtain ⟨j, hj⟩ : ∃ j, nm.data.toList.length - p = j + 1 := ⟨nm.data.toList.length - p - 1, by omega⟩
        rw [hj] at g
        exact name_no46 n2 j (by simpa using g)
    obtain ⟨r1, r2⟩ := List.append_inj q1 (by rw [hlen, hl])
    exact ⟨ba_ext r1, ba_ext (by simpa using r2)⟩
  · rintro ⟨rfl, r2⟩
    refine ba_ext ?_
    rw [key, r2, ← hd]
theorem names_res {ms : List Mo} {s : ByteArray} (h : fullOk s = true) : ∀ i, i ≤ ms.length → namesP ms i s = resG (ms.take i) (headS s) (tailS s)
  | 0, _ => by
    rw [List.take_zero, resG_none (by simp)]
    rfl
  | i + 1, hi => by
    have ih := names_res (ms := ms) h i (by omega)
    have hm : ms[i]? = some ms[i] := List.getElem?_eq_getElem (by omega)
    generalize ms[i] = m at hm
    have htk : ms.take (i + 1) = ms.take i ++ [m] := by rw [List.take_add_one, hm]; rfl
    have hgi : (ms.take (i + 1))[i]? = some m := by rw [List.getElem?_take]; simp [hm]
    have hpre : ∀ k < i, ∀ q : Mo, (ms.take (i + 1))[k]? = some q → q ∈ ms.take i := by
      intro k hk q hq
      rw [htk, List.getElem?_append_left (by simp; omega)] at hq
      exact List.mem_of_getElem? hq
    simp only [namesP, hm]
    by_cases ha : m.name = headS s
    · have hfk : findKey s m.name m.exps = findEx (tailS s) m.exps := by
        unfold findKey findEx
        congr
        funext e
        rw [decide_eq_decide, key_eq h]
        simp [ha]
      cases hsn : seenB ms i m.name with
      | false =>
        have hn : ∀ q ∈ ms.take i, q.name ≠ headS s := by
          intro q hq e
          have : seenB ms i m.name = true := List.any_eq_true.2 ⟨q, hq, by simp [e, ha]⟩
          rw [hsn] at this
          cases this
        rw [ih, resG_none hn, resG_at hgi ha (fun k hk q hq => hn q (hpre k hk q hq)), hfk]
        rfl
      | true =>
        rw [ih]
        simp only [Option.or_none]
        obtain ⟨q, hq, hqn⟩ := List.any_eq_true.1 hsn
        simp only [decide_eq_true_eq] at hqn
        have hf : ∃ k, firstM (ms.take i) (headS s) = some k := by
          cases hh : firstM (ms.take i) (headS s) with
          | some k => exact ⟨k, rfl⟩
          | none =>
            unfold firstM at hh
            rw [List.findIdx?_eq_none_iff] at hh
            have := hh q hq
            simp [hqn, ha] at this
        obtain ⟨k, hk⟩ := hf
        have hk2 : firstM (ms.take (i + 1)) (headS s) = some k := by
          unfold firstM at hk ⊢
          rw [htk, List.findIdx?_append, hk]
          rfl
        have hkl : k < i := by
          unfold firstM at hk
          rw [List.findIdx?_eq_some_iff_getElem] at hk
          obtain ⟨h1, _⟩ := hk
          simp at h1
          omega
        unfold resG
        rw [hk, hk2]
        simp only [Option.bind_some]
        rw [htk, List.getElem?_append_left (by simp; omega)]
    · have hfk : findKey s m.name m.exps = none := by
        unfold findKey
        rw [List.find?_eq_none]
        intro e _
        simp only [decide_eq_true_eq, key_eq h]
        simp [ha]
      have : (match seenB ms i m.name with | true => none | false => (findKey s m.name m.exps).map fun e => (i, e)) = (none : Option (Nat × Ex)) := by
        rw [hfk]
        split <;> rfl
      rw [this, Option.or_none, ih]
      have hfm : firstM (ms.take (i + 1)) (headS s) = firstM (ms.take i) (headS s) := by
        unfold firstM
        rw [htk, List.findIdx?_append]
        simp [ha]
      unfold resG
      rw [hfm]
      cases hh : firstM (ms.take i) (headS s) with
      | none => rfl
      | some k =>
        have hkl : k < i := by
          unfold firstM at hh
          rw [List.findIdx?_eq_some_iff_getElem] at hh
          obtain ⟨h1, _⟩ := hh
          simp at h1
          omega
        simp only [Option.bind_some]
        rw [htk, List.getElem?_append_left (by simp; omega)]
/-- One export more. -/
theorem key_step {q nm : ByteArray} {l : List Ex} {j : Nat} {e : Ex} (h : l[j]? = some e) : findKey q nm (l.take (j + 1)) = (findKey q nm (l.take j)).or (match decide (keyOf nm e = q) with | true => some e | false => none) := by
  unfold findKey
  rw [List.take_add_one, h, List.find?_append]
  simp only [Option.toList, List.find?]
  rfl
end Go.Proofs.YtbfjkjdbdejnmaaGreat.Ab

/- Resolve: both programs' walks. No condition. -/
namespace Go.Proofs.YtbfjkjdbdejnmaaGreat.Ab
set_option linter.unusedVariables false
set_option linter.unusedSimpArgs false

def hRes : CH := fun args hl K => match args, hl with
  | [.imm _ _ 8 L, .v (.string s)], [] => ∃ ms : List Mo, L = ms.map moC ∧ ms.length ≤ 1048576 ∧ (∀ m ∈ ms, smMo m) ∧ s.size ≤ 1048576 ∧ K (resV (resolveF ms s)) []
  | _, _ => False
theorem fin_r {K : AV → HP → Prop} {h : HP} {x y : Option (Nat × Ex)} (hp : K (resV x) h) (e : x = y) : K (resV y) h := e ▸ hp
theorem exps_get {m : Mo} {i : Nat} {e : Ex} (h : m.exps[i]? = some e) : (m.exps.map exC)[i]? = some (exC e) := get_map h
def cx_s_spec_Resolve : Ctx := mkC [(224, callM [] false hFull), (226, callM [] false hDot)]
theorem cx_s_spec_Resolve_ok : CtxOk Tryz.prog cx_s_spec_Resolve := mkC_ok (mem1 ⟨s_l4FullOk, fnOk Tryz.func224 rfl rfl⟩ (mem1 ⟨s_l4Dot, fnOk Tryz.func226 rfl rfl⟩ mem0))
set_option maxRecDepth 100000 in
set_option pp.maxSteps 1500 in
set_option maxHeartbeats 4000000 in
theorem s_spec_Resolve : HSound Tryz.prog 195 (callM [] true hRes) := by
  refine callM_sound cx_s_spec_Resolve_ok mixed Tryz.func195 rfl fun args hl K hp => ?_
  unfold hRes at hp
  split at hp
  · rename_i t z L s
    obtain ⟨ms, rfl, hlen, hsm, hs, hp⟩ := hp
    refine And.intro (fun h1 => ?_) (fun h1 => ?_)
    · refine And.intro (fun h2 => ?_) (fun h2 => by cases h2)
      refine And.intro (fun h3 => ?_) (fun h3 => by cases h3)
      have h1 := of_decide_eq_true h1
      rw [List.length_map] at h1
      have e : resolveF ms s = none := by
        simp only [resolveF, decide_eq_false (by omega : ¬ ms.length ≤ 4), Bool.false_and]
      rw [e] at hp
      exact hp
    have h1 := of_decide_eq_false h1
    rw [List.length_map] at h1
    have hl4 : ms.length ≤ 4 := by omega
    clear h1
    refine And.intro hs ?_
    refine And.intro (fun h2 => by cases h2) (fun h2 => ?_)
    refine And.intro (fun h3 => ?_) (fun h3 => ?_)
    · have h3 : fullOk s = false := by simpa using h3
      have e : resolveF ms s = none := by
        simp only [resolveF, h3, Bool.and_false, Bool.false_and]
      rw [e] at hp
      exact hp
    have hf : fullOk s = true := by simpa using h3
    clear h3 h2
    refine Exists.intro true (Exists.intro [0, 1, 4, 6] (Exists.intro (fun m vs h => ∃ i : Nat, i ≤ ms.length ∧ m = ms.length - i ∧ (∀ q ∈ ms.take i, q.exps.length ≤ 16) ∧ vs = [.imm t z 8 (ms.map moC), .v (.string s), .ptr 0 0 0 3, .v (.int .i64 i)] ∧ h = [.box [.v (.int .i64 0), .v (.int .i64 0), .v (.int .i64 0)]]) (And.intro ?_ ?_)))
    · refine Exists.intro [] (Exists.intro ms.length ?_)
      exact ⟨0, by omega, rfl, fun q hq => by simp at hq, rfl, rfl⟩
    intro m vs h hI
    obtain ⟨i, hi, rfl, hall, rfl, rfl⟩ := hI
    refine And.intro (fun h1 => ?_) (fun h1 => ?_)
    · have h1 := of_decide_eq_true h1
      rw [List.length_map] at h1
      have hlt : i < ms.length := by omega
      obtain ⟨m, hm⟩ : ∃ m, ms[i]? = some m := ⟨_, List.getElem?_eq_getElem hlt⟩
      refine Exists.intro i (And.intro rfl (Exists.intro (moC m) (And.intro (get_map hm) ?_)))
      refine And.intro (fun h2 => ?_) (fun h2 => ?_)
      · have h2 := of_decide_eq_true h2
        rw [List.length_map] at h2
        have e : resolveF ms s = none := by
          have : ms.all (fun m => decide (m.exps.length ≤ 16)) = false := by
            rw [List.all_eq_false]
            exact ⟨m, List.mem_of_getElem? hm, by simp; omega⟩
          simp only [resolveF, this, Bool.and_false]
        rw [e] at hp
        exact hp
      · have h2 := of_decide_eq_false h2
        rw [List.length_map] at h2
        refine Exists.intro [] (Exists.intro (ms.length - (i + 1)) (And.intro (by omega) ⟨i + 1, by omega, rfl, ?_, ?_, rfl⟩))
        · intro q hq
          rw [List.take_add_one, hm] at hq
          simp only [Option.toList, List.mem_append, List.mem_singleton] at hq
          rcases hq with hq | rfl
          · exact hall q hq
          · omega
        · rw [wrap_succ hlt (by omega)]
    have h1 := of_decide_eq_false h1
    rw [List.length_map] at h1
    rw [List.take_of_length_le (by omega)] at hall
    have eR : resolveF ms s = resG ms (headS s) (tailS s) := by
      have : ms.all (fun m => decide (m.exps.length ≤ 16)) = true := by
        rw [List.all_eq_true]
        intro q hq
        simpa using hall q hq
      simp only [resolveF, decide_eq_true hl4, hf, this, Bool.and_true]
    rw [eR] at hp
    clear eR
    obtain ⟨n1, n2, p, hpq, hps, _, _⟩ := full_split hf
    have e0 : (dotI s).toNat = p := by omega
    simp only [headS, tailS, e0] at hp n1 n2
    refine And.intro hs ?_
    refine Exists.intro true (Exists.intro [0, 1, 4, 7, 8] (Exists.intro (fun m vs h => ∃ i : Nat, i ≤ ms.length ∧ m = ms.length - i ∧ (∀ k < i, ∀ q, ms[k]? = some q → q.name ≠ s.extract 0 p) ∧ vs = [.imm t z 8 (ms.map moC), .v (.string s), .ptr 0 0 0 3, .v (.int .i64 p), .v (.int .i64 i)] ∧ h = [.box [.v (.int .i64 0), .v (.int .i64 0), .v (.int .i64 0)]]) (And.intro ?_ ?_)))
    · refine Exists.intro [] (Exists.intro ms.length ?_)
      exact ⟨0, by omega, rfl, fun k hk => by omega, by rw [hpq]; rfl, rfl⟩
    intro m vs h hI
    obtain ⟨i, hi, rfl, hno, rfl, rfl⟩ := hI
    refine And.intro (fun h1 => ?_) (fun h1 => ?_)
    · have h1 := of_decide_eq_true h1
      rw [List.length_map] at h1
      have hlt : i < ms.length := by omega
      obtain ⟨m, hm⟩ : ∃ m, ms[i]? = some m := ⟨_, List.getElem?_eq_getElem hlt⟩
      have hmm := hall m (List.mem_of_getElem? hm)
      refine And.intro (show Region.lexB _ _ = true from by kernel_rfl) ?_
      refine Exists.intro i (And.intro rfl (Exists.intro (moC m) (And.intro (get_map hm) ?_)))
      refine Exists.intro p (And.intro rfl (And.intro (by omega) (And.intro (by omega) ?_)))
      refine And.intro (fun h2 => ?_) (fun h2 => ?_)
      · have h2 : ¬ m.name = s.extract 0 p := by
          rw [ba_beq2] at h2
          simpa using h2
        refine Exists.intro [] (Exists.intro (ms.length - (i + 1)) (And.intro (by omega) ⟨i + 1, by omega, rfl, ?_, ?_, rfl⟩))
        · intro k hk q hq
          rcases Nat.lt_or_ge k i with r | r
          · exact hno k r q hq
          · have : k = i := by omega
            subst this
            rw [hm] at hq
            cases hq
            exact h2
        · rw [wrap_succ hlt (by omega)]
      have h2 : m.name = s.extract 0 p := by
        rw [ba_beq2] at h2
        simpa using h2
      have eG := resG_at (b := s.extract (p + 1) s.size) hm h2 hno
      rw [eG] at hp
      clear eG h2
      refine Exists.intro true (Exists.intro [0, 1, 4, 7, 8, 9] (Exists.intro (fun m' vs h => ∃ j : Nat, j ≤ m.exps.length ∧ m' = m.exps.length - j ∧ (∀ k < j, ∀ q, m.exps[k]? = some q → q.n ≠ s.extract (p + 1) s.size) ∧ vs = [.imm t z 8 (ms.map moC), .v (.string s), .ptr 0 0 0 3, .v (.int .i64 p), .v (.int .i64 i), .v (.int .i64 j)] ∧ h = [.box [.v (.int .i64 0), .v (.int .i64 0), .v (.int .i64 0)]]) (And.intro ?_ ?_)))
      · refine Exists.intro [] (Exists.intro m.exps.length ?_)
        exact ⟨0, by omega, rfl, fun k hk => by omega, rfl, rfl⟩
      intro m' vs h hI
      obtain ⟨j, hj, rfl, hnj, rfl, rfl⟩ := hI
      refine Exists.intro i (And.intro rfl (Exists.intro (moC m) (And.intro (get_map hm) ?_)))
      refine And.intro (fun h3 => ?_) (fun h3 => ?_)
      · have h3 := of_decide_eq_true h3
        rw [List.length_map] at h3
        have hjl : j < m.exps.length := by omega
        obtain ⟨e, he⟩ : ∃ e, m.exps[j]? = some e := ⟨_, List.getElem?_eq_getElem hjl⟩
        refine Exists.intro i (And.intro rfl (Exists.intro (moC m) (And.intro (get_map hm) ?_)))
        refine Exists.intro j (And.intro rfl (Exists.intro (exC e) (And.intro (get_map he) ?_)))
        refine And.intro (show Region.lexB _ _ = true from by kernel_rfl) ?_
        refine Exists.intro (p + 1) (And.intro (by rw [wrap64 (by omega)]; omega) (And.intro (by omega) (And.intro (by omega) ?_)))
        refine And.intro (fun h4 => ?_) (fun h4 => ?_)
        · have h4 : e.n = s.extract (p + 1) s.size := by
            rw [ba_beq2] at h4
            simpa using h4
          rw [findEx_at he h4 hnj] at hp
          exact hp
        · have h4 : ¬ e.n = s.extract (p + 1) s.size := by
            rw [ba_beq2] at h4
            simpa using h4
          refine Exists.intro [] (Exists.intro (m.exps.length - (j + 1)) (And.intro (by omega) ⟨j + 1, by omega, rfl, ?_, ?_, rfl⟩))
          · intro k hk q hq
            rcases Nat.lt_or_ge k j with r | r
            · exact hnj k r q hq
            · have : k = j := by omega
              subst this
              rw [he] at hq
              cases hq
              exact h4
          · rw [wrap_succ hjl (by omega)]
      · have h3 := of_decide_eq_false h3
        rw [List.length_map] at h3
        have : findEx (s.extract (p + 1) s.size) m.exps = none := findEx_none fun q hq => by
          obtain ⟨k, hk, rfl⟩ := List.mem_iff_getElem.1 hq
          exact hnj k (by omega) _ (List.getElem?_eq_getElem hk)
        rw [this] at hp
        exact hp
    · have h1 := of_decide_eq_false h1
      rw [List.length_map] at h1
      have : resG ms (s.extract 0 p) (s.extract (p + 1) s.size) = none := resG_none fun q hq => by
        obtain ⟨k, hk, rfl⟩ := List.mem_iff_getElem.1 hq
        exact hno k (by omega) _ (List.getElem?_eq_getElem hk)
      rw [this] at hp
      exact hp
  · exact hp.elim
end Go.Proofs.YtbfjkjdbdejnmaaGreat.Ab

/- Resolve of impl: the table of names. No condition. -/
namespace Go.Proofs.YtbfjkjdbdejnmaaGreat.Ab
set_option linter.unusedVariables false
set_option linter.unusedSimpArgs false

def hNames : CH := fun args hl K => match args, hl with
  | [.imm _ _ 8 L], [] => ∃ ms : List Mo, L = ms.map moC ∧ ms.length ≤ 1048576 ∧ (∀ m ∈ ms, smMo m) ∧ ∀ M, (∀ q, mapFind (.s q) M = (namesP ms ms.length q).map tgtV) → K (.mapr 0) [.mp 0 M]
  | _, _ => False
theorem seen_step {ms : List Mo} {i : Nat} {m : Mo} (hm : ms[i]? = some m) (q : ByteArray) : seenB ms (i + 1) q = (seenB ms i q || decide (m.name = q)) := by
  unfold seenB
  rw [List.take_add_one, hm]
  simp
theorem or_none_of {α : Type} {o : Option α} (x : α) (h : o = none) : o.or (some x) = some x := by rw [h]; rfl
def cx_s_namesOf : Ctx := mkC []
theorem cx_s_namesOf_ok : CtxOk Tryz.prog cx_s_namesOf := cx0_ok
set_option maxRecDepth 100000 in
set_option pp.maxSteps 1500 in
set_option maxHeartbeats 4000000 in
theorem s_namesOf : HSound Tryz.prog 147 (callM [] false hNames) := by
  refine callM_sound cx_s_namesOf_ok mixed Tryz.func147 rfl fun args hl K hp => ?_
  unfold hNames at hp
  split at hp
  · rename_i t z L
    obtain ⟨ms, rfl, hlen, hsm, hp⟩ := hp
    refine Exists.intro true (Exists.intro [3, 4, 14, 15, 16] (Exists.intro (fun m vs h => ∃ (i : Nat) (M S : List (MK × Value)), i ≤ ms.length ∧ m = ms.length - i ∧ (∀ q, mapFind (.s q) M = (namesP ms i q).map tgtV) ∧ (∀ q, mapFind (.s q) S = match seenB ms i q with | true => some (.bool true) | false => none) ∧ vs = [.mapr 0, .mapr 1, .imm t z 8 (ms.map moC), .v (.int .i64 ms.length), .v (.int .i64 i)] ∧ h = [.mp 0 M, .mp 0 S]) (And.intro ?_ ?_)))
    · refine Exists.intro [] (Exists.intro ms.length ?_)
      exact ⟨0, [], [], by omega, rfl, fun q => rfl, fun q => rfl, by rw [List.length_map]; rfl, rfl⟩
    intro m vs h hI
    obtain ⟨i, M, S, hi, rfl, hM, hS, rfl, rfl⟩ := hI
    refine And.intro (fun h1 => ?_) (fun h1 => ?_)
    · have h1 := of_decide_eq_true h1
      have hlt : i < ms.length := by omega
      obtain ⟨m, hm⟩ : ∃ m, ms[i]? = some m := ⟨_, List.getElem?_eq_getElem hlt⟩
      have hmm := hsm m (List.mem_of_getElem? hm)
      refine Exists.intro i (And.intro rfl (Exists.intro (moC m) (And.intro (get_map hm) ?_)))
      have hwi : IntKind.wrap .i64 ((i : Int) + 1) = ((i + 1 : Nat) : Int) := wrap_succ hlt (by omega)
      refine And.intro (fun v hv => ?_) (fun hv => ?_)
      · rw [hS] at hv
        have hsn : seenB ms i m.name = true := by
          cases hh : seenB ms i m.name with
          | true => rfl
          | false => rw [hh] at hv; cases hv
        rw [hsn] at hv
        cases hv
        refine And.intro (fun h2 => ?_) (fun h2 => by cases h2)
        refine Exists.intro [] (Exists.intro (ms.length - (i + 1)) (And.intro (by omega) ⟨i + 1, M, S, by omega, rfl, fun q => ?_, fun q => ?_, by rw [hwi], rfl⟩))
        · rw [hM, namesP, hm]
          simp only [hsn, Option.or_none]
        · rw [hS, seen_step hm]
          by_cases hq : m.name = q
          · subst hq
            rw [hsn]
            rfl
          · rw [decide_eq_false hq, Bool.or_false]
      · rw [hS] at hv
        have hsn : seenB ms i m.name = false := by
          cases hh : seenB ms i m.name with
          | false => rfl
          | true => rw [hh] at hv; cases hv
        clear hv
        refine And.intro (fun h2 => by cases h2) (fun h2 => ?_)
        have hS' : ∀ q, mapFind (.s q) (mapSet (.s m.name) (.bool true) S) = match seenB ms (i + 1) q with | true => some (.bool true) | false => none := by
          intro q
          rw [mapFind_set, hS, seen_step hm]
          by_cases hq : m.name = q
          · subst hq
            simp [hsn]
          · rw [if_neg (by simpa using hq), decide_eq_false hq, Bool.or_false]
        have hN : ∀ q, namesP ms (i + 1) q = (namesP ms i q).or ((findKey q m.name m.exps).map fun e => (i, e)) := by
          intro q
          rw [namesP, hm]
          simp only [hsn]
        refine Exists.intro true (Exists.intro [3, 4, 5, 6, 14, 15, 16, 29, 30, 31] (Exists.intro (fun m' vs h => ∃ (j : Nat) (M : List (MK × Value)), j ≤ m.exps.length ∧ m' = m.exps.length - j ∧ (∀ q, mapFind (.s q) M = ((namesP ms i q).or ((findKey q m.name (m.exps.take j)).map fun e => (i, e))).map tgtV) ∧ vs = [.mapr 0, .mapr 1, .v (.int .i64 i), .ptr 2 0 0 8, .imm t z 8 (ms.map moC), .v (.int .i64 ms.length), .v (.int .i64 i), .imm t false 3 (m.exps.map exC), .v (.int .i64 m.exps.length), .v (.int .i64 j)] ∧ h = [.mp 0 M, .mp 0 (mapSet (.s m.name) (.bool true) S), .box [.v (.string m.name), .imm t false 1 (m.text.map intC), .imm t false 1 (m.banks.map bankC), .imm t false 1 (m.data.map byteC), .v (.int .i64 m.bss), .imm t false 1 (m.rels.map intC), .imm t false 1 (m.imps.map strC), .imm t false 3 (m.exps.map exC)]]) (And.intro ?_ ?_)))
        · refine Exists.intro [] (Exists.intro m.exps.length ?_)
          refine ⟨0, M, by omega, rfl, fun q => ?_, by rw [List.length_map]; rfl, rfl⟩
          rw [hM]
          simp [findKey]
        intro m' vs h hI
        obtain ⟨j, M, hj, rfl, hM, rfl, rfl⟩ := hI
        refine And.intro (fun h3 => ?_) (fun h3 => ?_)
        · have h3 := of_decide_eq_true h3
          have hjl : j < m.exps.length := by omega
          obtain ⟨e, he⟩ : ∃ e, m.exps[j]? = some e := ⟨_, List.getElem?_eq_getElem hjl⟩
          have hee := hmm.exp e (List.mem_of_getElem? he)
          have hnn := hmm.name
          have hd1 : ({ data := #[46] } : ByteArray).size = 1 := rfl
          have hst := fun q => key_step (q := q) (nm := m.name) he
          have hwj : IntKind.wrap .i64 ((j : Int) + 1) = ((j + 1 : Nat) : Int) := wrap_succ hjl (by have := hmm.exps; omega)
          refine Exists.intro j (And.intro rfl (Exists.intro (exC e) (And.intro (get_map he) ?_)))
          refine And.intro (by omega) ?_
          refine And.intro (by rw [ByteArray.size_append]; omega) ?_
          refine And.intro (fun v hv => ?_) (fun hv => ?_)
          · have hv' : mapFind (.s (keyOf m.name e)) M = some v := hv
            rw [hM] at hv'
            obtain ⟨p, hp1, rfl⟩ := Option.map_eq_some_iff.1 hv'
            refine And.intro (fun h4 => by cases h4) (fun h4 => ?_)
            refine Exists.intro [] (Exists.intro (m.exps.length - (j + 1)) (And.intro (by omega) ⟨j + 1, M, by omega, rfl, fun q => ?_, by rw [hwj], rfl⟩))
            rw [hM, hst]
            by_cases hq : keyOf m.name e = q
            · subst hq
              rw [hp1]
              cases h5 : namesP ms i (keyOf m.name e) with
              | some x =>
                rw [h5] at hp1
                simp only [Option.some_or] at hp1 ⊢
                rw [hp1]
              | none =>
                rw [h5] at hp1
                simp only [Option.none_or] at hp1 ⊢
                obtain ⟨y, hy, hyp⟩ := Option.map_eq_some_iff.1 hp1
                rw [hy]
                simp only [Option.some_or, Option.map_some, hyp]
            · rw [decide_eq_false hq]
              simp only [Option.or_none]
          · have hv' : mapFind (.s (keyOf m.name e)) M = none := hv
            rw [hM] at hv'
            have hv2 := Option.map_eq_none_iff.1 hv'
            refine And.intro (fun h4 => ?_) (fun h4 => by cases h4)
            refine Exists.intro [] (Exists.intro (m.exps.length - (j + 1)) (And.intro (by omega) ⟨j + 1, mapSet (.s (keyOf m.name e)) (tgtV (i, e)) M, by omega, rfl, fun q => ?_, by rw [hwj], rfl⟩))
            rw [mapFind_set, hM, hst]
            by_cases hq : keyOf m.name e = q
            · subst hq
              rw [if_pos rfl]
              rw [Option.or_eq_none_iff, Option.map_eq_none_iff] at hv2
              rw [hv2.1, hv2.2]
              simp
            · rw [if_neg (by simpa using hq), decide_eq_false hq]
              simp only [Option.or_none]
        · have h3 := of_decide_eq_false h3
          rw [List.take_of_length_le (by omega)] at hM
          refine Exists.intro [] (Exists.intro (ms.length - (i + 1)) (And.intro (by omega) ⟨i + 1, M, mapSet (.s m.name) (.bool true) S, by omega, rfl, fun q => ?_, hS', by rw [hwi], rfl⟩))
          rw [hM, hN]
    · have h1 := of_decide_eq_false h1
      have : i = ms.length := by omega
      subst this
      exact hp M hM
  · exact hp.elim

end Go.Proofs.YtbfjkjdbdejnmaaGreat.Ab
