/- Names: a name, a name and a dot and a name; where the dot is. No condition. -/
import Derived.Test.YtijjonafmmhhbaaTBase
import Derived.Lib.Bytealg
import Derived.Lib.IndexLaws
import Derived.Lib.Strings
import Derived.WalkKit
import Derived.Lib.Walk
namespace Go.Proofs.Ytijjonafmmhhbaa.Ab
set_option linter.unusedVariables false
set_option linter.unusedSimpArgs false

/-! ### The library's search for a byte -/

set_option maxRecDepth 100000 in
theorem calls_IndexByte (s : ByteArray) (c : Int) (w : World) : Calls Try.prog 148 #[.string s, .int .u8 c] w fun e w' => e = .returned (.int .i64 (Lib.indexByte s.data.toList c.toNat.toUInt8)) ∧ w' = w := by
  go_enter Try.func148, Try.ntmps148
  go_wp2
  rw [run_callFunc_extern Try.func155 (by kernel_rfl) (by kernel_rfl) (by kernel_rfl) (e := Extern.BytealgIndexByte.indexByte) (by kernel_rfl), Lib.run_indexByteString]
  simp only [Result.andThen]
  rw [Oper.upon_value]
  go_wp2
  go_ret
  exact ⟨rfl, rfl⟩
def hIdxB : Handler := fun args h K => match args with
  | [.v (.string s), .v (.int .u8 c)] => K (.v (.int .i64 (Lib.indexByte s.data.toList c.toNat.toUInt8))) h
  | _ => False
theorem s_IndexByte : HSound Try.prog 148 (hIdxB) := by
  intro E G S F h w args vs K hg hl hv hp
  unfold hIdxB at hp
  split at hp
  · rename_i s c
    obtain ⟨x, y, rfl⟩ : ∃ x y, vs = [x, y] := by
      match vs, hl with
      | [x, y], _ => exact ⟨x, y, rfl⟩
    have h1 := hv 0 _ rfl
    have h2 := hv 1 _ rfl
    simp only [List.getD_cons_zero, List.getD_cons_succ] at h1 h2
    have e1 : x = .string s := (VR.v_inv h1).1
    have e2 : y = .int .u8 c := (VR.v_inv h2).1
    subst e1 e2
    refine (calls_IndexByte s c w).mono ?_
    rintro e w' ⟨rfl, rfl⟩
    exact ⟨_, h, G, S, F, hp, hg, Ext.refl _ _ _ _, .inl ⟨_, rfl, vr_int _ _ _ _ _ _⟩⟩
  · exact hp.elim

/-! ### Where the dot is -/

def dotI (s : ByteArray) : Int := Lib.indexByte s.data.toList 46
theorem dotI_some {s : ByteArray} {i : Nat} (h : s.data.toList[i]? = some 46) (hn : ∀ k < i, s.data.toList[k]? ≠ some 46) : dotI s = i := by
  have hg := Lib.indexByte_ge s.data.toList 46
  unfold dotI
  rcases Int.lt_or_le (Lib.indexByte s.data.toList 46) 0 with q | q
  · exact absurd h (Lib.indexByte_none (by omega) i)
  · obtain ⟨o, ho⟩ := Int.eq_ofNat_of_zero_le q
    obtain ⟨h1, h2⟩ := Lib.indexByte_some ho
    rw [ho]
    rcases Nat.lt_trichotomy o i with r | r | r
    · exact absurd h1 (hn o r)
    · rw [r]
    · exact absurd h (h2 i r)
theorem dotI_none {s : ByteArray} (hn : ∀ k : Nat, s.data.toList[k]? ≠ some 46) : dotI s = -1 := by
  have hg := Lib.indexByte_ge s.data.toList 46
  unfold dotI
  rcases Int.lt_or_le (Lib.indexByte s.data.toList 46) 0 with q | q
  · omega
  · obtain ⟨o, ho⟩ := Int.eq_ofNat_of_zero_le q
    exact absurd (Lib.indexByte_some ho).1 (hn o)
theorem dotI_lt {s : ByteArray} {p : Nat} (h : dotI s = p) : p < s.size ∧ s.data.toList[p]? = some 46 ∧ ∀ k < p, s.data.toList[k]? ≠ some 46 := by
  obtain ⟨h1, h2⟩ := Lib.indexByte_some h
  refine ⟨?_, h1, h2⟩
  have := (List.getElem?_eq_some_iff.1 h1).1
  simpa using this
theorem dotI_ge (s : ByteArray) : -1 ≤ dotI s := Lib.indexByte_ge _ _
def azB (b : UInt8) : Bool := decide (97 ≤ b.toNat ∧ b.toNat ≤ 122)
def nameOk (s : ByteArray) : Bool := s.data.toList.all azB && decide (1 ≤ s.size ∧ s.size ≤ 12)
def fullOk (s : ByteArray) : Bool := decide (0 ≤ dotI s) && nameOk (s.extract 0 (dotI s).toNat) && nameOk (s.extract ((dotI s).toNat + 1) s.size)
def headS (s : ByteArray) : ByteArray := s.extract 0 (dotI s).toNat
def tailS (s : ByteArray) : ByteArray := s.extract ((dotI s).toNat + 1) s.size
def strD : ByteArray := ⟨#[46]⟩

def hDot : CH := fun args hl K => match args, hl with
  | [.v (.string s)], [] => s.size ≤ 1048576 ∧ K (.v (.int .i64 (dotI s))) []
  | _, _ => False
def cx_s_l4Dot : Ctx := mkC []
theorem cx_s_l4Dot_ok : CtxOk Try.prog cx_s_l4Dot := cx0_ok
set_option maxRecDepth 100000 in
set_option pp.maxSteps 1500 in
theorem s_l4Dot : HSound Try.prog 88 (callM [] false hDot) := by
  refine callM_sound cx_s_l4Dot_ok mixed Try.func88 rfl fun args hl K hp => ?_
  unfold hDot at hp
  split at hp
  · rename_i s
    obtain ⟨hs, hp⟩ := hp
    refine Exists.intro false (Exists.intro [0, 3] (Exists.intro (fun m vs h => ∃ i : Nat, i ≤ s.size ∧ m = s.size - i ∧ (∀ k < i, s.data.toList[k]? ≠ some 46) ∧ vs = [.v (.string s), .v (.int .i64 i)] ∧ h = []) (And.intro ?_ ?_)))
    · refine Exists.intro s.size ?_
      exact ⟨0, by omega, rfl, fun k hk => by omega, rfl, rfl⟩
    · intro m vs h hI
      obtain ⟨i, hi, rfl, hall, rfl, rfl⟩ := hI
      refine And.intro (fun h1 => ?_) (fun h1 => ?_)
      · have h1 := of_decide_eq_true h1
        have hlt : i < s.size := by omega
        obtain ⟨b, hb⟩ : ∃ b, s.data[i]? = some b := ⟨_, Array.getElem?_eq_getElem hlt⟩
        have hbl : s.data.toList[i]? = some b := by simpa using hb
        refine Exists.intro i (And.intro rfl (Exists.intro b (And.intro hb ?_)))
        refine And.intro (fun h2 => ?_) (fun h2 => ?_)
        · have h2 : (b.toNat : Int) = 46 := by simpa using h2
          have hb46 : b = 46 := UInt8.toNat_inj.1 (by simpa using (by omega : b.toNat = 46))
          subst hb46
          exact fin_i hp (dotI_some hbl hall)
        · have h2 : ¬ (b.toNat : Int) = 46 := by simpa using h2
          refine Exists.intro (s.size - (i + 1)) (And.intro (by omega) ⟨i + 1, by omega, rfl, fun k hk => ?_, ?_, rfl⟩)
          · rcases Nat.lt_or_ge k i with q | q
            · exact hall k q
            · have : k = i := by omega
              subst this
              rw [hbl]
              intro e
              cases e
              exact h2 rfl
          · rw [wrap_succ hlt (by omega)]
      · have h1 := of_decide_eq_false h1
        refine fin_i hp (dotI_none fun k => ?_)
        rcases Nat.lt_or_ge k i with q | q
        · exact hall k q
        · rw [List.getElem?_eq_none (by simpa using (by omega : s.size ≤ k))]
          simp
  · exact hp.elim

def hName : CH := fun args hl K => match args, hl with
  | [.v (.string s)], [] => s.size ≤ 1048576 ∧ K (.v (.bool (nameOk s))) []
  | _, _ => False
theorem nameOk_bad {s : ByteArray} {i : Nat} {b : UInt8} (h : s.data.toList[i]? = some b) (hb : (b.toNat : Int) < 97 ∨ 122 < (b.toNat : Int)) : nameOk s = false := by
  have : s.data.toList.all azB = false := by
    rw [List.all_eq_false]
    exact ⟨b, List.mem_of_getElem? h, by simp [azB]; omega⟩
  simp [nameOk, this]
theorem low_step {s : ByteArray} {i : Nat} {b : UInt8} (h : s.data.toList[i]? = some b) (hall : ∀ b ∈ s.data.toList.take i, azB b = true) (h1 : ¬ (b.toNat : Int) < 97) (h2 : ¬ 122 < (b.toNat : Int)) : ∀ b ∈ s.data.toList.take (i + 1), azB b = true := by
  intro c hc
  rw [List.take_add_one, h] at hc
  simp at hc
  rcases hc with hc | rfl
  · exact hall c (by simpa using hc)
  · simp [azB]
    omega
def cx_s_l4NameOk : Ctx := mkC []
theorem cx_s_l4NameOk_ok : CtxOk Try.prog cx_s_l4NameOk := cx0_ok
set_option maxRecDepth 100000 in
set_option pp.maxSteps 1500 in
theorem s_l4NameOk : HSound Try.prog 33 (callM [] false hName) := by
  refine callM_sound cx_s_l4NameOk_ok mixed Try.func33 rfl fun args hl K hp => ?_
  unfold hName at hp
  split at hp
  · rename_i s
    obtain ⟨hs, hp⟩ := hp
    refine Exists.intro false (Exists.intro [0, 3] (Exists.intro (fun m vs h => ∃ i : Nat, i ≤ s.size ∧ m = s.size - i ∧ (∀ b ∈ s.data.toList.take i, azB b = true) ∧ vs = [.v (.string s), .v (.int .i64 i)] ∧ h = []) (And.intro ?_ ?_)))
    · refine Exists.intro s.size ?_
      exact ⟨0, by omega, rfl, fun b hb => by simp at hb, rfl, rfl⟩
    · intro m vs h hI
      obtain ⟨i, hi, rfl, hall, rfl, rfl⟩ := hI
      refine And.intro (fun h1 => ?_) (fun h1 => ?_)
      · have h1 := of_decide_eq_true h1
        have hlt : i < s.size := by omega
        obtain ⟨b, hb⟩ : ∃ b, s.data[i]? = some b := ⟨_, Array.getElem?_eq_getElem hlt⟩
        have hbl : s.data.toList[i]? = some b := by simpa using hb
        refine Exists.intro i (And.intro rfl (Exists.intro b (And.intro hb ?_)))
        refine And.intro (fun h2 => ?_) (fun h2 => ?_)
        · refine And.intro (fun h3 => ?_) (fun h3 => by cases h3)
          refine And.intro (fun h4 => ?_) (fun h4 => by cases h4)
          exact fin_b hp (nameOk_bad hbl (.inl (of_decide_eq_true h2)))
        · have h2 := of_decide_eq_false h2
          refine Exists.intro i (And.intro rfl (Exists.intro b (And.intro hb ?_)))
          refine And.intro (fun h3 => by cases h3) (fun h3 => ?_)
          refine And.intro (fun h4 => ?_) (fun h4 => ?_)
          · exact fin_b hp (nameOk_bad hbl (.inr (of_decide_eq_true h4)))
          · have h4 := of_decide_eq_false h4
            refine Exists.intro (s.size - (i + 1)) (And.intro (by omega) ⟨i + 1, by omega, rfl, low_step hbl hall h2 h4, ?_, rfl⟩)
            rw [wrap_succ hlt (by omega)]
      · have h1 := of_decide_eq_false h1
        rw [List.take_of_length_le (by simpa using (by omega : s.size ≤ i))] at hall
        have e : s.data.toList.all azB = true := List.all_eq_true.2 hall
        have e2 : nameOk s = decide (1 ≤ s.size ∧ s.size ≤ 12) := by simp only [nameOk, e, Bool.true_and]
        repeat' ((first | refine And.intro (fun h1 => ?_) (fun h1 => ?_) | refine And.intro (by decide) ?_ | refine And.intro (show wfB _ = true from by kernel_rfl) ?_ | refine And.intro (And.intro rfl rfl) ?_ | exact And.intro rfl rfl | apply HeldC.intro | exact AV.top | (apply HeldF.intro; refine Exists.intro _ (And.intro (by assumption) ?_); refine And.intro (by decide) ?_; exact And.intro rfl rfl) | (refine And.intro (by (refine Exists.intro _ (And.intro (by assumption) ?_); refine And.intro (by decide) ?_; exact And.intro rfl rfl)) ?_) | refine Or.inl ?_) <;> try cases h1)
        all_goals refine fin_b hp ?_
        all_goals clear hp
        all_goals rw [e2, Bool.eq_iff_iff]
        all_goals simp only [decide_eq_true_eq, decide_eq_false_iff_not, reduceCtorEq, iff_false, iff_true] at *
        all_goals omega
  · exact hp.elim
def cx_s_isName : Ctx := mkC []
theorem cx_s_isName_ok : CtxOk Try.prog cx_s_isName := cx0_ok
set_option maxRecDepth 100000 in
set_option pp.maxSteps 1500 in
theorem s_isName : HSound Try.prog 42 (callM [] false hName) := by
  refine callM_sound cx_s_isName_ok mixed Try.func42 rfl fun args hl K hp => ?_
  unfold hName at hp
  split at hp
  · rename_i s
    obtain ⟨hs, hp⟩ := hp
    have key : decide (1 ≤ s.size ∧ s.size ≤ 12) = false → nameOk s = false := fun h => by simp only [nameOk, h, Bool.and_false]
    repeat' ((first | refine And.intro (fun h1 => ?_) (fun h1 => ?_) | refine And.intro (by decide) ?_ | refine And.intro (show wfB _ = true from by kernel_rfl) ?_ | refine And.intro (And.intro rfl rfl) ?_ | exact And.intro rfl rfl | apply HeldC.intro | exact AV.top | (apply HeldF.intro; refine Exists.intro _ (And.intro (by assumption) ?_); refine And.intro (by decide) ?_; exact And.intro rfl rfl) | (refine And.intro (by (refine Exists.intro _ (And.intro (by assumption) ?_); refine And.intro (by decide) ?_; exact And.intro rfl rfl)) ?_) | refine Or.inl ?_) <;> try cases h1)
    · exact fin_b hp (key (by simp only [decide_eq_true_eq, decide_eq_false_iff_not] at *; omega))
    · exact fin_b hp (key (by simp only [decide_eq_true_eq, decide_eq_false_iff_not] at *; omega))
    rename_i q1
    have q1 := of_decide_eq_false q1
    have q2 := of_decide_eq_false h1
    clear h1
    refine Exists.intro false (Exists.intro [0, 13, 14] (Exists.intro (fun m vs h => ∃ i : Nat, i ≤ s.size ∧ m = s.size - i ∧ (∀ b ∈ s.data.toList.take i, azB b = true) ∧ vs = [.v (.string s), .v (.int .i64 s.size), .v (.int .i64 i)] ∧ h = []) (And.intro ?_ ?_)))
    · refine Exists.intro s.size ?_
      exact ⟨0, by omega, rfl, fun b hb => by simp at hb, rfl, rfl⟩
    · intro m vs h hI
      obtain ⟨i, hi, rfl, hall, rfl, rfl⟩ := hI
      refine And.intro (fun h1 => ?_) (fun h1 => ?_)
      · have h1 := of_decide_eq_true h1
        have hlt : i < s.size := by omega
        obtain ⟨b, hb⟩ : ∃ b, s.data[i]? = some b := ⟨_, Array.getElem?_eq_getElem hlt⟩
        have hbl : s.data.toList[i]? = some b := by simpa using hb
        refine Exists.intro i (And.intro rfl (Exists.intro b (And.intro hb ?_)))
        refine And.intro (fun h2 => ?_) (fun h2 => ?_)
        · refine And.intro (fun h3 => ?_) (fun h3 => by cases h3)
          refine And.intro (fun h4 => ?_) (fun h4 => by cases h4)
          exact fin_b hp (nameOk_bad hbl (.inl (of_decide_eq_true h2)))
        · have h2 := of_decide_eq_false h2
          refine Exists.intro i (And.intro rfl (Exists.intro b (And.intro hb ?_)))
          refine And.intro (fun h3 => by cases h3) (fun h3 => ?_)
          refine And.intro (fun h4 => ?_) (fun h4 => ?_)
          · exact fin_b hp (nameOk_bad hbl (.inr (of_decide_eq_true h4)))
          · have h4 := of_decide_eq_false h4
            refine Exists.intro (s.size - (i + 1)) (And.intro (by omega) ⟨i + 1, by omega, rfl, low_step hbl hall h2 h4, ?_, rfl⟩)
            rw [wrap_succ hlt (by omega)]
      · have h1 := of_decide_eq_false h1
        rw [List.take_of_length_le (by simpa using (by omega : s.size ≤ i))] at hall
        have e : s.data.toList.all azB = true := List.all_eq_true.2 hall
        refine fin_b hp ?_
        simp only [nameOk, e, Bool.true_and]
        rw [decide_eq_true (by omega)]
  · exact hp.elim

def hFull : CH := fun args hl K => match args, hl with
  | [.v (.string s)], [] => s.size ≤ 1048576 ∧ K (.v (.bool (fullOk s))) []
  | _, _ => False
def cx_s_l4FullOk : Ctx := mkC [(88, callM [] false hDot), (33, callM [] false hName)]
theorem cx_s_l4FullOk_ok : CtxOk Try.prog cx_s_l4FullOk := mkC_ok (mem1 ⟨s_l4Dot, fnOk Try.func88 rfl rfl⟩ (mem1 ⟨s_l4NameOk, fnOk Try.func33 rfl rfl⟩ mem0))
set_option maxRecDepth 100000 in
set_option pp.maxSteps 1500 in
theorem s_l4FullOk : HSound Try.prog 36 (callM [] false hFull) := by
  refine callM_sound cx_s_l4FullOk_ok mixed Try.func36 rfl fun args hl K hp => ?_
  unfold hFull at hp
  split at hp
  · rename_i s
    obtain ⟨hs, hp⟩ := hp
    refine And.intro hs ?_
    refine And.intro (fun h1 => ?_) (fun h1 => ?_)
    · have h1 := of_decide_eq_true h1
      obtain ⟨p, hpq⟩ := Int.eq_ofNat_of_zero_le h1
      obtain ⟨hp1, hp2, hp3⟩ := dotI_lt hpq
      have e0 : (dotI s).toNat = p := by omega
      have ef : fullOk s = (nameOk (s.extract 0 p) && nameOk (s.extract (p + 1) s.size)) := by
        simp only [fullOk, e0, decide_eq_true h1, Bool.true_and]
      refine Exists.intro p (And.intro hpq ?_)
      refine And.intro (by omega) (And.intro (by omega) ?_)
      refine And.intro (by rw [ByteArray.size_extract]; omega) ?_
      refine And.intro (fun h3 => ?_) (fun h3 => by cases h3)
      refine And.intro (fun h4 => ?_) (fun h4 => ?_)
      · refine Exists.intro (p + 1) (And.intro (by rw [hpq, wrap64 (by omega)]; omega) ?_)
        refine And.intro (by omega) (And.intro (by omega) ?_)
        refine And.intro (by rw [ByteArray.size_extract]; omega) ?_
        refine And.intro (fun h5 => ?_) (fun h5 => by cases h5)
        refine fin_b hp ?_
        rw [ef, h4]
        rfl
      · refine And.intro (fun h5 => by cases h5) (fun h5 => ?_)
        refine fin_b hp ?_
        rw [ef, h4]
        rfl
    · have h1 := of_decide_eq_false h1
      have ef : fullOk s = false := by
        simp only [fullOk, decide_eq_false h1, Bool.false_and]
      repeat' ((first | refine And.intro (fun h1 => ?_) (fun h1 => ?_) | refine And.intro (by decide) ?_ | refine And.intro (show wfB _ = true from by kernel_rfl) ?_ | refine And.intro (And.intro rfl rfl) ?_ | exact And.intro rfl rfl | apply HeldC.intro | exact AV.top | (apply HeldF.intro; refine Exists.intro _ (And.intro (by assumption) ?_); refine And.intro (by decide) ?_; exact And.intro rfl rfl) | (refine And.intro (by (refine Exists.intro _ (And.intro (by assumption) ?_); refine And.intro (by decide) ?_; exact And.intro rfl rfl)) ?_) | refine Or.inl ?_) <;> try cases h1)
      all_goals exact fin_b hp ef
  · exact hp.elim

/-! ### The library's cut at a dot -/

def hIdx : CH := fun args hl K => match args, hl with
  | [.v (.string s), .v (.string t)], [] => t = strD ∧ s.size ≤ 1048576 ∧ K (.v (.int .i64 (dotI s))) []
  | _, _ => False
def cx_s_Index : Ctx := mkC [(148, hIdxB)]
theorem cx_s_Index_ok : CtxOk Try.prog cx_s_Index := mkC_ok (mem1 ⟨s_IndexByte, fnOk Try.func148 rfl rfl⟩ mem0)
set_option maxRecDepth 100000 in
set_option pp.maxSteps 1500 in
theorem s_Index : HSound Try.prog 144 (callM [] false hIdx) := by
  refine callM_sound cx_s_Index_ok mixed Try.func144 rfl fun args hl K hp => ?_
  unfold hIdx at hp
  split at hp
  · rename_i s t
    obtain ⟨rfl, hs, hp⟩ := hp
    refine And.intro (fun h1 => by cases h1) (fun h1 => ?_)
    refine And.intro (fun h1 => by cases h1) (fun h1 => ?_)
    refine And.intro (fun h1 => ?_) (fun h1 => ?_)
    · refine fin_i hp ?_
      have e : s.toList = strD.toList := (beq_iff_eq.1 h1).symm
      rw [ByteArray.toList_eq, ByteArray.toList_eq] at e
      unfold dotI
      rw [show s.data.toList = [46] from e]
      rfl
    · refine And.intro (fun h2 => ?_) (fun h2 => by cases h2)
      refine Exists.intro 0 (And.intro rfl (Exists.intro 46 (And.intro rfl ?_)))
      exact hp
  · exact hp.elim
def hCut : CH := fun args hl K => match args, hl with
  | [.v (.string s), .v (.string t)], [] => t = strD ∧ s.size ≤ 1048576 ∧ (0 ≤ dotI s → K (.tup [.v (.string (headS s)), .v (.string (tailS s)), .v (.bool true)]) []) ∧ (dotI s < 0 → K (.tup [.v (.string s), .v (.string .empty), .v (.bool false)]) [])
  | _, _ => False
def cx_s_SCut : Ctx := mkC [(144, callM [] false hIdx)]
theorem cx_s_SCut_ok : CtxOk Try.prog cx_s_SCut := mkC_ok (mem1 ⟨s_Index, fnOk Try.func144 rfl rfl⟩ mem0)
set_option maxRecDepth 100000 in
set_option pp.maxSteps 1500 in
theorem s_SCut : HSound Try.prog 134 (callM [] false hCut) := by
  refine callM_sound cx_s_SCut_ok mixed Try.func134 rfl fun args hl K hp => ?_
  unfold hCut at hp
  split at hp
  · rename_i s t
    obtain ⟨rfl, hs, hp1, hp2⟩ := hp
    refine And.intro rfl (And.intro hs ?_)
    refine And.intro (fun h1 => ?_) (fun h1 => ?_)
    · have h1 := of_decide_eq_true h1
      obtain ⟨p, hpq⟩ := Int.eq_ofNat_of_zero_le h1
      obtain ⟨q1, q2, q3⟩ := dotI_lt hpq
      have e0 : (dotI s).toNat = p := by omega
      have hp := hp1 h1
      simp only [headS, tailS, e0] at hp
      clear hp1 hp2
      refine And.intro (show Region.lexB _ _ = true from by kernel_rfl) ?_
      refine Exists.intro p (And.intro hpq ?_)
      refine And.intro (by omega) (And.intro (by omega) ?_)
      have hw : IntKind.i64.wrap (dotI s + (strD.size : Int)) = ((p + 1 : Nat) : Int) := by rw [show (strD.size : Int) = 1 from rfl, wrap64 (by omega)]; omega
      refine Exists.intro (p + 1) (And.intro hw ?_)
      refine And.intro (by omega) (And.intro (by omega) ?_)
      exact hp
    · have h1 := of_decide_eq_false h1
      exact hp2 (by omega)
  · exact hp.elim
def cx_s_strCut : Ctx := mkC [(134, callM [] false hCut)]
theorem cx_s_strCut_ok : CtxOk Try.prog cx_s_strCut := mkC_ok (mem1 ⟨s_SCut, fnOk Try.func134 rfl rfl⟩ mem0)
set_option maxRecDepth 100000 in
set_option pp.maxSteps 1500 in
theorem s_strCut : HSound Try.prog 93 (callM [] false hCut) := by
  refine callM_sound cx_s_strCut_ok mixed Try.func93 rfl fun args hl K hp => ?_
  unfold hCut at hp
  split at hp
  · rename_i s t
    obtain ⟨rfl, hs, hp1, hp2⟩ := hp
    refine And.intro rfl (And.intro hs (And.intro (fun h => ?_) (fun h => ?_)))
    · exact hp1 h
    · exact hp2 h
  · exact hp.elim
def hHalves : CH := fun args hl K => match args, hl with
  | [.v (.string s)], [] => s.size ≤ 1048576 ∧ ∀ a b, (fullOk s = true → a = headS s ∧ b = tailS s) → K (.tup [.v (.string a), .v (.string b), .v (.bool (fullOk s))]) []
  | _, _ => False
def cx_s_halves : Ctx := mkC [(93, callM [] false hCut), (42, callM [] false hName)]
theorem cx_s_halves_ok : CtxOk Try.prog cx_s_halves := mkC_ok (mem1 ⟨s_strCut, fnOk Try.func93 rfl rfl⟩ (mem1 ⟨s_isName, fnOk Try.func42 rfl rfl⟩ mem0))
set_option maxRecDepth 100000 in
set_option pp.maxSteps 1500 in
theorem s_halves : HSound Try.prog 44 (callM [] false hHalves) := by
  refine callM_sound cx_s_halves_ok mixed Try.func44 rfl fun args hl K hp => ?_
  unfold hHalves at hp
  split at hp
  · rename_i s
    obtain ⟨hs, hp⟩ := hp
    refine And.intro rfl (And.intro hs (And.intro (fun h1 => ?_) (fun h1 => ?_)))
    · obtain ⟨p, hpq⟩ := Int.eq_ofNat_of_zero_le h1
      obtain ⟨q1, q2, q3⟩ := dotI_lt hpq
      have e0 : (dotI s).toNat = p := by omega
      have ef : fullOk s = (nameOk (headS s) && nameOk (tailS s)) := by
        simp only [fullOk, headS, tailS, decide_eq_true h1, Bool.true_and]
      have hp := hp (headS s) (tailS s) (fun _ => ⟨rfl, rfl⟩)
      rw [ef] at hp
      have s1 : (headS s).size ≤ 1048576 := by simp only [headS, ByteArray.size_extract]; omega
      have s2 : (tailS s).size ≤ 1048576 := by simp only [tailS, ByteArray.size_extract]; omega
      generalize headS s = a at *
      generalize tailS s = b at *
      clear ef
      refine And.intro (fun h3 => ?_) (fun h3 => by cases h3)
      refine And.intro s1 ?_
      refine And.intro (fun h4 => ?_) (fun h4 => by cases h4)
      refine And.intro (fun h5 => ?_) (fun h5 => ?_)
      · refine And.intro s2 ?_
        refine And.intro (fun h6 => ?_) (fun h6 => by cases h6)
        rw [h5] at hp
        exact hp
      · refine And.intro (fun h6 => by cases h6) (fun h6 => ?_)
        rw [h5] at hp
        exact hp
    · have ef : fullOk s = false := by
        simp only [fullOk, decide_eq_false (by omega : ¬ 0 ≤ dotI s), Bool.false_and]
      have hp := hp s .empty (fun h => by rw [ef] at h; cases h)
      rw [ef] at hp
      repeat' ((first | refine And.intro (fun h1 => ?_) (fun h1 => ?_) | refine And.intro (by decide) ?_ | refine And.intro (show wfB _ = true from by kernel_rfl) ?_ | refine And.intro (And.intro rfl rfl) ?_ | exact And.intro rfl rfl | apply HeldC.intro | exact AV.top | (apply HeldF.intro; refine Exists.intro _ (And.intro (by assumption) ?_); refine And.intro (by decide) ?_; exact And.intro rfl rfl) | (refine And.intro (by (refine Exists.intro _ (And.intro (by assumption) ?_); refine And.intro (by decide) ?_; exact And.intro rfl rfl)) ?_) | refine Or.inl ?_) <;> try cases h1)
      all_goals exact hp
  · exact hp.elim
end Go.Proofs.Ytijjonafmmhhbaa.Ab
