/- Functions walked, part 10. No condition. -/
import Derived.Test.YtbfjkjdbdejnmaaGreatWalk3
import Derived.Test.YtbfjkjdbdejnmaaGreatWalk9
import Derived.Test.YtbfjkjdbdejnmaaGreatWalk1
import Derived.Test.YtbfjkjdbdejnmaaGreatWalk6
import Derived.Test.YtbfjkjdbdejnmaaGreatWalk8
import Derived.Test.YtbfjkjdbdejnmaaGreatWalk2
set_option linter.unusedVariables false
set_option linter.unusedSimpArgs false
/- Slots, frames: laid, compared, marked and found again. No condition. -/
namespace Go.Proofs.YtbfjkjdbdejnmaaGreat.Ab
set_option linter.unusedVariables false
set_option linter.unusedSimpArgs false

structure Sl where
  used : Bool
  mod : Int
  bank : Int
  turn : Int
def slC (s : Sl) : List AV := [.v (.bool s.used), .v (.int .i64 s.mod), .v (.int .i64 s.bank), .v (.int .i64 s.turn)]
structure Fr where
  mod : Int
  bank : Int
  pos : Int
  base : Int
def frC (s : Fr) : List AV := [.v (.int .i64 s.mod), .v (.int .i64 s.bank), .v (.int .i64 s.pos), .v (.int .i64 s.base)]
/-! ### Slot: slices of plain structs (printed by gen/slice.py) -/

def zeroSlot : Sl := ⟨false, 0, 0, 0⟩
theorem closed_Slot (bs : List Sl) : ClosedL (bs.map slC) := by
  intro e he x hx
  obtain ⟨b, _, rfl⟩ := List.mem_map.1 he
  simp [slC] at hx
  rcases hx with rfl | rfl | rfl | rfl <;> rfl
def hConvSlot : CH := fun args hl K => match args, hl with
  | [.agg [.v a0, .v a1, .v a2, .v a3]], [] => K (.agg [.v a0, .v a1, .v a2, .v a3]) []
  | _, _ => False
def cx_s_toSlot : Ctx := mkC []
theorem cx_s_toSlot_ok : CtxOk Tryz.prog cx_s_toSlot := cx0_ok
set_option maxRecDepth 100000 in
set_option pp.maxSteps 1500 in
theorem s_toSlot : HSound Tryz.prog 125 (callM [] false hConvSlot) := by
  refine callM_sound cx_s_toSlot_ok mixed Tryz.func125 rfl fun args hl K hp => ?_
  unfold hConvSlot at hp
  split at hp
  · exact hp
  · exact hp.elim

def hToSlot : CH := fun args hl K => match args, hl with
  | [.imm _ _ 4 l], [] => ∃ bs : List Sl, l = bs.map slC ∧ bs.length ≤ 1048576 ∧ K (.slc 0 0 bs.length false) [.lst 4 (bs.map slC)]
  | _, _ => False
def cx_s_toSlotS : Ctx := mkC [(125, callM [] false hConvSlot)]
theorem cx_s_toSlotS_ok : CtxOk Tryz.prog cx_s_toSlotS := mkC_ok (mem1 ⟨s_toSlot, fnOk Tryz.func125 rfl rfl⟩ mem0)
set_option maxRecDepth 100000 in
set_option pp.maxSteps 1500 in
theorem s_toSlotS : HSound Tryz.prog 75 (callM [] true hToSlot) := by
  refine callM_sound cx_s_toSlotS_ok mixed Tryz.func75 rfl fun args hl K hp => ?_
  unfold hToSlot at hp
  split at hp
  · rename_i t z l
    obtain ⟨bs, rfl, hb, hp⟩ := hp
    refine Or.inl ?_
    refine Exists.intro bs.length (And.intro (by simp) (And.intro (by simp) (And.intro (by simp only; omega) ?_)))
    refine Exists.intro false (Exists.intro [0, 3, 4] (Exists.intro (fun m vs h => ∃ i : Nat, i ≤ bs.length ∧ m = bs.length - i ∧ vs = [.imm t z 4 (bs.map slC), .slc 0 0 bs.length true, .v (.int .i64 i)] ∧ h = [.lst 4 ((bs.take i).map slC ++ List.replicate (bs.length - i) (slC zeroSlot))]) (And.intro ?_ ?_)))
    · refine Exists.intro bs.length ?_
      exact ⟨0, by omega, rfl, rfl, rfl⟩
    · intro m vs h hI
      obtain ⟨i, hi, rfl, rfl, rfl⟩ := hI
      refine And.intro (fun h1 => ?_) (fun h1 => ?_)
      · simp only [decide_eq_true_eq, List.length_map] at h1
        have hlt : i < bs.length := by omega
        obtain ⟨b, hbi⟩ : ∃ b, bs[i]? = some b := ⟨_, List.getElem?_eq_getElem hlt⟩
        refine Exists.intro i (And.intro rfl (Exists.intro (slC b) (And.intro (by simp [hbi]) ?_)))
        refine Exists.intro i (And.intro rfl (And.intro hlt ?_))
        refine Exists.intro (slC zeroSlot) (And.intro (by rw [Nat.zero_add, List.getElem?_append_right (by simp; omega), List.getElem?_replicate, if_pos (by simp; omega)]) (And.intro (by decide) ?_))
        refine Exists.intro (bs.length - (i + 1)) (And.intro (by omega) ?_)
        refine ⟨i + 1, by omega, rfl, ?_, ?_⟩
        · rw [← wrap_succ hlt (by omega)]
        · rw [← fill_step slC (slC zeroSlot) bs i b hbi, Nat.zero_add]
          rfl
      · simp only [decide_eq_false_iff_not, List.length_map] at h1
        have : i = bs.length := by omega
        subst this
        have e : (bs.take bs.length).map slC ++ List.replicate (bs.length - bs.length) (slC zeroSlot) = bs.map slC := by simp
        rw [← e] at hp
        refine And.intro (e ▸ closed_Slot bs) ?_
        exact hp
  · exact hp.elim

def cx_iEqSlot : Ctx := mkC []
theorem cx_iEqSlot_ok : CtxOk Tryz.prog cx_iEqSlot := cx0_ok
def iEqSlot : Handler := inlH cx_iEqSlot Tryz.f134.ntmps Tryz.f134.results.toList (Tryz.f134.body.getD .skip)
theorem s_iEqSlot : HSound Tryz.prog 134 iEqSlot := inlF cx_iEqSlot_ok mixed Tryz.func134 rfl
def hEqSlot : CH := fun args hl K => match args, hl with
  | [.imm _ _ 4 l, .imm _ _ 4 r], [] => ∃ bs : List Sl, l = bs.map slC ∧ r = bs.map slC ∧ bs.length ≤ 1048576 ∧ K (.v (.bool true)) []
  | _, _ => False
def cx_s_eqSlotS : Ctx := mkC [(134, iEqSlot)]
theorem cx_s_eqSlotS_ok : CtxOk Tryz.prog cx_s_eqSlotS := mkC_ok (mem1 ⟨s_iEqSlot, fnOk Tryz.func134 rfl rfl⟩ mem0)
set_option maxRecDepth 100000 in
set_option pp.maxSteps 1500 in
theorem s_eqSlotS : HSound Tryz.prog 80 (callM [] true hEqSlot) := by
  refine callM_sound cx_s_eqSlotS_ok mixed Tryz.func80 rfl fun args hl K hp => ?_
  unfold hEqSlot at hp
  split at hp
  · rename_i t z l t' z' r
    obtain ⟨bs, rfl, rfl, hb, hp⟩ := hp
    refine And.intro (fun h1 => ?_) (fun h1 => ?_)
    · simp at h1
    · clear h1
      refine Exists.intro true (Exists.intro [0, 1, 5] (Exists.intro (fun m vs h => ∃ i : Nat, i ≤ bs.length ∧ m = bs.length - i ∧ vs = [.imm t z 4 (bs.map slC), .imm t' z' 4 (bs.map slC), .v (.int .i64 i)] ∧ h = []) (And.intro ?_ ?_)))
      · refine Exists.intro [] (Exists.intro bs.length ?_)
        exact ⟨0, by omega, rfl, rfl, rfl⟩
      · intro m vs h hI
        obtain ⟨i, hi, rfl, rfl, rfl⟩ := hI
        refine And.intro (fun h1 => ?_) (fun h1 => ?_)
        · simp only [decide_eq_true_eq, List.length_map] at h1
          have hlt : i < bs.length := by omega
          obtain ⟨b, hbi⟩ : ∃ b, bs[i]? = some b := ⟨_, List.getElem?_eq_getElem hlt⟩
          refine Or.inl ?_
          refine And.intro (show wfB _ = true from by kernel_rfl) ?_
          refine Exists.intro i (And.intro rfl (Exists.intro (slC b) (And.intro (get_map hbi) ?_)))
          refine Exists.intro i (And.intro rfl (Exists.intro (slC b) (And.intro (get_map hbi) ?_)))
          apply HeldC.intro
          · repeat' (first | refine And.intro (fun h1 => absurd h1 (by simp; done)) (fun h1 => ?_) | exact And.intro rfl rfl)
          repeat' (first
            | refine And.intro (fun h1 => ?_) (fun h1 => ?_)
            | refine And.intro (Exists.intro i (And.intro rfl (Exists.intro (slC b) (And.intro (get_map hbi) (And.intro rfl rfl))))) ?_
            | refine And.intro (And.intro rfl rfl) ?_)
          · cases h1
          · refine Exists.intro [] (Exists.intro (bs.length - (i + 1)) (And.intro (by omega) ?_))
            exact ⟨i + 1, by omega, rfl, by rw [wrap_succ hlt (by omega)], rfl⟩
        · exact hp
  · exact hp.elim

/-! ### Frame: slices of plain structs (printed by gen/slice.py) -/

def zeroFrame : Fr := ⟨0, 0, 0, 0⟩
theorem closed_Frame (bs : List Fr) : ClosedL (bs.map frC) := by
  intro e he x hx
  obtain ⟨b, _, rfl⟩ := List.mem_map.1 he
  simp [frC] at hx
  rcases hx with rfl | rfl | rfl | rfl <;> rfl
def hConvFrame : CH := fun args hl K => match args, hl with
  | [.agg [.v a0, .v a1, .v a2, .v a3]], [] => K (.agg [.v a0, .v a1, .v a2, .v a3]) []
  | _, _ => False
def cx_s_toFrame : Ctx := mkC []
theorem cx_s_toFrame_ok : CtxOk Tryz.prog cx_s_toFrame := cx0_ok
set_option maxRecDepth 100000 in
set_option pp.maxSteps 1500 in
theorem s_toFrame : HSound Tryz.prog 126 (callM [] false hConvFrame) := by
  refine callM_sound cx_s_toFrame_ok mixed Tryz.func126 rfl fun args hl K hp => ?_
  unfold hConvFrame at hp
  split at hp
  · exact hp
  · exact hp.elim

def hToFrame : CH := fun args hl K => match args, hl with
  | [.imm _ _ 4 l], [] => ∃ bs : List Fr, l = bs.map frC ∧ bs.length ≤ 1048576 ∧ K (.slc 0 0 bs.length false) [.lst 4 (bs.map frC)]
  | _, _ => False
def cx_s_toFrameS : Ctx := mkC [(126, callM [] false hConvFrame)]
theorem cx_s_toFrameS_ok : CtxOk Tryz.prog cx_s_toFrameS := mkC_ok (mem1 ⟨s_toFrame, fnOk Tryz.func126 rfl rfl⟩ mem0)
set_option maxRecDepth 100000 in
set_option pp.maxSteps 1500 in
theorem s_toFrameS : HSound Tryz.prog 76 (callM [] true hToFrame) := by
  refine callM_sound cx_s_toFrameS_ok mixed Tryz.func76 rfl fun args hl K hp => ?_
  unfold hToFrame at hp
  split at hp
  · rename_i t z l
    obtain ⟨bs, rfl, hb, hp⟩ := hp
    refine Or.inl ?_
    refine Exists.intro bs.length (And.intro (by simp) (And.intro (by simp) (And.intro (by simp only; omega) ?_)))
    refine Exists.intro false (Exists.intro [0, 3, 4] (Exists.intro (fun m vs h => ∃ i : Nat, i ≤ bs.length ∧ m = bs.length - i ∧ vs = [.imm t z 4 (bs.map frC), .slc 0 0 bs.length true, .v (.int .i64 i)] ∧ h = [.lst 4 ((bs.take i).map frC ++ List.replicate (bs.length - i) (frC zeroFrame))]) (And.intro ?_ ?_)))
    · refine Exists.intro bs.length ?_
      exact ⟨0, by omega, rfl, rfl, rfl⟩
    · intro m vs h hI
      obtain ⟨i, hi, rfl, rfl, rfl⟩ := hI
      refine And.intro (fun h1 => ?_) (fun h1 => ?_)
      · simp only [decide_eq_true_eq, List.length_map] at h1
        have hlt : i < bs.length := by omega
        obtain ⟨b, hbi⟩ : ∃ b, bs[i]? = some b := ⟨_, List.getElem?_eq_getElem hlt⟩
        refine Exists.intro i (And.intro rfl (Exists.intro (frC b) (And.intro (by simp [hbi]) ?_)))
        refine Exists.intro i (And.intro rfl (And.intro hlt ?_))
        refine Exists.intro (frC zeroFrame) (And.intro (by rw [Nat.zero_add, List.getElem?_append_right (by simp; omega), List.getElem?_replicate, if_pos (by simp; omega)]) (And.intro (by decide) ?_))
        refine Exists.intro (bs.length - (i + 1)) (And.intro (by omega) ?_)
        refine ⟨i + 1, by omega, rfl, ?_, ?_⟩
        · rw [← wrap_succ hlt (by omega)]
        · rw [← fill_step frC (frC zeroFrame) bs i b hbi, Nat.zero_add]
          rfl
      · simp only [decide_eq_false_iff_not, List.length_map] at h1
        have : i = bs.length := by omega
        subst this
        have e : (bs.take bs.length).map frC ++ List.replicate (bs.length - bs.length) (frC zeroFrame) = bs.map frC := by simp
        rw [← e] at hp
        refine And.intro (e ▸ closed_Frame bs) ?_
        exact hp
  · exact hp.elim

def cx_iEqFrame : Ctx := mkC []
theorem cx_iEqFrame_ok : CtxOk Tryz.prog cx_iEqFrame := cx0_ok
def iEqFrame : Handler := inlH cx_iEqFrame Tryz.f135.ntmps Tryz.f135.results.toList (Tryz.f135.body.getD .skip)
theorem s_iEqFrame : HSound Tryz.prog 135 iEqFrame := inlF cx_iEqFrame_ok mixed Tryz.func135 rfl
def hEqFrame : CH := fun args hl K => match args, hl with
  | [.imm _ _ 4 l, .imm _ _ 4 r], [] => ∃ bs : List Fr, l = bs.map frC ∧ r = bs.map frC ∧ bs.length ≤ 1048576 ∧ K (.v (.bool true)) []
  | _, _ => False
def cx_s_eqFrameS : Ctx := mkC [(135, iEqFrame)]
theorem cx_s_eqFrameS_ok : CtxOk Tryz.prog cx_s_eqFrameS := mkC_ok (mem1 ⟨s_iEqFrame, fnOk Tryz.func135 rfl rfl⟩ mem0)
set_option maxRecDepth 100000 in
set_option pp.maxSteps 1500 in
theorem s_eqFrameS : HSound Tryz.prog 81 (callM [] true hEqFrame) := by
  refine callM_sound cx_s_eqFrameS_ok mixed Tryz.func81 rfl fun args hl K hp => ?_
  unfold hEqFrame at hp
  split at hp
  · rename_i t z l t' z' r
    obtain ⟨bs, rfl, rfl, hb, hp⟩ := hp
    refine And.intro (fun h1 => ?_) (fun h1 => ?_)
    · simp at h1
    · clear h1
      refine Exists.intro true (Exists.intro [0, 1, 5] (Exists.intro (fun m vs h => ∃ i : Nat, i ≤ bs.length ∧ m = bs.length - i ∧ vs = [.imm t z 4 (bs.map frC), .imm t' z' 4 (bs.map frC), .v (.int .i64 i)] ∧ h = []) (And.intro ?_ ?_)))
      · refine Exists.intro [] (Exists.intro bs.length ?_)
        exact ⟨0, by omega, rfl, rfl, rfl⟩
      · intro m vs h hI
        obtain ⟨i, hi, rfl, rfl, rfl⟩ := hI
        refine And.intro (fun h1 => ?_) (fun h1 => ?_)
        · simp only [decide_eq_true_eq, List.length_map] at h1
          have hlt : i < bs.length := by omega
          obtain ⟨b, hbi⟩ : ∃ b, bs[i]? = some b := ⟨_, List.getElem?_eq_getElem hlt⟩
          refine Or.inl ?_
          refine And.intro (show wfB _ = true from by kernel_rfl) ?_
          refine Exists.intro i (And.intro rfl (Exists.intro (frC b) (And.intro (get_map hbi) ?_)))
          refine Exists.intro i (And.intro rfl (Exists.intro (frC b) (And.intro (get_map hbi) ?_)))
          apply HeldC.intro
          · repeat' (first | refine And.intro (fun h1 => absurd h1 (by simp; done)) (fun h1 => ?_) | exact And.intro rfl rfl)
          repeat' (first
            | refine And.intro (fun h1 => ?_) (fun h1 => ?_)
            | refine And.intro (Exists.intro i (And.intro rfl (Exists.intro (frC b) (And.intro (get_map hbi) (And.intro rfl rfl))))) ?_
            | refine And.intro (And.intro rfl rfl) ?_)
          · cases h1
          · refine Exists.intro [] (Exists.intro (bs.length - (i + 1)) (And.intro (by omega) ?_))
            exact ⟨i + 1, by omega, rfl, by rw [wrap_succ hlt (by omega)], rfl⟩
        · exact hp
  · exact hp.elim

def hSzB4 : CH := fun args hl K => match args, hl with
  | [.imm _ _ 4 l, .v (.int .i64 n)], [] => 0 ≤ n ∧ n ≤ 1048576 ∧ (l.length : Int) ≤ 9223372036854775807 ∧ K (.v (.int .i64 (szB n l.length))) []
  | _, _ => False
def cx_s_szSlotS : Ctx := mkC []
theorem cx_s_szSlotS_ok : CtxOk Tryz.prog cx_s_szSlotS := cx0_ok
set_option maxRecDepth 100000 in
set_option pp.maxSteps 1500 in
theorem s_szSlotS : HSound Tryz.prog 69 (callM [] true hSzB4) := by
  refine callM_sound cx_s_szSlotS_ok mixed Tryz.func69 rfl fun args hl K hp => ?_
  unfold hSzB4 at hp
  split at hp
  · rename_i l n
    obtain ⟨h0, h1, h2, hp⟩ := hp
    have hw : IntKind.i64.wrap (n - l.length) = n - l.length := wrap64 (by omega)
    repeat' ((first | refine And.intro (fun h1 => ?_) (fun h1 => ?_) | refine And.intro (by decide) ?_ | refine And.intro (show wfB _ = true from by kernel_rfl) ?_ | refine And.intro (And.intro rfl rfl) ?_ | exact And.intro rfl rfl | apply HeldC.intro | exact AV.top | (apply HeldF.intro; refine Exists.intro _ (And.intro (by assumption) ?_); refine And.intro (by decide) ?_; exact And.intro rfl rfl) | (refine And.intro (by (refine Exists.intro _ (And.intro (by assumption) ?_); refine And.intro (by decide) ?_; exact And.intro rfl rfl)) ?_) | refine Or.inl ?_) <;> try cases h1)
    all_goals refine fin_i hp ?_
    all_goals clear hp
    all_goals rw [hw] at *
    all_goals simp only [szB, decide_eq_true_eq, decide_eq_false_iff_not] at *
    all_goals split <;> omega
  · exact hp.elim
def cx_s_szFrameS : Ctx := mkC []
theorem cx_s_szFrameS_ok : CtxOk Tryz.prog cx_s_szFrameS := cx0_ok
set_option maxRecDepth 100000 in
set_option pp.maxSteps 1500 in
theorem s_szFrameS : HSound Tryz.prog 70 (callM [] true hSzB4) := by
  refine callM_sound cx_s_szFrameS_ok mixed Tryz.func70 rfl fun args hl K hp => ?_
  unfold hSzB4 at hp
  split at hp
  · rename_i l n
    obtain ⟨h0, h1, h2, hp⟩ := hp
    have hw : IntKind.i64.wrap (n - l.length) = n - l.length := wrap64 (by omega)
    repeat' ((first | refine And.intro (fun h1 => ?_) (fun h1 => ?_) | refine And.intro (by decide) ?_ | refine And.intro (show wfB _ = true from by kernel_rfl) ?_ | refine And.intro (And.intro rfl rfl) ?_ | exact And.intro rfl rfl | apply HeldC.intro | exact AV.top | (apply HeldF.intro; refine Exists.intro _ (And.intro (by assumption) ?_); refine And.intro (by decide) ?_; exact And.intro rfl rfl) | (refine And.intro (by (refine Exists.intro _ (And.intro (by assumption) ?_); refine And.intro (by decide) ?_; exact And.intro rfl rfl)) ?_) | refine Or.inl ?_) <;> try cases h1)
    all_goals refine fin_i hp ?_
    all_goals clear hp
    all_goals rw [hw] at *
    all_goals simp only [szB, decide_eq_true_eq, decide_eq_false_iff_not] at *
    all_goals split <;> omega
  · exact hp.elim
def hEqCfg : CH := fun args hl K => match args, hl with
  | [.agg [.v (.int .i64 a), .v (.int .i64 b), .v (.int .i64 c), .v (.int .i64 d)], .agg [.v (.int .i64 a'), .v (.int .i64 b'), .v (.int .i64 c'), .v (.int .i64 d')]], [] => a = a' ∧ b = b' ∧ c = c' ∧ d = d' ∧ K (.v (.bool true)) []
  | _, _ => False
def cx_s_eqConfig : Ctx := mkC []
theorem cx_s_eqConfig_ok : CtxOk Tryz.prog cx_s_eqConfig := cx0_ok
set_option maxRecDepth 100000 in
set_option pp.maxSteps 1500 in
theorem s_eqConfig : HSound Tryz.prog 78 (callM [] false hEqCfg) := by
  refine callM_sound cx_s_eqConfig_ok mixed Tryz.func78 rfl fun args hl K hp => ?_
  unfold hEqCfg at hp
  split at hp
  · obtain ⟨rfl, rfl, rfl, rfl, hp⟩ := hp
    repeat' ((first | refine And.intro (fun h1 => ?_) (fun h1 => ?_) | refine And.intro (by decide) ?_ | refine And.intro (show wfB _ = true from by kernel_rfl) ?_ | refine And.intro (And.intro rfl rfl) ?_ | exact And.intro rfl rfl | apply HeldC.intro | exact AV.top | (apply HeldF.intro; refine Exists.intro _ (And.intro (by assumption) ?_); refine And.intro (by decide) ?_; exact And.intro rfl rfl) | (refine And.intro (by (refine Exists.intro _ (And.intro (by assumption) ?_); refine And.intro (by decide) ?_; exact And.intro rfl rfl)) ?_) | refine Or.inl ?_) <;> try cases h1)
    all_goals first | exact hp | (exfalso; simp at h1; done)
  · exact hp.elim
end Go.Proofs.YtbfjkjdbdejnmaaGreat.Ab

/- Words: what the bit operations make of them. No condition. -/
namespace Go.Proofs.YtbfjkjdbdejnmaaGreat.Ab

theorem nat64 (n : Nat) (h : n < 18446744073709551616) : (BitVec.ofInt IntKind.i64.bits (n : Int)).toNat = n := by
  rw [BitVec.ofInt_natCast, BitVec.toNat_ofNat]
  exact Nat.mod_eq_of_lt (by simp only [IntKind.bits]; omega)
theorem andN (x y : Nat) (hx : x < 4294967296) (hy : y < 4294967296) : IntKind.i64.wrap ((BitVec.ofInt IntKind.i64.bits (x : Int) &&& BitVec.ofInt IntKind.i64.bits (y : Int)).toNat : Nat) = ((x &&& y : Nat) : Int) := by
  rw [BitVec.toNat_and, nat64 x (by omega), nat64 y (by omega)]
  have h := Nat.and_lt_two_pow (n := 32) x (y := y) (by omega)
  exact wrap64 (by omega)
theorem orN (x y : Nat) (hx : x < 4294967296) (hy : y < 4294967296) : IntKind.i64.wrap ((BitVec.ofInt IntKind.i64.bits (x : Int) ||| BitVec.ofInt IntKind.i64.bits (y : Int)).toNat : Nat) = ((x ||| y : Nat) : Int) := by
  rw [BitVec.toNat_or, nat64 x (by omega), nat64 y (by omega)]
  have h := Nat.or_lt_two_pow (n := 32) (x := x) (y := y) (by omega) (by omega)
  exact wrap64 (by omega)
theorem xorN (x y : Nat) (hx : x < 4294967296) (hy : y < 4294967296) : IntKind.i64.wrap ((BitVec.ofInt IntKind.i64.bits (x : Int) ^^^ BitVec.ofInt IntKind.i64.bits (y : Int)).toNat : Nat) = ((x ^^^ y : Nat) : Int) := by
  rw [BitVec.toNat_xor, nat64 x (by omega), nat64 y (by omega)]
  have h := Nat.xor_lt_two_pow (n := 32) (x := x) (y := y) (by omega) (by omega)
  exact wrap64 (by omega)
theorem bit_lt (x y : Nat) (hx : x < 4294967296) (hy : y < 4294967296) : (x &&& y) < 4294967296 ∧ (x ||| y) < 4294967296 ∧ (x ^^^ y) < 4294967296 :=
  ⟨Nat.and_lt_two_pow (n := 32) x (y := y) (by omega), Nat.or_lt_two_pow (n := 32) (x := x) (y := y) (by omega) (by omega), Nat.xor_lt_two_pow (n := 32) (x := x) (y := y) (by omega) (by omega)⟩
/-- The last thirty-two bits, of whatever number. -/
theorem maskI (x : Int) : IntKind.i64.wrap ((BitVec.ofInt IntKind.i64.bits x &&& BitVec.ofInt IntKind.i64.bits 4294967295).toNat : Nat) = x % 4294967296 := by
  have e : (BitVec.ofInt IntKind.i64.bits 4294967295).toNat = 2 ^ 32 - 1 := by decide
  rw [BitVec.toNat_and, e, Nat.and_two_pow_sub_one_eq_mod, BitVec.toNat_ofInt]
  simp only [IntKind.bits]
  rw [wrap64 (by omega)]
  omega
theorem mask5 (x : Int) : IntKind.i64.wrap ((BitVec.ofInt IntKind.i64.bits x &&& BitVec.ofInt IntKind.i64.bits 31).toNat : Nat) = x % 32 := by
  have e : (BitVec.ofInt IntKind.i64.bits 31).toNat = 2 ^ 5 - 1 := by decide
  rw [BitVec.toNat_and, e, Nat.and_two_pow_sub_one_eq_mod, BitVec.toNat_ofInt]
  simp only [IntKind.bits]
  rw [wrap64 (by omega)]
  omega
theorem wrap_mod (x : Int) : IntKind.i64.wrap x % 4294967296 = x % 4294967296 := by
  simp only [IntKind.wrap, IntKind.bits, IntKind.signed, Bool.true_and]
  split <;> omega
end Go.Proofs.YtbfjkjdbdejnmaaGreat.Ab

/- What Step rests on. No condition. -/
namespace Go.Proofs.YtbfjkjdbdejnmaaGreat.Ab
end Go.Proofs.YtbfjkjdbdejnmaaGreat.Ab

/- Step: the small functions of both programs. No condition. -/
namespace Go.Proofs.YtbfjkjdbdejnmaaGreat.Ab
set_option linter.unusedVariables false
set_option linter.unusedSimpArgs false

def wideF (v : Int) : Int := if 32768 ≤ v then v - 65536 else v
def wordB (v : Int) : Bool := decide (0 ≤ v ∧ v ≤ 4294967295)
def coreOk (pc : Int) (rs : List Int) : Bool := wordB pc && decide (rs.length = 8) && rs.all wordB
def hWide : CH := fun args hl K => match args, hl with
  | [.v (.int .i64 v)], [] => 0 ≤ v ∧ v ≤ 65535 ∧ K (.v (.int .i64 (wideF v))) []
  | _, _ => False
def cx_s_widen : Ctx := mkC []
theorem cx_s_widen_ok : CtxOk Tryz.prog cx_s_widen := cx0_ok
set_option maxRecDepth 100000 in
set_option pp.maxSteps 1500 in
theorem s_widen : HSound Tryz.prog 210 (callM [] false hWide) := by
  refine callM_sound cx_s_widen_ok mixed Tryz.func210 rfl fun args hl K hp => ?_
  unfold hWide at hp
  split at hp
  · rename_i v
    obtain ⟨h0, h1, hp⟩ := hp
    repeat' ((first | refine And.intro (fun h1 => ?_) (fun h1 => ?_) | refine And.intro (by decide) ?_ | refine And.intro (show wfB _ = true from by kernel_rfl) ?_ | refine And.intro (And.intro rfl rfl) ?_ | exact And.intro rfl rfl | apply HeldC.intro | exact AV.top | (apply HeldF.intro; refine Exists.intro _ (And.intro (by assumption) ?_); refine And.intro (by decide) ?_; exact And.intro rfl rfl) | (refine And.intro (by (refine Exists.intro _ (And.intro (by assumption) ?_); refine And.intro (by decide) ?_; exact And.intro rfl rfl)) ?_) | refine Or.inl ?_) <;> try cases h1)
    · have h1 := of_decide_eq_true h1
      exact fin_i hp (by rw [wrap64 (by omega)]; exact if_pos (by omega))
    · have h1 := of_decide_eq_false h1
      exact fin_i hp (if_neg (by omega))
  · exact hp.elim
theorem wide_bd {v : Int} (h0 : 0 ≤ v) (h1 : v ≤ 65535) : -32768 ≤ wideF v ∧ wideF v ≤ 32767 := by
  unfold wideF
  split <;> omega
theorem allT {α : Type} {f : α → Bool} {l : List α} {i : Nat} {a : α} (h : l[i]? = some a) (hall : (l.take i).all f = true) (ha : f a = true) : (l.take (i + 1)).all f = true := by
  rw [List.take_add_one, h]
  simp only [Option.toList, List.all_append, hall, Bool.true_and, List.all_cons, List.all_nil, Bool.and_true, ha]
theorem allF {α : Type} {f : α → Bool} {l : List α} {i : Nat} {a : α} (h : l[i]? = some a) (ha : f a = false) : l.all f = false := by
  rw [List.all_eq_false]
  exact ⟨a, List.mem_of_getElem? h, by simp [ha]⟩
def hCoreOk : CH := fun args hl K => match args, hl with
  | [.agg [.v (.int .i64 pc), .imm _ _ 1 R]], [] => ∃ rs : List Int, R = rs.map intC ∧ rs.length ≤ 1048576 ∧ K (.v (.bool (coreOk pc rs))) []
  | _, _ => False
def cx_s_l3CoreOk : Ctx := mkC []
theorem cx_s_l3CoreOk_ok : CtxOk Tryz.prog cx_s_l3CoreOk := cx0_ok
set_option maxRecDepth 100000 in
set_option pp.maxSteps 1500 in
theorem s_l3CoreOk : HSound Tryz.prog 120 (callM [] true hCoreOk) := by
  refine callM_sound cx_s_l3CoreOk_ok mixed Tryz.func120 rfl fun args hl K hp => ?_
  unfold hCoreOk at hp
  split at hp
  · rename_i pc t z R
    obtain ⟨rs, rfl, hl, hp⟩ := hp
    repeat' ((first
      | refine And.intro (fun h1 => ?_) (fun h1 => ?_)
      | fail) <;> try cases h1)
    · have h1 := of_decide_eq_true h1
      refine fin_b hp ?_
      simp only [coreOk, wordB, decide_eq_false (by omega : ¬ (0 ≤ pc ∧ pc ≤ 4294967295)), Bool.false_and]
    · have h1 := of_decide_eq_true h1
      refine fin_b hp ?_
      simp only [coreOk, wordB, decide_eq_false (by omega : ¬ (0 ≤ pc ∧ pc ≤ 4294967295)), Bool.false_and]
    · have h1 : ¬ rs.length = 8 := by simp at h1; omega
      refine fin_b hp ?_
      simp only [coreOk, decide_eq_false h1, Bool.false_and, Bool.and_false]
    · rename_i q1 q2
      have q1 := of_decide_eq_false q1
      have q2 := of_decide_eq_false q2
      have h8 : rs.length = 8 := by simp at h1; omega
      have e : coreOk pc rs = rs.all wordB := by simp only [coreOk, wordB, decide_eq_true (by omega : 0 ≤ pc ∧ pc ≤ 4294967295), decide_eq_true h8, Bool.true_and]
      rw [e] at hp
      refine Exists.intro true (Exists.intro [1, 3] (Exists.intro (fun n vs h => ∃ i : Nat, i ≤ 8 ∧ n = 8 - i ∧ (rs.take i).all wordB = true ∧ vs = [.ptr 0 0 0 2, .v (.int .i64 i)] ∧ h = [.box [.v (.int .i64 pc), .imm t z 1 (rs.map intC)]]) (And.intro ?_ ?_)))
      · refine Exists.intro [] (Exists.intro 8 ?_)
        exact ⟨0, by omega, rfl, rfl, rfl, rfl⟩
      · intro n vs h hI
        obtain ⟨i, hi, rfl, hall, rfl, rfl⟩ := hI
        refine And.intro (fun h2 => ?_) (fun h2 => ?_)
        · have h2 := of_decide_eq_true h2
          have hlt : i < rs.length := by omega
          obtain ⟨b, hbi⟩ : ∃ b, rs[i]? = some b := ⟨_, List.getElem?_eq_getElem hlt⟩
          refine Exists.intro i (And.intro rfl (Exists.intro (intC b) (And.intro (get_map hbi) ?_)))
          repeat' ((first
            | refine And.intro (fun h3 => ?_) (fun h3 => ?_)
            | refine Exists.intro i (And.intro rfl (Exists.intro (intC b) (And.intro (get_map hbi) ?_)))
            | fail) <;> try cases h3)
          · have h3 := of_decide_eq_true h3
            exact fin_b hp (allF hbi (decide_eq_false (by omega)))
          · have h3 := of_decide_eq_true h3
            exact fin_b hp (allF hbi (decide_eq_false (by omega)))
          · rename_i r1
            have r1 := of_decide_eq_false r1
            have h3 := of_decide_eq_false h3
            refine Exists.intro [] (Exists.intro (8 - (i + 1)) (And.intro (by omega) ⟨i + 1, by omega, rfl, allT hbi hall (decide_eq_true (by omega)), ?_, rfl⟩))
            rw [wrap_succ (n := 8) (by omega) (by omega)]
        · have h2 := of_decide_eq_false h2
          rw [List.take_of_length_le (by omega)] at hall
          exact fin_b hp hall
  · exact hp.elim

def hToCore : CH := fun args hl K => match args, hl with
  | [.agg [.v (.int .i64 pc), .imm _ _ 1 R]], [] => ∃ rs : List Int, R = rs.map intC ∧ rs.length ≤ 1048576 ∧ K (.agg [.v (.int .i64 pc), .slc 0 0 rs.length false]) [.lst 1 (rs.map intC)]
  | _, _ => False
def cx_s_toCore : Ctx := mkC [(41, callM [] true hToInt)]
theorem cx_s_toCore_ok : CtxOk Tryz.prog cx_s_toCore := mkC_ok (mem1 ⟨s_toIntS, fnOk Tryz.func41 rfl rfl⟩ mem0)
set_option maxRecDepth 100000 in
set_option pp.maxSteps 1500 in
theorem s_toCore : HSound Tryz.prog 73 (callM [] true hToCore) := by
  refine callM_sound cx_s_toCore_ok mixed Tryz.func73 rfl fun args hl K hp => ?_
  unfold hToCore at hp
  split at hp
  · rename_i pc t z R
    obtain ⟨rs, rfl, hl, hp⟩ := hp
    refine Exists.intro rs (And.intro rfl (And.intro hl ?_))
    refine And.intro (closed_Int _) ?_
    exact hp
  · exact hp.elim

/-! ### What an operation makes of two words -/

def aluF (op imm d a : Int) : Int :=
  if op = 2 then imm else if op = 3 then d % 65536 + imm * 65536 else if op = 4 then a else if op = 5 then (d + a) % 4294967296 else if op = 6 then (a + wideF imm) % 4294967296
  else if op = 7 then (d - a) % 4294967296 else if op = 8 then d * a % 4294967296 else if op = 9 then ((d.toNat &&& a.toNat : Nat) : Int) else if op = 10 then ((d.toNat ||| a.toNat : Nat) : Int)
  else if op = 11 then ((d.toNat ^^^ a.toNat : Nat) : Int) else if op = 12 then d * 2 ^ (a % 32).toNat % 4294967296 else d / 2 ^ (a % 32).toNat
theorem pow32 {n : Nat} (h : n < 32) : (0 : Int) < 2 ^ n ∧ (2 : Int) ^ n ≤ 2147483648 := by
  refine ⟨Int.pow_pos (by omega), ?_⟩
  have := pow_le (show n ≤ 31 by omega)
  have e : (2 : Int) ^ 31 = 2147483648 := by decide
  omega
end Go.Proofs.YtbfjkjdbdejnmaaGreat.Ab

/- Cores: laid, compared, measured, marked and found again; what a law's arguments are. No condition. -/
namespace Go.Proofs.YtbfjkjdbdejnmaaGreat.Ab
set_option linter.unusedVariables false
set_option linter.unusedSimpArgs false

def hSzCore : CH := fun args hl K => match args, hl with
  | [.agg [.v _, .imm _ _ 1 R], .v (.int .i64 n)], [] => 0 ≤ n ∧ n ≤ 1048576 ∧ (R.length : Int) ≤ 9223372036854775807 ∧ K (.v (.int .i64 (szB n R.length))) []
  | _, _ => False
def cx_s_szCore : Ctx := mkC [(35, callM [] true hSzB)]
theorem cx_s_szCore_ok : CtxOk Tryz.prog cx_s_szCore := mkC_ok (mem1 ⟨s_szIntS, fnOk Tryz.func35 rfl rfl⟩ mem0)
set_option maxRecDepth 100000 in
set_option pp.maxSteps 1500 in
theorem s_szCore : HSound Tryz.prog 67 (callM [] true hSzCore) := by
  refine callM_sound cx_s_szCore_ok mixed Tryz.func67 rfl fun args hl K hp => ?_
  unfold hSzCore at hp
  split at hp
  · rename_i _ _ _ R n
    obtain ⟨h0, h1, h2, hp⟩ := hp
    refine And.intro h0 (And.intro h1 (And.intro h2 ?_))
    refine And.intro (fun h3 => ?_) (fun h3 => ?_)
    · have h3 := of_decide_eq_true h3
      refine fin_i hp ?_
      simp only [szB] at *
      split at h3 <;> omega
    · exact hp
  · exact hp.elim
def hEqCore : CH := fun args hl K => match args, hl with
  | [.agg [.v (.int .i64 p), .imm _ _ 1 a], .agg [.v (.int .i64 q), .imm _ _ 1 b]], [] => ∃ rs : List Int, a = rs.map intC ∧ b = rs.map intC ∧ rs.length ≤ 1048576 ∧ p = q ∧ K (.v (.bool true)) []
  | _, _ => False
def cx_s_eqCore : Ctx := mkC [(47, callM [] true hEqInt)]
theorem cx_s_eqCore_ok : CtxOk Tryz.prog cx_s_eqCore := mkC_ok (mem1 ⟨s_eqIntS, fnOk Tryz.func47 rfl rfl⟩ mem0)
set_option maxRecDepth 100000 in
set_option pp.maxSteps 1500 in
theorem s_eqCore : HSound Tryz.prog 79 (callM [] true hEqCore) := by
  refine callM_sound cx_s_eqCore_ok mixed Tryz.func79 rfl fun args hl K hp => ?_
  unfold hEqCore at hp
  split at hp
  · obtain ⟨rs, rfl, rfl, hl, rfl, hp⟩ := hp
    refine And.intro (fun h1 => ?_) (fun h1 => ?_)
    · exfalso; simp at h1
    refine Exists.intro rs (And.intro rfl (And.intro rfl (And.intro hl ?_)))
    refine And.intro (fun h1 => ?_) (fun h1 => ?_)
    · exfalso; simp at h1
    exact hp
  · exact hp.elim
set_option maxRecDepth 100000
end Go.Proofs.YtbfjkjdbdejnmaaGreat.Ab

/- Machines: measured, laid, compared; what a law's argument is. No condition. -/
namespace Go.Proofs.YtbfjkjdbdejnmaaGreat.Ab
set_option linter.unusedVariables false
set_option linter.unusedSimpArgs false
set_option maxRecDepth 100000

structure Mc where
  mods : List Mo
  cfg : Cf
  pc : Int
  regs : List Int
  f : List Int
  r : List Int
  o : List Int
  mod : Int
  bank : Int
  slots : List Sl
  shadow : List Fr
  turn : Int
abbrev mcI (m : Mc) (b1 z1 b2 z2 b3 z3 b4 z4 b5 z5 b6 z6 b7 z7 : Bool) : List AV := [.imm b1 z1 8 (m.mods.map moC), .v (.int .i64 m.cfg.slots), .v (.int .i64 m.cfg.words), .v (.int .i64 m.cfg.stack), .v (.int .i64 m.cfg.depth), .v (.int .i64 m.pc), .imm b2 z2 1 (m.regs.map intC),
  .imm b3 z3 1 (m.f.map byteC), .imm b4 z4 1 (m.r.map byteC), .imm b5 z5 1 (m.o.map byteC), .v (.int .i64 m.mod), .v (.int .i64 m.bank), .imm b6 z6 4 (m.slots.map slC), .imm b7 z7 4 (m.shadow.map frC), .v (.int .i64 m.turn)]
/-- A machine that is read. -/
def McV (a : AV) (m : Mc) : Prop := ∃ b1 z1 b2 z2 b3 z3 b4 z4 b5 z5 b6 z6 b7 z7, a = .agg (mcI m b1 z1 b2 z2 b3 z3 b4 z4 b5 z5 b6 z6 b7 z7)
def wtMc (m : Mc) : Nat := wtModule m.mods + m.regs.length + (m.f.length + m.r.length + m.o.length) + m.slots.length + m.shadow.length
structure bigMc (m : Mc) : Prop where
  mods : m.mods.length ≤ maxLen
  mo : ∀ b ∈ m.mods, bigMo b
  regs : m.regs.length ≤ maxLen
  f : m.f.length ≤ maxLen
  r : m.r.length ≤ maxLen
  o : m.o.length ≤ maxLen
  slots : m.slots.length ≤ maxLen
  shadow : m.shadow.length ≤ maxLen
structure smMc (m : Mc) : Prop where
  mods : m.mods.length ≤ 1048576
  mo : ∀ b ∈ m.mods, smMo b
  wt : wtModule m.mods ≤ 1048576
  regs : m.regs.length ≤ 1048576
  f : m.f.length ≤ 1048576
  r : m.r.length ≤ 1048576
  o : m.o.length ≤ 1048576
  slots : m.slots.length ≤ 1048576
  shadow : m.shadow.length ≤ 1048576
theorem smMc_of {m : Mc} (h : wtMc m ≤ 1048576) : smMc m := by
  simp only [wtMc, wtModule] at h
  refine ⟨by omega, fun b hb => sm_of_wt (by have := le_sum (f := wtMo) hb; omega), by simp only [wtModule]; omega, by omega, by omega, by omega, by omega, by omega, by omega⟩
theorem szM_neg {n : Int} {a b c : Nat} (h0 : 0 ≤ n) (h : szM n a b c < 0) : n < (a + b + c : Nat) := by
  unfold szM at h
  repeat' split at h
  all_goals omega
theorem szM_pos {n : Int} {a b c : Nat} (h0 : 0 ≤ n) (h : ¬ szM n a b c < 0) : szM n a b c = n - (a + b + c : Nat) := by
  unfold szM at *
  repeat' split at h
  all_goals omega
def hSzMc : CH := fun args hl K => match args, hl with
  | [a, .v (.int .i64 n)], [] => ∃ m, McV a m ∧ bigMc m ∧ 0 ≤ n ∧ n ≤ 1048576 ∧ K (.v (.int .i64 (szB n (wtMc m)))) []
  | _, _ => False
def cx_s_szMachine : Ctx := mkC [(7, callM [] true hSzModule), (67, callM [] true hSzCore), (68, callM [] true hSzM), (69, callM [] true hSzB4), (70, callM [] true hSzB4)]
theorem cx_s_szMachine_ok : CtxOk Tryz.prog cx_s_szMachine := mkC_ok (mem1 ⟨s_szModuleS, fnOk Tryz.func7 rfl rfl⟩ (mem1 ⟨s_szCore, fnOk Tryz.func67 rfl rfl⟩ (mem1 ⟨s_szMem, fnOk Tryz.func68 rfl rfl⟩ (mem1 ⟨s_szSlotS, fnOk Tryz.func69 rfl rfl⟩ (mem1 ⟨s_szFrameS, fnOk Tryz.func70 rfl rfl⟩ mem0)))))
set_option maxRecDepth 100000 in
set_option pp.maxSteps 1500 in
set_option maxHeartbeats 8000000 in
theorem s_szMachine : HSound Tryz.prog 28 (callM [] true hSzMc) := by
  refine callM_sound cx_s_szMachine_ok mixed Tryz.func28 rfl fun args hl K hp => ?_
  unfold hSzMc at hp
  split at hp
  · rename_i a n
    obtain ⟨m, ⟨b1, z1, b2, z2, b3, z3, b4, z4, b5, z5, b6, z6, b7, z7, rfl⟩, ⟨g1, g2, g3, g4, g5, g6, g7, g8⟩, hn0, hn1, hp⟩ := hp
    have hml : maxLen ≤ 9223372036854775807 := by decide
    refine Exists.intro m.mods (And.intro rfl (And.intro g2 (And.intro g1 (And.intro hn0 (And.intro hn1 ?_)))))
    refine And.intro (fun h => ?_) (fun h => ?_)
    · have h := szB_lt (by omega) (of_decide_eq_true h)
      refine fin_i hp ?_
      rw [szB_neg (by simp only [wtMc]; omega)]
    have h := of_decide_eq_false h
    have q1 := szB_pos (szB_ge (by omega) h)
    generalize szB n (wtModule m.mods) = c1 at *
    refine And.intro (by omega) (And.intro (by omega) (And.intro (by rw [List.length_map]; omega) ?_))
    refine And.intro (fun h => ?_) (fun h => ?_)
    · have h := of_decide_eq_true h
      rw [List.length_map] at h
      have h := szB_lt (by omega) h
      refine fin_i hp ?_
      rw [szB_neg (by simp only [wtMc]; omega)]
    have h := of_decide_eq_false h
    rw [List.length_map] at *
    have q2 := szB_pos (szB_ge (by omega) h)
    generalize szB c1 m.regs.length = c2 at *
    refine And.intro (by omega) (And.intro (by omega) (And.intro (by rw [List.length_map]; omega) (And.intro (by rw [List.length_map]; omega) (And.intro (by rw [List.length_map]; omega) ?_))))
    refine And.intro (fun h => ?_) (fun h => ?_)
    · have h := of_decide_eq_true h
      simp only [List.length_map] at h
      have h := szM_neg (by omega) h
      refine fin_i hp ?_
      rw [szB_neg (by simp only [wtMc]; omega)]
    have h := of_decide_eq_false h
    simp only [List.length_map] at h
    have q3 := szM_pos (by omega) h
    simp only [List.length_map]
    generalize szM c2 m.f.length m.r.length m.o.length = c3 at *
    refine And.intro (by omega) (And.intro (by omega) (And.intro (by rw [List.length_map]; omega) ?_))
    refine And.intro (fun h => ?_) (fun h => ?_)
    · have h := of_decide_eq_true h
      rw [List.length_map] at h
      have h := szB_lt (by omega) h
      refine fin_i hp ?_
      rw [szB_neg (by simp only [wtMc]; omega)]
    have h := of_decide_eq_false h
    rw [List.length_map] at *
    have q4 := szB_pos (szB_ge (by omega) h)
    generalize szB c3 m.slots.length = c4 at *
    refine And.intro (by omega) (And.intro (by omega) (And.intro (by rw [List.length_map]; omega) ?_))
    refine And.intro (fun h => ?_) (fun h => ?_)
    · have h := of_decide_eq_true h
      rw [List.length_map] at h
      have h := szB_lt (by omega) h
      refine fin_i hp ?_
      rw [szB_neg (by simp only [wtMc]; omega)]
    have h := of_decide_eq_false h
    rw [List.length_map] at *
    have q5 := szB_pos (szB_ge (by omega) h)
    generalize szB c4 m.shadow.length = c5 at *
    refine fin_i hp ?_
    rw [szB_pos (by simp only [wtMc]; omega)]
    simp only [wtMc]
    omega
  · exact hp.elim
abbrev mcR (m : Mc) : AV := .agg [.slc 0 0 m.mods.length false, .v (.int .i64 m.cfg.slots), .v (.int .i64 m.cfg.words), .v (.int .i64 m.cfg.stack), .v (.int .i64 m.cfg.depth), .v (.int .i64 m.pc), .slc 1 0 m.regs.length false,
  .slc 2 0 m.f.length false, .slc 3 0 m.r.length false, .slc 4 0 m.o.length false, .v (.int .i64 m.mod), .v (.int .i64 m.bank), .slc 5 0 m.slots.length false, .slc 6 0 m.shadow.length false, .v (.int .i64 m.turn)]
abbrev mcH (m : Mc) : HP := [.lst 8 (m.mods.map moC), .lst 1 (m.regs.map intC), .lst 1 (m.f.map byteC), .lst 1 (m.r.map byteC), .lst 1 (m.o.map byteC), .lst 4 (m.slots.map slC), .lst 4 (m.shadow.map frC)]
def hToMc : CH := fun args hl K => match args, hl with
  | [a], [] => ∃ m, McV a m ∧ smMc m ∧ K (mcR m) (mcH m)
  | _, _ => False
def cx_s_toMachine : Ctx := mkC [(10, callM [] true hToModule), (72, callM [] false hToCfg), (73, callM [] true hToCore), (74, callM [] true hToM), (75, callM [] true hToSlot), (76, callM [] true hToFrame)]
theorem cx_s_toMachine_ok : CtxOk Tryz.prog cx_s_toMachine := mkC_ok (mem1 ⟨s_toModuleS, fnOk Tryz.func10 rfl rfl⟩ (mem1 ⟨s_toConfig, fnOk Tryz.func72 rfl rfl⟩ (mem1 ⟨s_toCore, fnOk Tryz.func73 rfl rfl⟩ (mem1 ⟨s_toMem, fnOk Tryz.func74 rfl rfl⟩ (mem1 ⟨s_toSlotS, fnOk Tryz.func75 rfl rfl⟩ (mem1 ⟨s_toFrameS, fnOk Tryz.func76 rfl rfl⟩ mem0))))))
set_option maxRecDepth 100000 in
set_option pp.maxSteps 1500 in
set_option maxHeartbeats 8000000 in
theorem s_toMachine : HSound Tryz.prog 30 (callM [] true hToMc) := by
  refine callM_sound cx_s_toMachine_ok mixed Tryz.func30 rfl fun args hl K hp => ?_
  unfold hToMc at hp
  split at hp
  · rename_i a
    obtain ⟨m, ⟨b1, z1, b2, z2, b3, z3, b4, z4, b5, z5, b6, z6, b7, z7, rfl⟩, ⟨g1, g2, _, g3, g4, g5, g6, g7, g8⟩, hp⟩ := hp
    repeat' (first
      | refine Exists.intro m.mods (And.intro rfl (And.intro g2 (And.intro g1 ?_)))
      | refine Exists.intro m.regs (And.intro rfl (And.intro g3 ?_))
      | (refine Exists.intro m.f ?_; refine Exists.intro m.r ?_; refine Exists.intro m.o ?_; refine And.intro rfl (And.intro rfl (And.intro rfl (And.intro g4 (And.intro g5 (And.intro g6 ?_))))))
      | refine Exists.intro m.slots (And.intro rfl (And.intro g7 ?_))
      | refine Exists.intro m.shadow (And.intro rfl (And.intro g8 ?_))
      | refine And.intro (closed_Module _) ?_
      | refine And.intro (closed_Int _) ?_
      | refine And.intro (closed_bytes _) ?_
      | refine And.intro (closed_Slot _) ?_
      | refine And.intro (closed_Frame _) ?_
      | fail)
    exact hp
  · exact hp.elim
def hEqMc : CH := fun args hl K => match args, hl with
  | [a, b], [] => ∃ m, McV a m ∧ McV b m ∧ smMc m ∧ K (.v (.bool true)) []
  | _, _ => False
def cx_s_eqMachine : Ctx := mkC [(13, callM [] true hEqModule), (78, callM [] false hEqCfg), (79, callM [] true hEqCore), (17, callM [] true hEqM), (80, callM [] true hEqSlot), (81, callM [] true hEqFrame)]
theorem cx_s_eqMachine_ok : CtxOk Tryz.prog cx_s_eqMachine := mkC_ok (mem1 ⟨s_eqModuleS, fnOk Tryz.func13 rfl rfl⟩ (mem1 ⟨s_eqConfig, fnOk Tryz.func78 rfl rfl⟩ (mem1 ⟨s_eqCore, fnOk Tryz.func79 rfl rfl⟩ (mem1 ⟨s_eqMem, fnOk Tryz.func17 rfl rfl⟩ (mem1 ⟨s_eqSlotS, fnOk Tryz.func80 rfl rfl⟩ (mem1 ⟨s_eqFrameS, fnOk Tryz.func81 rfl rfl⟩ mem0))))))
set_option maxRecDepth 100000 in
set_option pp.maxSteps 1500 in
set_option maxHeartbeats 8000000 in
theorem s_eqMachine : HSound Tryz.prog 32 (callM [] true hEqMc) := by
  refine callM_sound cx_s_eqMachine_ok mixed Tryz.func32 rfl fun args hl K hp => ?_
  unfold hEqMc at hp
  split at hp
  · rename_i a b
    obtain ⟨m, ⟨b1, z1, b2, z2, b3, z3, b4, z4, b5, z5, b6, z6, b7, z7, rfl⟩, ⟨d1, y1, d2, y2, d3, y3, d4, y4, d5, y5, d6, y6, d7, y7, rfl⟩, ⟨g1, g2, _, g3, g4, g5, g6, g7, g8⟩, hp⟩ := hp
    repeat' ((first
      | refine Exists.intro m.mods (And.intro rfl (And.intro rfl (And.intro g2 (And.intro g1 ?_))))
      | refine Exists.intro m.regs (And.intro rfl (And.intro rfl (And.intro g3 (And.intro rfl ?_))))
      | (refine Exists.intro m.f ?_; refine Exists.intro m.r ?_; refine Exists.intro m.o ?_; refine And.intro rfl (And.intro rfl (And.intro rfl (And.intro rfl (And.intro rfl (And.intro rfl (And.intro g4 (And.intro g5 (And.intro g6 ?_)))))))))
      | refine Exists.intro m.slots (And.intro rfl (And.intro rfl (And.intro g7 ?_)))
      | refine Exists.intro m.shadow (And.intro rfl (And.intro rfl (And.intro g8 ?_)))
      | refine And.intro rfl (And.intro rfl (And.intro rfl (And.intro rfl ?_)))
      | refine And.intro (fun h => ?_) (fun h => ?_)
      | fail) <;> try first | (exfalso; simp at h; done) | cases h)
    all_goals exact hp
  · exact hp.elim
theorem sh_slot {n : Nat} (el : List AV) (hs : Sh Tryz.prog (n + 2) 182 el) : ∃ e, el = slC e ∧ I64 e.mod ∧ I64 e.bank ∧ I64 e.turn := by
  unfold Sh at hs
  simp only [Tryz.underlying182] at hs
  obtain ⟨_, _, rfl, s1, _, _, rfl, s2, _, _, rfl, s3, _, _, rfl, s4, rfl⟩ := hs
  obtain ⟨a, rfl⟩ := sh_bool s1
  obtain ⟨b, rfl, hb⟩ := sh_intC _ s2
  obtain ⟨c, rfl, hc⟩ := sh_intC _ s3
  obtain ⟨d, rfl, hd⟩ := sh_intC _ s4
  exact ⟨⟨a, b, c, d⟩, rfl, hb, hc, hd⟩
theorem sh_frame {n : Nat} (el : List AV) (hs : Sh Tryz.prog (n + 2) 186 el) : ∃ e, el = frC e ∧ I64 e.mod ∧ I64 e.bank ∧ I64 e.pos ∧ I64 e.base := by
  unfold Sh at hs
  simp only [Tryz.underlying186] at hs
  obtain ⟨_, _, rfl, s1, _, _, rfl, s2, _, _, rfl, s3, _, _, rfl, s4, rfl⟩ := hs
  obtain ⟨a, rfl, ha⟩ := sh_intC _ s1
  obtain ⟨b, rfl, hb⟩ := sh_intC _ s2
  obtain ⟨c, rfl, hc⟩ := sh_intC _ s3
  obtain ⟨d, rfl, hd⟩ := sh_intC _ s4
  exact ⟨⟨a, b, c, d⟩, rfl, ha, hb, hc, hd⟩
structure OkMc (m : Mc) : Prop where
  big : bigMc m
  mods : ∀ b ∈ m.mods, OkMo b
  slots : ∀ s ∈ m.slots, I64 s.mod ∧ I64 s.bank ∧ I64 s.turn
  shadow : ∀ s ∈ m.shadow, I64 s.mod ∧ I64 s.bank ∧ I64 s.pos ∧ I64 s.base
  f : BytesOk m.f
  r : BytesOk m.r
  o : BytesOk m.o
  nums : I64 m.pc ∧ I64 m.mod ∧ I64 m.bank ∧ I64 m.turn
  regs : ∀ x ∈ m.regs, I64 x
theorem sh_mc {n : Nat} (el : List AV) (hs : Sh Tryz.prog (n + 6) 68 el) : ∃ m, el = [.sl 8 (m.mods.map moC), .v (.int .i64 m.cfg.slots), .v (.int .i64 m.cfg.words), .v (.int .i64 m.cfg.stack), .v (.int .i64 m.cfg.depth), .v (.int .i64 m.pc), .sl 1 (m.regs.map intC),
    .sl 1 (m.f.map byteC), .sl 1 (m.r.map byteC), .sl 1 (m.o.map byteC), .v (.int .i64 m.mod), .v (.int .i64 m.bank), .sl 4 (m.slots.map slC), .sl 4 (m.shadow.map frC), .v (.int .i64 m.turn)] ∧ OkMc m := by
  unfold Sh at hs
  simp only [Tryz.underlying68] at hs
  obtain ⟨_, _, rfl, s1, _, _, rfl, s2, _, _, rfl, s3, _, _, rfl, s4, _, _, rfl, s5, _, _, rfl, s6, _, _, rfl, s7, _, _, rfl, s8, _, _, rfl, s9, rfl⟩ := hs
  obtain ⟨ms, rfl, h1, g1⟩ := sh_slice Tryz.underlying22 (show Tryz.prog.cellsOf 85 = 8 by kernel_rfl) sh_mo s1
  unfold Sh at s2 s3 s4
  simp only [Tryz.underlying61, Tryz.underlying63, Tryz.underlying64] at s2 s3 s4
  obtain ⟨_, _, rfl, u1, _, _, rfl, u2, _, _, rfl, u3, _, _, rfl, u4, rfl⟩ := s2
  obtain ⟨_, _, rfl, v1, _, _, rfl, v2, rfl⟩ := s3
  obtain ⟨_, _, rfl, w1, _, _, rfl, w2, _, _, rfl, w3, rfl⟩ := s4
  obtain ⟨c1, rfl, _⟩ := sh_intC _ u1
  obtain ⟨c2, rfl, _⟩ := sh_intC _ u2
  obtain ⟨c3, rfl, _⟩ := sh_intC _ u3
  obtain ⟨c4, rfl, _⟩ := sh_intC _ u4
  obtain ⟨pc, rfl, hpc⟩ := sh_intC _ v1
  obtain ⟨rg, rfl, hrg, grg⟩ := sh_intS _ v2
  obtain ⟨f, rfl, f1, f2⟩ := sh_byteS Tryz.underlying41 w1
  obtain ⟨r, rfl, r1, r2⟩ := sh_byteS Tryz.underlying41 w2
  obtain ⟨o, rfl, o1, o2⟩ := sh_byteS Tryz.underlying41 w3
  obtain ⟨md, rfl, hmd⟩ := sh_intC _ s5
  obtain ⟨bk, rfl, hbk⟩ := sh_intC _ s6
  obtain ⟨ss, rfl, h7, g7⟩ := sh_slice Tryz.underlying65 (show Tryz.prog.cellsOf 182 = 4 by kernel_rfl) sh_slot s7
  obtain ⟨fs, rfl, h8, g8⟩ := sh_slice Tryz.underlying66 (show Tryz.prog.cellsOf 186 = 4 by kernel_rfl) sh_frame s8
  obtain ⟨tn, rfl, htn⟩ := sh_intC _ s9
  exact ⟨⟨ms, ⟨c1, c2, c3, c4⟩, pc, rg, f, r, o, md, bk, ss, fs, tn⟩, rfl, ⟨g1, fun b hb => (h1 b hb).big, grg, f2, r2, o2, g7, g8⟩, h1, h7, h8, f1, r1, o1, ⟨hpc, hmd, hbk, htn⟩, hrg⟩
theorem arg_mc {n : Nat} {c : List AV} {x : AV} (hs : Sh Tryz.prog (n + 6) 68 c) (ha : ArgOf Tryz.prog 68 c x) : ∃ m : Mc, McV x m ∧ OkMc m := by
  simp only [ArgOf, Tryz.underlying68] at ha
  obtain ⟨m, rfl, hm⟩ := sh_mc _ hs
  exact ⟨m, ⟨_, _, _, _, _, _, _, _, _, _, _, _, _, _, ha⟩, hm⟩
end Go.Proofs.YtbfjkjdbdejnmaaGreat.Ab

/- Layouts that Link gives: the plain law (every size of a slot tried, against the one that fits). No condition. -/
namespace Go.Proofs.YtbfjkjdbdejnmaaGreat.Ab
set_option linter.unusedVariables false
set_option linter.unusedSimpArgs false

def endsF (l : La) : Int := match l.slots with
  | s :: _ => s
  | [] => IntKind.i64.wrap (65536 + l.ram)
def stackF (l : La) : Int := IntKind.i64.wrap (endsF l - l.stack)
def wordsF (l : La) : Int := if 1 ≤ l.slots.length ∧ l.slots.length ≤ 4 then IntKind.i64.wrap ((IntKind.i64.wrap ((IntKind.i64.wrap (IntKind.i64.wrap (65536 + l.ram) - l.slots.getD 0 0)).tdiv l.slots.length)).tdiv 4) else 1
def cfL (l : La) (w : Int) : Cf := ⟨l.slots.length, w, stackF l, 0⟩
/-- Link gives this layout. -/
def GivesP (ms : List Mo) (l : La) (w : Int) : Prop := linkC ms (cfL l w) = 0 ∧ laF ms (cfL l w) = l
def RealP (ms : List Mo) (l : La) : Prop := GivesP ms l (wordsF l)
theorem slP_all (w r : Nat) : ∀ k, (slP w r k).2 = r + k * rup (4 * w)
  | 0 => by simp [slP]
  | k + 1 => by
    simp only [slP]
    rw [slP_all w r k, Nat.add_mul, Nat.one_mul]
    omega
theorem slP_head (w r k : Nat) : (slP w r (k + 1)).1.getD 0 0 = 65536 + (r : Int) := by
  induction k with
  | zero => rfl
  | succ k ih =>
    have hl : 0 < (slP w r (k + 1)).1.length := by rw [slP_len]; omega
    have e : (slP w r (k + 1 + 1)).1 = (slP w r (k + 1)).1 ++ [65536 + ((slP w r (k + 1)).2 : Int)] := rfl
    rw [e, List.getD_eq_getElem?_getD, List.getElem?_append_left hl, ← List.getD_eq_getElem?_getD]
    exact ih
theorem link_cfg {ms : List Mo} {c : Cf} (h : linkC ms c = 0) : Sound ms c := by
  have : soundF ms c = 0 := by
    unfold linkC at h
    split at h
    · omega
    · omega
  exact sound_of this
/-- What the sizes say of the words. -/
theorem words_of {ms : List Mo} {l : La} {w : Int} (h : GivesP ms l w) (h1 : 1 ≤ l.slots.length) : ∃ W : Nat, w = W ∧ W ≤ 64 ∧ 1 ≤ W ∧ l.slots.length ≤ 4 ∧ wordsF l = ((rup (4 * W) / 4 : Nat) : Int) := by
  obtain ⟨hc, hl⟩ := h
  obtain ⟨⟨ca0, ca1, cb0, cb1, cc0, cc1, ccm⟩, ⟨ln0, ln1⟩, hgm, _⟩ := link_cfg hc
  simp only [cfL] at ca0 ca1 cb0 cb1 cc0 cc1 ccm
  obtain ⟨W, rfl⟩ := Int.eq_ofNat_of_zero_le (show 0 ≤ w by omega)
  obtain ⟨N, hN⟩ : ∃ N, l.slots.length = N + 1 := ⟨l.slots.length - 1, by omega⟩
  have hram : l.ram = (slP W ((plP ms ms.length).2.2 + (stackF l).toNat) (N + 1)).2 := by
    conv => lhs; rw [← hl]
    simp only [laF, cfL, hN, Int.toNat_natCast]
  have hsl : l.slots.getD 0 0 = 65536 + (((plP ms ms.length).2.2 + (stackF l).toNat : Nat) : Int) := by
    conv => lhs; rw [← hl]
    simp only [laF, cfL, hN, Int.toNat_natCast]
    exact slP_head _ _ _
  obtain ⟨pb1, pb2⟩ := plP_le hgm ms.length
  have hr := rup_le (4 * W)
  refine ⟨W, rfl, by omega, by omega, by omega, ?_⟩
  rw [wordsF, if_pos (by omega), hram, hsl, slP_all, hN]
  have hR : (plP ms ms.length).2.2 + (stackF l).toNat ≤ 100000 := by omega
  generalize (plP ms ms.length).2.2 + (stackF l).toNat = R at *
  generalize hU : rup (4 * W) = U at *
  have hU2 : U % 32 = 0 := by rw [← hU]; exact rup_mod _
  have hm : (N + 1) * U ≤ 4 * 1000 := by
    have h4 : N + 1 ≤ 4 := by omega
    calc (N + 1) * U ≤ 4 * U := Nat.mul_le_mul_right _ h4
      _ ≤ 4 * 1000 := by omega
  rw [wrap64 (x := 65536 + ((R + (N + 1) * U : Nat) : Int)) (by omega), wrap64 (x := 65536 + ((R + (N + 1) * U : Nat) : Int) - (65536 + (R : Int))) (by omega), show 65536 + ((R + (N + 1) * U : Nat) : Int) - (65536 + (R : Int)) = (((N + 1) * U : Nat) : Int) by omega]
  have e1 : (((N + 1) * U : Nat) : Int).tdiv ((N + 1 : Nat) : Int) = (U : Int) := by
    rw [Int.tdiv_eq_ediv_of_nonneg (by omega), Int.natCast_mul, Int.mul_ediv_cancel_left _ (by omega)]
  rw [e1, wrap64 (x := (U : Int)) (by omega)]
  have e2 : (U : Int).tdiv 4 = ((U / 4 : Nat) : Int) := by
    rw [Int.tdiv_eq_ediv_of_nonneg (by omega)]
    omega
  rw [e2, wrap64 (by omega)]
end Go.Proofs.YtbfjkjdbdejnmaaGreat.Ab
