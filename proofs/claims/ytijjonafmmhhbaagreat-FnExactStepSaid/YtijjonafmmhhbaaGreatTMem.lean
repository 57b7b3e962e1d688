/- Byte slices: size, copy, compare. No condition. -/
import Derived.Test.YtijjonafmmhhbaaGreatTBase
namespace Go.Proofs.YtijjonafmmhhbaaGreat.Ab

def szB (n : Int) (l : Nat) : Int := if n - l < 0 then -1 else n - l
def hSzB : CH := fun args hl K => match args, hl with
  | [.imm _ _ 1 l, .v (.int .i64 n)], [] => 0 ≤ n ∧ n ≤ 1048576 ∧ (l.length : Int) ≤ 9223372036854775807 ∧ K (.v (.int .i64 (szB n l.length))) []
  | _, _ => False
set_option maxRecDepth 100000 in
theorem s_szByteS : HSound Tryz.prog 52 (callM [] true hSzB) := by
  refine callM_sound cx0_ok mixed Tryz.func52 rfl fun args hl K hp => ?_
  unfold hSzB at hp
  split at hp
  · rename_i l n
    obtain ⟨h0, h1, h2, hp⟩ := hp
    have hw : IntKind.i64.wrap (n - l.length) = n - l.length := wrap64 (by omega)
    repeat' ((first | refine And.intro (fun h1 => ?_) (fun h1 => ?_) | refine And.intro (by decide) ?_ | refine And.intro (show wfB _ = true from by kernel_rfl) ?_ | refine And.intro (And.intro rfl rfl) ?_ | exact And.intro rfl rfl | apply HeldC.intro | exact AV.top | (apply HeldF.intro; refine Exists.intro _ (And.intro (by assumption) ?_); refine And.intro (by decide) ?_; exact And.intro rfl rfl) | (refine And.intro (by (refine Exists.intro _ (And.intro (by assumption) ?_); refine And.intro (by decide) ?_; exact And.intro rfl rfl)) ?_) | refine Or.inl ?_) <;> try cases h1)
    all_goals refine fin_i hp ?_
    all_goals clear hp
    all_goals rw [hw] at *
    all_goals simp only [szB, decide_eq_true_eq, decide_eq_false_iff_not] at *
    all_goals split <;> omega
  · exact hp.elim

def hToB : CH := fun args hl K => match args, hl with
  | [.imm _ _ 1 l], [] => ∃ bs : List Int, l = bs.map byteC ∧ bs.length ≤ 1048576 ∧ K (.slc 0 0 bs.length false) [.lst 1 (bs.map byteC)]
  | _, _ => False
set_option maxRecDepth 100000 in
theorem s_toByteS : HSound Tryz.prog 54 (callM [] true hToB) := by
  refine callM_sound cx0_ok mixed Tryz.func54 rfl fun args hl K hp => ?_
  unfold hToB at hp
  split at hp
  · rename_i t z l
    obtain ⟨bs, rfl, hb, hp⟩ := hp
    refine Or.inl ?_
    refine Exists.intro bs.length (And.intro (by simp) (And.intro (by simp) (And.intro (by simp only; omega) ?_)))
    refine Exists.intro false (Exists.intro [0, 3, 4] (Exists.intro (fun m vs h => ∃ i : Nat, i ≤ bs.length ∧ m = bs.length - i ∧ vs = [.imm t z 1 (bs.map byteC), .slc 0 0 bs.length true, .v (.int .i64 i)] ∧ h = [.lst 1 ((bs.take i).map byteC ++ List.replicate (bs.length - i) (byteC 0))]) (And.intro ?_ ?_)))
    · refine Exists.intro bs.length ?_
      exact ⟨0, by omega, rfl, rfl, rfl⟩
    · intro m vs h hI
      obtain ⟨i, hi, rfl, rfl, rfl⟩ := hI
      refine And.intro (fun h1 => ?_) (fun h1 => ?_)
      · simp only [decide_eq_true_eq, List.length_map] at h1
        have hlt : i < bs.length := by omega
        obtain ⟨b, hbi⟩ : ∃ b, bs[i]? = some b := ⟨_, List.getElem?_eq_getElem hlt⟩
        refine Exists.intro i (And.intro rfl (Exists.intro (byteC b) (And.intro (by simp [hbi]) ?_)))
        refine Exists.intro i (And.intro rfl (And.intro hlt ?_))
        refine Exists.intro (byteC 0) (And.intro (by rw [Nat.zero_add, List.getElem?_append_right (by simp; omega), List.getElem?_replicate, if_pos (by simp; omega)]) (And.intro (by decide) ?_))
        refine Exists.intro (bs.length - (i + 1)) (And.intro (by omega) ?_)
        refine ⟨i + 1, by omega, rfl, ?_, ?_⟩
        · rw [← wrap_succ hlt (by omega)]
        · rw [← fill_step byteC (byteC 0) bs i b hbi, Nat.zero_add]
          rfl
      · simp only [decide_eq_false_iff_not, List.length_map] at h1
        have : i = bs.length := by omega
        subst this
        have e : (bs.take bs.length).map byteC ++ List.replicate (bs.length - bs.length) (byteC 0) = bs.map byteC := by simp
        rw [← e] at hp
        refine And.intro (e ▸ closed_bytes bs) ?_
        exact hp
  · exact hp.elim

def hEqB : CH := fun args hl K => match args, hl with
  | [.imm _ _ 1 l, .imm _ _ 1 r], [] => ∃ cs bs : List Int, l = cs.map byteC ∧ r = bs.map byteC ∧ cs.length ≤ 1048576 ∧ K (.v (.bool (decide (cs = bs)))) []
  | _, _ => False
set_option maxRecDepth 100000 in
theorem s_eqByteS : HSound Tryz.prog 57 (callM [] true hEqB) := by
  refine callM_sound cx0_ok mixed Tryz.func57 rfl fun args hl K hp => ?_
  unfold hEqB at hp
  split at hp
  · rename_i t z l t' z' r
    obtain ⟨cs, bs, rfl, rfl, hb, hp⟩ := hp
    refine And.intro (fun h1 => ?_) (fun h1 => ?_)
    · refine fin_b hp ?_
      have : cs ≠ bs := by rintro rfl; simp at h1
      simp [this]
    · have hlen : cs.length = bs.length := by simp at h1; omega
      clear h1
      refine Exists.intro false (Exists.intro [0, 1, 5] (Exists.intro (fun m vs h => ∃ i : Nat, i ≤ cs.length ∧ m = cs.length - i ∧ vs = [.imm t z 1 (cs.map byteC), .imm t' z' 1 (bs.map byteC), .v (.int .i64 i)] ∧ h = [] ∧ cs.take i = bs.take i) (And.intro ?_ ?_)))
      · refine Exists.intro cs.length ?_
        exact ⟨0, by omega, rfl, rfl, rfl, rfl⟩
      · intro m vs h hI
        obtain ⟨i, hi, rfl, rfl, rfl, htk⟩ := hI
        refine And.intro (fun h1 => ?_) (fun h1 => ?_)
        · simp only [decide_eq_true_eq, List.length_map] at h1
          have hlt : i < cs.length := by omega
          obtain ⟨a, hai⟩ : ∃ a, cs[i]? = some a := ⟨_, List.getElem?_eq_getElem hlt⟩
          obtain ⟨b, hbi⟩ : ∃ b, bs[i]? = some b := ⟨_, List.getElem?_eq_getElem (by omega)⟩
          refine And.intro (by kernel_rfl) ?_
          refine Exists.intro i (And.intro rfl (Exists.intro (byteC a) (And.intro (by simp [hai]) ?_)))
          refine Exists.intro i (And.intro rfl (Exists.intro (byteC b) (And.intro (by simp [hbi]) ?_)))
          refine And.intro (fun h1 => ?_) (fun h1 => ?_)
          · refine fin_b hp ?_
            have : cs ≠ bs := by
              rintro rfl
              rw [hai] at hbi
              cases hbi
              simp at h1
            simp [this]
          · have hab : a = b := by simpa using h1
            subst hab
            refine Exists.intro (cs.length - (i + 1)) (And.intro (by omega) ?_)
            refine ⟨i + 1, by omega, rfl, ?_, rfl, take_step htk hai hbi⟩
            have hw2 : IntKind.wrap .i64 ((i : Int) + 1) = ((i + 1 : Nat) : Int) := by
              rw [wrap64] <;> omega
            rw [← hw2]
        · simp only [decide_eq_false_iff_not, List.length_map] at h1
          refine fin_b hp ?_
          have : cs = bs := by
            have e1 : cs.take i = cs := List.take_of_length_le (by omega)
            have e2 : bs.take i = bs := List.take_of_length_le (by omega)
            rw [← e1, htk, e2]
          simp [this]
  · exact hp.elim
end Go.Proofs.YtijjonafmmhhbaaGreat.Ab
