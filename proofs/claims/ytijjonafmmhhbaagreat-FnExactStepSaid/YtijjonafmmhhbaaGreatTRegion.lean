/- RegionOk: both programs answer alike. No condition. -/
import Derived.Test.YtijjonafmmhhbaaGreatTBase
namespace Go.Proofs.YtijjonafmmhhbaaGreat.Ab

def hConv6 : CH := fun args hl K => match args, hl with
  | [.agg [.v a, .v b, .v c, .v d, .v e, .v f]], [] => K (.agg [.v a, .v b, .v c, .v d, .v e, .v f]) []
  | _, _ => False
set_option maxRecDepth 100000 in
theorem s_toRegion : HSound Tryz.prog 55 (callM [] false hConv6) := by
  refine callM_sound cx0_ok mixed Tryz.func55 rfl fun args hl K hp => ?_
  unfold hConv6 at hp
  split at hp
  · exact hp
  · exact hp.elim

/-- The power of two, up to 62. -/
def hPw : CH := fun args hl K => match args, hl with
  | [.v (.int .i64 n)], [] => 0 ≤ n ∧ n ≤ 62 ∧ K (.v (.int .i64 (2 ^ n.toNat))) []
  | _, _ => False
theorem pow_le {i N : Nat} (h : i ≤ N) : (2 : Int) ^ i ≤ 2 ^ N := by
  have := Nat.pow_le_pow_right (n := 2) (by omega) h
  have h2 : ((2 ^ i : Nat) : Int) ≤ ((2 ^ N : Nat) : Int) := by omega
  simpa using h2
set_option maxRecDepth 100000 in
theorem s_l2Pow2 : HSound Tryz.prog 66 (callM [] false hPw) := by
  refine callM_sound cx0_ok mixed Tryz.func66 rfl fun args hl K hp => ?_
  unfold hPw at hp
  split at hp
  · rename_i n
    obtain ⟨h0, h1, hp⟩ := hp
    obtain ⟨N, rfl⟩ := Int.eq_ofNat_of_zero_le h0
    refine Exists.intro false (Exists.intro [0, 3, 4] (Exists.intro (fun m vs h => ∃ i : Nat, i ≤ N ∧ m = N - i ∧ vs = [.v (.int .i64 N), .v (.int .i64 (2 ^ i)), .v (.int .i64 i)] ∧ h = []) (And.intro ?_ ?_)))
    · refine Exists.intro N ?_
      exact ⟨0, by omega, rfl, rfl, rfl⟩
    · intro m vs h hI
      obtain ⟨i, hi, rfl, rfl, rfl⟩ := hI
      refine And.intro (fun h1 => ?_) (fun h1 => ?_)
      · simp only [decide_eq_true_eq] at h1
        refine Exists.intro (N - (i + 1)) (And.intro (by omega) ?_)
        refine ⟨i + 1, by omega, rfl, ?_, rfl⟩
        have := pow_le (show i + 1 ≤ 62 by omega)
        have hpos : (0 : Int) < 2 ^ i := Int.pow_pos (by omega)
        have hw1 : IntKind.wrap .i64 ((2 : Int) ^ i * 2) = 2 ^ (i + 1) := by
          rw [← Int.pow_succ]
          refine wrap64 ⟨?_, ?_⟩
          · have hpos' : (0 : Int) < 2 ^ (i + 1) := Int.pow_pos (by omega)
            omega
          · have h62 : (2 : Int) ^ 62 = 4611686018427387904 := by decide
            omega
        have hw2 : IntKind.wrap .i64 ((i : Int) + 1) = ((i + 1 : Nat) : Int) := by
          rw [wrap64] <;> omega
        rw [← hw1, ← hw2]
      · simp only [decide_eq_false_iff_not] at h1
        have : i = N := by omega
        subst this
        exact hp
  · exact hp.elim

def regOk (a b c : Int) : Bool := decide (5 ≤ b ∧ b ≤ 14 ∧ 0 ≤ c ∧ c ≤ 255 ∧ (b < 8 → c = 0) ∧ 0 ≤ a ∧ a ≤ 262144 - 2 ^ b.toNat ∧ a.tmod (2 ^ b.toNat) = 0)
def hReg : CH := fun args hl K => match args, hl with
  | [.agg [.v (.int .i64 a), .v (.int .i64 b), .v (.int .i64 c), .v _, .v _, .v _]], [] => K (.v (.bool (regOk a b c))) []
  | _, _ => False
def cxReg : Ctx := mkC [(66, callM [] false hPw)]
theorem cxReg_ok : CtxOk Tryz.prog cxReg := mkC_ok (mem1 ⟨s_l2Pow2, fnOk Tryz.func66 rfl rfl⟩ mem0)
theorem pow14 {b : Int} (h1 : 5 ≤ b) (h2 : b ≤ 14) : (32 : Int) ≤ 2 ^ b.toNat ∧ (2 : Int) ^ b.toNat ≤ 16384 := by
  have hb : b.toNat ≤ 14 := by omega
  have hb' : 5 ≤ b.toNat := by omega
  exact ⟨pow_le hb', pow_le hb⟩
set_option maxRecDepth 100000 in
set_option maxHeartbeats 1000000 in
theorem s_spec_RegionOk : HSound Tryz.prog 69 (callM [] false hReg) := by
  refine callM_sound cxReg_ok mixed Tryz.func69 rfl fun args hl K hp => ?_
  unfold hReg at hp
  split at hp
  · rename_i a b c _ _ _
    repeat' ((first | refine And.intro (fun h1 => ?_) (fun h1 => ?_) | refine And.intro (by simp only [decide_eq_true_eq, decide_eq_false_iff_not] at *; omega) ?_ | refine And.intro (by simp only [decide_eq_true_eq, decide_eq_false_iff_not] at *; have := pow14 (b := b) (by omega) (by omega); omega) ?_) <;> try cases h1)
    all_goals refine fin_b hp ?_
    all_goals clear hp
    all_goals first
      | (simp only [regOk, decide_eq_true_eq, decide_eq_false_iff_not, ne_eq] at *; omega)
      | (simp only [decide_eq_true_eq, decide_eq_false_iff_not] at *
         have hq := pow14 (b := b) (by omega) (by omega)
         have hw := wrap64 (x := 262144 - 2 ^ b.toNat) (by omega)
         rw [Bool.eq_iff_iff]
         simp only [regOk]
         generalize IntKind.i64.wrap (262144 - 2 ^ b.toNat) = ws at *
         generalize (2 : Int) ^ b.toNat = s at *
         generalize a.tmod s = r at *
         simp at *
         omega)
  · exact hp.elim
theorem shl14 {b : Int} (h1 : 5 ≤ b) (h2 : b ≤ 14) : IntKind.i64.wrap (1 * 2 ^ min b.toNat IntKind.i64.bits) = 2 ^ b.toNat := by
  have hq := pow14 h1 h2
  have : min b.toNat IntKind.i64.bits = b.toNat := by simp only [IntKind.bits]; omega
  rw [this, Int.one_mul]
  exact wrap64 (by omega)
set_option maxRecDepth 100000 in
set_option maxHeartbeats 1000000 in
theorem s_impl_RegionOk : HSound Tryz.prog 119 (callM [] false hReg) := by
  refine callM_sound cx0_ok mixed Tryz.func119 rfl fun args hl K hp => ?_
  unfold hReg at hp
  split at hp
  · rename_i a b c _ _ _
    repeat' ((first | refine And.intro (fun h1 => ?_) (fun h1 => ?_) | refine And.intro (by simp only [decide_eq_true_eq, decide_eq_false_iff_not] at *; omega) ?_ | refine And.intro (by simp only [decide_eq_true_eq, decide_eq_false_iff_not] at *; have := pow14 (b := b) (by omega) (by omega); rw [shl14 (by omega) (by omega)]; omega) ?_) <;> try cases h1)
    all_goals refine fin_b hp ?_
    all_goals clear hp
    all_goals first
      | (simp only [regOk, decide_eq_true_eq, decide_eq_false_iff_not, ne_eq] at *; omega)
      | (simp only [decide_eq_true_eq, decide_eq_false_iff_not] at *
         have hq := pow14 (b := b) (by omega) (by omega)
         have hs := shl14 (b := b) (by omega) (by omega)
         have hw := wrap64 (x := 262144 - 2 ^ b.toNat) (by omega)
         rw [Bool.eq_iff_iff]
         simp only [regOk]
         generalize IntKind.i64.wrap (1 * 2 ^ min b.toNat IntKind.i64.bits) = ss at *
         subst hs
         generalize IntKind.i64.wrap (262144 - 2 ^ b.toNat) = ws at *
         generalize (2 : Int) ^ b.toNat = s at *
         generalize a.tmod s = r at *
         simp at *
         omega)
  · exact hp.elim

end Go.Proofs.YtijjonafmmhhbaaGreat.Ab
