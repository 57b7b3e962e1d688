/- Decode: both programs answer alike. No condition. -/
import Derived.Test.YtijjonafmmhhbaaGreatTEncode
namespace Go.Proofs.YtijjonafmmhhbaaGreat.Ab

def decOk (w : Int) : Bool := decide (0 ≤ w ∧ w ≤ 4294967295 ∧ w / 65536 % 16 = 0) && insOk (w / 67108864) (w / 8388608 % 8) (w / 1048576 % 8) (w % 65536)
def decV (w x : Int) : Int := if decOk w then x else 0
def hDec : CH := fun args hl K => match args, hl with
  | [.v (.int .i64 w)], [] => K (.tup [.agg [.v (.int .i64 (decV w (w / 67108864))), .v (.int .i64 (decV w (w / 8388608 % 8))), .v (.int .i64 (decV w (w / 1048576 % 8))), .v (.int .i64 (decV w (w % 65536)))], .v (.bool (decOk w))]) []
  | _, _ => False
theorem fin_dec {K : AV → HP → Prop} {h : HP} {w a b c d : Int} {p : Bool} (hp : K (.tup [.agg [.v (.int .i64 (decV w (w / 67108864))), .v (.int .i64 (decV w (w / 8388608 % 8))), .v (.int .i64 (decV w (w / 1048576 % 8))), .v (.int .i64 (decV w (w % 65536)))], .v (.bool (decOk w))]) h)
    (e1 : decV w (w / 67108864) = a) (e2 : decV w (w / 8388608 % 8) = b) (e3 : decV w (w / 1048576 % 8) = c) (e4 : decV w (w % 65536) = d) (e5 : decOk w = p) : K (.tup [.agg [.v (.int .i64 a), .v (.int .i64 b), .v (.int .i64 c), .v (.int .i64 d)], .v (.bool p)]) h := by
  subst e1 e2 e3 e4 e5
  exact hp

def hWord : CH := fun args hl K => match args, hl with
  | [.v (.int .i64 w)], [] => K (.v (.bool (decide (0 ≤ w ∧ w ≤ 4294967295)))) []
  | _, _ => False
set_option maxRecDepth 100000 in
theorem s_isWord : HSound Tryz.prog 77 (callM [] false hWord) := by
  refine callM_sound cx0_ok mixed Tryz.func77 rfl fun args hl K hp => ?_
  unfold hWord at hp
  split at hp
  · repeat' ((first | refine And.intro (fun h1 => ?_) (fun h1 => ?_) | refine And.intro (by decide) ?_ | refine And.intro (show wfB _ = true from by kernel_rfl) ?_ | refine And.intro (And.intro rfl rfl) ?_ | exact And.intro rfl rfl | apply HeldC.intro | exact AV.top | (apply HeldF.intro; refine Exists.intro _ (And.intro (by assumption) ?_); refine And.intro (by decide) ?_; exact And.intro rfl rfl) | (refine And.intro (by (refine Exists.intro _ (And.intro (by assumption) ?_); refine And.intro (by decide) ?_; exact And.intro rfl rfl)) ?_) | refine Or.inl ?_) <;> try cases h1)
    all_goals refine fin_b hp ?_
    all_goals clear hp
    all_goals rw [Bool.eq_iff_iff]
    all_goals simp only [decide_eq_true_eq, decide_eq_false_iff_not, reduceCtorEq, iff_false, iff_true] at *
    all_goals omega
  · exact hp.elim

theorem div_words {w : Int} (h0 : 0 ≤ w) (h1 : w ≤ 4294967295) : IntKind.i64.wrap (w.tdiv 67108864) = w / 67108864 ∧ Int.tmod (IntKind.i64.wrap (w.tdiv 8388608)) 8 = w / 8388608 % 8 ∧ Int.tmod (IntKind.i64.wrap (w.tdiv 1048576)) 8 = w / 1048576 % 8 ∧ w.tmod 65536 = w % 65536 ∧
    Int.tmod (IntKind.i64.wrap (w.tdiv 65536)) 16 = w / 65536 % 16 := by
  rw [Int.tdiv_eq_ediv_of_nonneg h0, Int.tdiv_eq_ediv_of_nonneg h0, Int.tdiv_eq_ediv_of_nonneg h0, Int.tdiv_eq_ediv_of_nonneg h0, wrap64 (by omega), wrap64 (by omega), wrap64 (by omega), wrap64 (by omega),
    Int.tmod_eq_emod_of_nonneg h0, Int.tmod_eq_emod_of_nonneg (by omega), Int.tmod_eq_emod_of_nonneg (by omega), Int.tmod_eq_emod_of_nonneg (by omega)]
  exact ⟨rfl, rfl, rfl, rfl, rfl⟩
theorem decV_no {w x : Int} (h : decOk w = false) : decV w x = 0 := by simp [decV, h]
theorem decV_yes {w x : Int} (h : decOk w = true) : decV w x = x := by simp [decV, h]
set_option maxRecDepth 100000 in
set_option maxHeartbeats 1000000 in
theorem s_spec_Decode : HSound Tryz.prog 36 (callM [] false hDec) := by
  refine callM_sound cxSEnc_ok mixed Tryz.func36 rfl fun args hl K hp => ?_
  unfold hDec at hp
  split at hp
  · rename_i w
    repeat' ((first | refine And.intro (fun h1 => ?_) (fun h1 => ?_) | refine And.intro (by decide) ?_ | refine And.intro (show wfB _ = true from by kernel_rfl) ?_ | refine And.intro (And.intro rfl rfl) ?_ | exact And.intro rfl rfl | apply HeldC.intro | exact AV.top | (apply HeldF.intro; refine Exists.intro _ (And.intro (by assumption) ?_); refine And.intro (by decide) ?_; exact And.intro rfl rfl) | (refine And.intro (by (refine Exists.intro _ (And.intro (by assumption) ?_); refine And.intro (by decide) ?_; exact And.intro rfl rfl)) ?_) | refine Or.inl ?_) <;> try cases h1)
    all_goals refine fin_dec hp ?_ ?_ ?_ ?_ ?_
    all_goals clear hp
    all_goals simp only [decide_eq_true_eq, decide_eq_false_iff_not, bne_iff_ne, ne_eq, Bool.not_eq_true', bne_eq_false_iff_eq, Bool.not_eq_false'] at *
    all_goals
      by_cases hw : 0 ≤ w ∧ w ≤ 4294967295
      · obtain ⟨e1, e2, e3, e4, e5⟩ := div_words hw.1 hw.2
        simp only [e1, e2, e3, e4, e5] at *
        simp_all [decV, decOk] <;> omega
      · first
          | (exfalso; omega)
          | (simp [decV, decOk]; omega)
  · exact hp.elim

theorem shr_words {w : Int} (h0 : 0 ≤ w) (h1 : w ≤ 4294967295) : w.fdiv (2 ^ min (Int.toNat 26) IntKind.i64.bits) = w / 67108864 ∧
    IntKind.i64.wrap ↑(BitVec.ofInt IntKind.i64.bits (w.fdiv (2 ^ min (Int.toNat 23) IntKind.i64.bits)) &&& BitVec.ofInt IntKind.i64.bits 7).toNat = w / 8388608 % 8 ∧
    IntKind.i64.wrap ↑(BitVec.ofInt IntKind.i64.bits (w.fdiv (2 ^ min (Int.toNat 20) IntKind.i64.bits)) &&& BitVec.ofInt IntKind.i64.bits 7).toNat = w / 1048576 % 8 ∧
    IntKind.i64.wrap ↑(BitVec.ofInt IntKind.i64.bits w &&& BitVec.ofInt IntKind.i64.bits 65535).toNat = w % 65536 ∧
    IntKind.i64.wrap ↑(BitVec.ofInt IntKind.i64.bits (w.fdiv (2 ^ min (Int.toNat 16) IntKind.i64.bits)) &&& BitVec.ofInt IntKind.i64.bits 15).toNat = w / 65536 % 16 := by
  obtain ⟨n, rfl⟩ := Int.eq_ofNat_of_zero_le h0
  have f (k : Nat) (hk : 0 < k) : (n : Int).fdiv k = ((n / k : Nat) : Int) := by
    rw [Int.fdiv_eq_ediv_of_nonneg _ (by omega)]; rfl
  have g26 : (2 : Int) ^ min (Int.toNat 26) IntKind.i64.bits = ((67108864 : Nat) : Int) := by decide
  have g23 : (2 : Int) ^ min (Int.toNat 23) IntKind.i64.bits = ((8388608 : Nat) : Int) := by decide
  have g20 : (2 : Int) ^ min (Int.toNat 20) IntKind.i64.bits = ((1048576 : Nat) : Int) := by decide
  have g16 : (2 : Int) ^ min (Int.toNat 16) IntKind.i64.bits = ((65536 : Nat) : Int) := by decide
  rw [g26, g23, g20, g16, f _ (by omega), f _ (by omega), f _ (by omega), f _ (by omega)]
  have a7 := fun x hx => and64 x 3 7 hx (by decide) (by decide)
  have a15 := fun x hx => and64 x 4 15 hx (by decide) (by decide)
  have aw := fun x hx => and64 x 16 65535 hx (by decide) (by decide)
  refine ⟨by omega, (a7 _ (by omega)).trans (by omega), (a7 _ (by omega)).trans (by omega), (aw _ (by omega)).trans (by omega), (a15 _ (by omega)).trans (by omega)⟩
def cxIDec : Ctx := mkC [(77, callM [] false hWord), (124, callM [] false hIns)]
theorem cxIDec_ok : CtxOk Tryz.prog cxIDec := mkC_ok (mem1 ⟨s_isWord, fnOk Tryz.func77 rfl rfl⟩ (mem1 ⟨s_ok, fnOk Tryz.func124 rfl rfl⟩ mem0))
set_option maxRecDepth 100000 in
set_option maxHeartbeats 1000000 in
theorem s_impl_Decode : HSound Tryz.prog 116 (callM [] false hDec) := by
  refine callM_sound cxIDec_ok mixed Tryz.func116 rfl fun args hl K hp => ?_
  unfold hDec at hp
  split at hp
  · rename_i w
    repeat' ((first | refine And.intro (fun h1 => ?_) (fun h1 => ?_) | refine And.intro (by decide) ?_ | refine And.intro (show wfB _ = true from by kernel_rfl) ?_ | refine And.intro (And.intro rfl rfl) ?_ | exact And.intro rfl rfl | apply HeldC.intro | exact AV.top | (apply HeldF.intro; refine Exists.intro _ (And.intro (by assumption) ?_); refine And.intro (by decide) ?_; exact And.intro rfl rfl) | (refine And.intro (by (refine Exists.intro _ (And.intro (by assumption) ?_); refine And.intro (by decide) ?_; exact And.intro rfl rfl)) ?_) | refine Or.inl ?_) <;> try cases h1)
    all_goals refine fin_dec hp ?_ ?_ ?_ ?_ ?_
    all_goals clear hp
    all_goals simp only [decide_eq_true_eq, decide_eq_false_iff_not, bne_iff_ne, ne_eq, Bool.not_eq_true', bne_eq_false_iff_eq, Bool.not_eq_false'] at *
    all_goals
      by_cases hw : 0 ≤ w ∧ w ≤ 4294967295
      · obtain ⟨e1, e2, e3, e4, e5⟩ := shr_words hw.1 hw.2
        simp only [e1, e2, e3, e4, e5] at *
        simp_all [decV, decOk] <;> omega
      · first
          | (exfalso; omega)
          | (simp [decV, decOk]; omega)
  · exact hp.elim

def hEqIns : CH := fun args hl K => match args, hl with
  | [.agg [.v (.int .i64 a), .v (.int .i64 b), .v (.int .i64 c), .v (.int .i64 d)], .agg [.v (.int .i64 a'), .v (.int .i64 b'), .v (.int .i64 c'), .v (.int .i64 d')]], [] => K (.v (.bool (decide (a = a' ∧ b = b' ∧ c = c' ∧ d = d')))) []
  | _, _ => False
end Go.Proofs.YtijjonafmmhhbaaGreat.Ab
