/- Drawn regions. No condition. -/
import Derived.Test.YtijjonafmmhhbaaGreatTIns
import Derived.Test.YtijjonafmmhhbaaGreatTArgs2
namespace Go.Proofs.YtijjonafmmhhbaaGreat.Ab

theorem wrap_I64 (x : Int) : I64 (IntKind.i64.wrap x) := by
  simp only [I64, IntKind.wrap, IntKind.bits, IntKind.signed, Bool.true_and]
  split <;> rename_i q <;> simp at q <;> omega
def hDReg : CH := fun args hl K => match args, hl with
  | [.ptr 0 0 0 _], [.box [.imm t z 1 l, .v (.int .i64 p)]] => ∃ bs, l = bs.map byteC ∧ BytesOk bs ∧ bs.length ≤ 1000 ∧ 0 ≤ p ∧ p ≤ bs.length ∧
      ∀ (r : Rg) (q : Int), 0 ≤ q → q ≤ bs.length → K (.agg (regC r)) [.box [.imm t z 1 (bs.map byteC), .v (.int .i64 q)]]
  | _, _ => False
theorem tmod6 {k : Int} (h0 : 0 ≤ k) (h1 : k ≤ 255) : IntKind.i64.wrap (5 + k.tmod 6) = 5 + k % 6 := by
  rw [Int.tmod_eq_emod_of_nonneg h0]; exact wrap64 (by omega)
def cx_s_l2Region : Ctx := mkC [(24, callM [.rw] false hNext), (66, callM [] false hPw)]
theorem cx_s_l2Region_ok : CtxOk Tryz.prog cx_s_l2Region := mkC_ok (mem1 ⟨s_next, fnOk Tryz.func24 rfl rfl⟩ (mem1 ⟨s_l2Pow2, fnOk Tryz.func66 rfl rfl⟩ mem0))
set_option maxRecDepth 100000 in
set_option pp.maxSteps 1500 in
set_option maxHeartbeats 4000000 in
theorem s_l2Region : HSound Tryz.prog 29 (callM [.rw] false hDReg) := by
  refine callM_sound cx_s_l2Region_ok mixed Tryz.func29 rfl fun args hl K hp => ?_
  unfold hDReg at hp
  split at hp
  · rename_i s t z l p
    obtain ⟨bs, rfl, hb, hn, hp0, hp1, hp⟩ := hp
    (refine Exists.intro bs (And.intro rfl (And.intro hb (And.intro hn (And.intro (by first | assumption | omega) (And.intro (by first | assumption | omega) ?_))))); intro k q1 _ _ _ _)
    (refine Exists.intro bs (And.intro rfl (And.intro hb (And.intro hn (And.intro (by first | assumption | omega) (And.intro (by first | assumption | omega) ?_))))); intro v q2 _ _ _ _)
    have e1 := tmod6 (k := k) (by assumption) (by assumption)
    have g1 : 0 ≤ IntKind.i64.wrap (5 + k.tmod 6) := by rw [e1]; omega
    have g2 : IntKind.i64.wrap (5 + k.tmod 6) ≤ 62 := by rw [e1]; omega
    have g3 : (2 : Int) ^ (IntKind.i64.wrap (5 + k.tmod 6)).toNat ≠ 0 := by
      have : (0 : Int) < 2 ^ (IntKind.i64.wrap (5 + k.tmod 6)).toNat := Int.pow_pos (by omega)
      omega
    repeat' ((first
      | refine And.intro (fun h1 => ?_) (fun h1 => ?_)
      | refine And.intro (by first | decide | exact g1 | exact g2 | exact g3) ?_
      | refine And.intro (show Region.lexB _ _ = true from by kernel_rfl) ?_
      | (refine Exists.intro bs (And.intro rfl (And.intro hb (And.intro hn (And.intro (by first | assumption | omega) (And.intro (by first | assumption | omega) ?_))))); intro w q3 _ _ _ _)
      | exact hp ⟨_, _, _, _, _, _⟩ _ (by assumption) (by assumption)
      | refine And.intro (show wfB _ = true from by kernel_rfl) ?_ | refine And.intro (And.intro rfl rfl) ?_ | exact And.intro rfl rfl | apply HeldC.intro | exact AV.top | (apply HeldF.intro; refine Exists.intro _ (And.intro (by assumption) ?_); refine And.intro (by decide) ?_; exact And.intro rfl rfl) | (refine And.intro (by (refine Exists.intro _ (And.intro (by assumption) ?_); refine And.intro (by decide) ?_; exact And.intro rfl rfl)) ?_) | refine Or.inl ?_) <;> try cases h1)
  · exact hp.elim

def hDRegs : CH := fun args hl K => match args, hl with
  | [.ptr 0 0 0 _], [.box [.imm t z 1 l, .v (.int .i64 p)]] => ∃ bs, l = bs.map byteC ∧ BytesOk bs ∧ bs.length ≤ 1000 ∧ 0 ≤ p ∧ p ≤ bs.length ∧
      ∀ (rs : List Rg) (q : Int), rs.length ≤ 20 → 0 ≤ q → q ≤ bs.length → K (.slc 1 0 rs.length false) [.box [.imm t z 1 (bs.map byteC), .v (.int .i64 q)], .lst 6 (rs.map regC)]
  | _, _ => False
def hSpan : CH := fun args hl K => match args, hl with
  | [.agg [.v (.int .i64 b), .v (.int .i64 l), .v _, .v _, .v _, .v _]], [] => 0 ≤ l ∧ l ≤ 62 ∧ K (.tup [.v (.int .i64 b), .v (.int .i64 (2 ^ l.toNat))]) []
  | _, _ => False
def hDAllow : CH := fun args hl K => match args, hl with
  | [.imm _ _ 1 l], [] => ∃ bs, l = bs.map byteC ∧ BytesOk bs ∧ bs.length ≤ maxLen ∧ ∀ (rs : List Rg) (a b c : Int), rs.length ≤ 20 → I64 a → K (.tup [.slc 0 0 rs.length false, .v (.int .i64 a), .v (.int .i64 b), .v (.int .i64 c)]) [.lst 6 (rs.map regC)]
  | _, _ => False
end Go.Proofs.YtijjonafmmhhbaaGreat.Ab
