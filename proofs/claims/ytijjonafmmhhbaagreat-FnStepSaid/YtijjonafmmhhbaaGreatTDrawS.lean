/- Drawn steps: exactly. No condition. -/
import Derived.Test.YtijjonafmmhhbaaGreatTDrawZ
namespace Go.Proofs.YtijjonafmmhhbaaGreat.Ab
set_option linter.unusedVariables false
set_option linter.unusedSimpArgs false

def rgl (k : Int) : Int := IntKind.i64.wrap (5 + k.tmod 6)
def rgB (k v : Int) : Int := IntKind.i64.wrap (IntKind.i64.wrap ((IntKind.i64.wrap (IntKind.i64.wrap ((IntKind.i64.wrap (k.tdiv 8)).tmod 4 * 32) + IntKind.i64.wrap ((IntKind.i64.wrap (v.tdiv 16)).tmod 4 * 128))).tdiv (2 ^ (rgl k).toNat)) * 2 ^ (rgl k).toNat)
def rgM (v b l o : Int) : Rg := ⟨b, l, o, v.tmod 2 == 1, (IntKind.i64.wrap (v.tdiv 2)).tmod 2 == 1, (IntKind.i64.wrap (v.tdiv 4)).tmod 3 == 0⟩
def rgJ (k v o j : Int) : Rg :=
  if 240 ≤ k then (if j = 0 then rgM v (rgB k v) 4 o else if j = 1 then rgM v 0 (IntKind.i64.wrap (14 + IntKind.i64.wrap (v.tdiv 128))) o else if j = 2 then rgM v (IntKind.i64.wrap (rgB k v + 16)) (rgl k) o else if j = 3 then rgM v (rgB k v) (rgl k) (IntKind.i64.wrap (256 - IntKind.i64.wrap (IntKind.i64.wrap (v.tdiv 128) * 300))) else rgM v (IntKind.i64.wrap (262144 - IntKind.i64.wrap (2 ^ (rgl k).toNat * IntKind.i64.wrap (v.tdiv 128)))) (rgl k) o)
  else rgM v (rgB k v) (rgl k) o
def rgX (bs : List Int) (p : Nat) : Rg := rgJ (nxt bs p) (nxt bs (adv bs p)) (if 8 ≤ rgl (nxt bs p) then nxt bs (adv bs (adv bs p)) else 0) ((nxt bs (adv bs p)).tmod 5)
def rgQ (bs : List Int) (p : Nat) : Nat := if 8 ≤ rgl (nxt bs p) then adv bs (adv bs (adv bs p)) else adv bs (adv bs p)
def hRegX : CH := fun args hl K => match args, hl with
  | [.ptr 0 0 0 _], [.box [.imm t z 1 l, .v (.int .i64 p)]] => ∃ (bs : List Int) (P : Nat), l = bs.map byteC ∧ BytesOk bs ∧ bs.length ≤ 1000 ∧ p = P ∧ P ≤ bs.length ∧ K (.agg (regC (rgX bs P))) [.box [.imm t z 1 (bs.map byteC), .v (.int .i64 (rgQ bs P))]]
  | _, _ => False
def cx_s_l2RegionX : Ctx := mkC [(24, callM [.rw] false hNextX), (66, callM [] false hPw)]
theorem cx_s_l2RegionX_ok : CtxOk Tryz.prog cx_s_l2RegionX := mkC_ok (mem1 ⟨s_nextX, fnOk Tryz.func24 rfl rfl⟩ (mem1 ⟨s_l2Pow2, fnOk Tryz.func66 rfl rfl⟩ mem0))
set_option maxRecDepth 100000 in
set_option pp.maxSteps 1500 in
set_option maxHeartbeats 8000000 in
theorem s_l2RegionX : HSound Tryz.prog 29 (callM [.rw] false hRegX) := by
  refine callM_sound cx_s_l2RegionX_ok mixed Tryz.func29 rfl fun args hl K hp => ?_
  unfold hRegX at hp
  split at hp
  · rename_i s t z l p
    obtain ⟨bs, P, rfl, hb, hn, rfl, hP, hp⟩ := hp
    obtain ⟨k0, k1⟩ := nxt_ok hb P
    obtain ⟨v0, v1⟩ := nxt_ok hb (adv bs P)
    unfold rgX rgQ rgJ at hp
    refine Exists.intro bs (Exists.intro P (And.intro rfl (And.intro hb (And.intro hn (And.intro rfl (And.intro hP ?_))))))
    refine Exists.intro bs (Exists.intro (adv bs P) (And.intro rfl (And.intro hb (And.intro hn (And.intro rfl (And.intro (adv_le hP) ?_))))))
    generalize nxt bs P = k at *
    generalize nxt bs (adv bs P) = v at *
    have e1 := tmod6 (k := k) k0 k1
    have g1 : 0 ≤ IntKind.i64.wrap (5 + k.tmod 6) := by rw [e1]; omega
    have g2 : IntKind.i64.wrap (5 + k.tmod 6) ≤ 62 := by rw [e1]; omega
    have g3 : (2 : Int) ^ (IntKind.i64.wrap (5 + k.tmod 6)).toNat ≠ 0 := by
      have : (0 : Int) < 2 ^ (IntKind.i64.wrap (5 + k.tmod 6)).toNat := Int.pow_pos (by omega)
      omega
    clear e1
    have er : rgl k = IntKind.i64.wrap (5 + k.tmod 6) := rfl
    repeat' ((first
      | refine And.intro (fun h1 => ?_) (fun h1 => ?_)
      | refine And.intro (by first | decide | exact g1 | exact g2 | exact g3) ?_
      | refine And.intro (show Region.lexB _ _ = true from by kernel_rfl) ?_
      | refine Exists.intro bs (Exists.intro (adv bs (adv bs P)) (And.intro rfl (And.intro hb (And.intro hn (And.intro rfl (And.intro (adv_le (adv_le hP)) ?_))))))
      | refine And.intro (show wfB _ = true from by kernel_rfl) ?_ | refine And.intro (And.intro rfl rfl) ?_ | exact And.intro rfl rfl | apply HeldC.intro | exact AV.top | (apply HeldF.intro; refine Exists.intro _ (And.intro (by assumption) ?_); refine And.intro (by decide) ?_; exact And.intro rfl rfl) | (refine And.intro (by (refine Exists.intro _ (And.intro (by assumption) ?_); refine And.intro (by decide) ?_; exact And.intro rfl rfl)) ?_) | refine Or.inl ?_) <;> try cases h1)
    all_goals rw [er] at hp
    all_goals generalize v.tmod 5 = j at *
    all_goals simp only [decide_eq_true_eq, decide_eq_false_iff_not, beq_iff_eq, beq_eq_false_iff_ne, ne_eq, ge_iff_le] at *
    all_goals repeat' split at hp
    all_goals first
      | (exfalso; omega)
      | exact hp
  · exact hp.elim
end Go.Proofs.YtijjonafmmhhbaaGreat.Ab
