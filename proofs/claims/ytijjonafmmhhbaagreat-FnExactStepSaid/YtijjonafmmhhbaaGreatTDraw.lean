/- The reader of drawn bytes. No condition. -/
import Derived.Test.YtijjonafmmhhbaaGreatTArgs
namespace Go.Proofs.YtijjonafmmhhbaaGreat.Ab

def hOpen : CH := fun args hl K => match args, hl with
  | [.imm t _ 1 l], [] => ∃ bs, l = bs.map byteC ∧ BytesOk bs ∧ bs.length ≤ maxLen ∧ ∀ cs z, BytesOk cs → cs.length ≤ 1000 → K (.ptr 0 0 0 2) [.box [.imm t z 1 (cs.map byteC), .v (.int .i64 0)]]
  | _, _ => False
set_option maxRecDepth 100000 in
set_option pp.maxSteps 1500 in
theorem s_l1Open : HSound Tryz.prog 23 (callM [] false hOpen) := by
  refine callM_sound cx0_ok mixed Tryz.func23 rfl fun args hl K hp => ?_
  unfold hOpen at hp
  split at hp
  · rename_i t z l
    obtain ⟨bs, rfl, hb, hm, hp⟩ := hp
    refine And.intro (fun h1 => ?_) (fun h1 => ?_)
    · have h1 : 1000 < bs.length := by simp at h1; omega
      refine Exists.intro 1000 (And.intro rfl (And.intro (by omega) (And.intro (by simp; omega) ?_)))
      have e : List.take (1000 - 0) (List.drop 0 (bs.map byteC)) = (bs.take 1000).map byteC := by simp
      have := hp (bs.take 1000) false (fun b h => hb b (List.mem_of_mem_take h)) (by simp; omega)
      rw [← e] at this
      exact this
    · have h1 : bs.length ≤ 1000 := by simp at h1; omega
      exact hp bs z hb h1
  · exact hp.elim

def hNext : CH := fun args hl K => match args, hl with
  | [.ptr 0 0 0 _], [.box [.imm t z 1 l, .v (.int .i64 p)]] => ∃ bs, l = bs.map byteC ∧ BytesOk bs ∧ bs.length ≤ 1000 ∧ 0 ≤ p ∧ p ≤ bs.length ∧
      ∀ v q : Int, 0 ≤ v → v ≤ 255 → 0 ≤ q → q ≤ bs.length → K (.v (.int .i64 v)) [.box [.imm t z 1 (bs.map byteC), .v (.int .i64 q)]]
  | _, _ => False
set_option maxRecDepth 100000 in
set_option pp.maxSteps 1500 in
theorem s_next : HSound Tryz.prog 24 (callM [.rw] false hNext) := by
  refine callM_sound cx0_ok mixed Tryz.func24 rfl fun args hl K hp => ?_
  unfold hNext at hp
  split at hp
  · rename_i s t z l p
    obtain ⟨bs, rfl, hb, hn, hp0, hp1, hp⟩ := hp
    obtain ⟨j, rfl⟩ := Int.eq_ofNat_of_zero_le hp0
    refine And.intro (by kernel_rfl) ?_
    refine And.intro (fun h1 => ?_) (fun h1 => ?_)
    · have h1 : j < bs.length := by simpa using h1
      have hg : (bs.map byteC)[j]? = some (byteC bs[j]) := by simp [h1]
      have hr := hb bs[j] (List.getElem_mem h1)
      refine And.intro (by kernel_rfl) ?_
      refine Exists.intro j (And.intro rfl (Exists.intro _ (And.intro hg ?_)))
      have := hp (IntKind.i64.wrap bs[j]) (IntKind.i64.wrap ((j : Int) + 1)) (by rw [wrap64 (by omega)]; omega) (by rw [wrap64 (by omega)]; omega) (by rw [wrap64 (by omega)]; omega) (by rw [wrap64 (by omega)]; omega)
      exact this
    · have := hp 0 j (by omega) (by omega) hp0 hp1
      exact this
  · exact hp.elim
end Go.Proofs.YtijjonafmmhhbaaGreat.Ab
