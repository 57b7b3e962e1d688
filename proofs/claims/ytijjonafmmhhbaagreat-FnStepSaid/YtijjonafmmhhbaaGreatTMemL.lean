/- FnMemory: at a drawn memory. No condition. -/
import Derived.Test.YtijjonafmmhhbaaGreatTMemD2
namespace Go.Proofs.YtijjonafmmhhbaaGreat.Ab

set_option maxRecDepth 100000 in
theorem s_l7Bytes : HSound Tryz.prog 50 (callM [] true hEqB) := by
  refine callM_sound cx0_ok mixed Tryz.func50 rfl fun args hl K hp => ?_
  unfold hEqB at hp
  split at hp
  · rename_i t z l t' z' r
    obtain ⟨cs, bs, rfl, rfl, hb, hp⟩ := hp
    refine And.intro (fun h1 => ?_) (fun h1 => ?_)
    · refine fin_b hp ?_
      have : cs ≠ bs := by rintro rfl; simp at h1
      simp [this]
    · have hlen : cs.length = bs.length := by simp at h1; omega
      clear h1
      refine Exists.intro false (Exists.intro [0, 1, 5] (Exists.intro (fun m vs h => ∃ i : Nat, i ≤ cs.length ∧ m = cs.length - i ∧ vs = [.imm t z 1 (cs.map byteC), .imm t' z' 1 (bs.map byteC), .v (.int .i64 i)] ∧ h = [] ∧ cs.take i = bs.take i) (And.intro ?_ ?_)))
      · refine Exists.intro cs.length ?_
        exact ⟨0, by omega, rfl, rfl, rfl, rfl⟩
      · intro m vs h hI
        obtain ⟨i, hi, rfl, rfl, rfl, htk⟩ := hI
        refine And.intro (fun h1 => ?_) (fun h1 => ?_)
        · simp only [decide_eq_true_eq, List.length_map] at h1
          have hlt : i < cs.length := by omega
          obtain ⟨a, hai⟩ : ∃ a, cs[i]? = some a := ⟨_, List.getElem?_eq_getElem hlt⟩
          obtain ⟨b, hbi⟩ : ∃ b, bs[i]? = some b := ⟨_, List.getElem?_eq_getElem (by omega)⟩
          refine And.intro (by kernel_rfl) ?_
          refine Exists.intro i (And.intro rfl (Exists.intro (byteC a) (And.intro (by simp [hai]) ?_)))
          refine Exists.intro i (And.intro rfl (Exists.intro (byteC b) (And.intro (by simp [hbi]) ?_)))
          refine And.intro (fun h1 => ?_) (fun h1 => ?_)
          · refine fin_b hp ?_
            have : cs ≠ bs := by
              rintro rfl
              rw [hai] at hbi
              cases hbi
              simp at h1
            simp [this]
          · have hab : a = b := by simpa using h1
            subst hab
            refine Exists.intro (cs.length - (i + 1)) (And.intro (by omega) ?_)
            refine ⟨i + 1, by omega, rfl, ?_, rfl, take_step htk hai hbi⟩
            have hw2 : IntKind.wrap .i64 ((i : Int) + 1) = ((i + 1 : Nat) : Int) := by
              rw [wrap64] <;> omega
            rw [← hw2]
        · simp only [decide_eq_false_iff_not, List.length_map] at h1
          refine fin_b hp ?_
          have : cs = bs := by
            have e1 : cs.take i = cs := List.take_of_length_le (by omega)
            have e2 : bs.take i = bs := List.take_of_length_le (by omega)
            rw [← e1, htk, e2]
          simp [this]
  · exact hp.elim

def cx_s_SameMem : Ctx := mkC [(50, callM [] true hEqB)]
theorem cx_s_SameMem_ok : CtxOk Tryz.prog cx_s_SameMem := mkC_ok (mem1 ⟨s_l7Bytes, fnOk Tryz.func50 rfl rfl⟩ mem0)
set_option maxRecDepth 100000 in
set_option pp.maxSteps 1500 in
theorem s_SameMem : HSound Tryz.prog 8 (callM [] true hEqM) := by
  refine callM_sound cx_s_SameMem_ok mixed Tryz.func8 rfl fun args hl K hp => ?_
  unfold hEqM at hp
  split at hp
  · obtain ⟨x, y, z, rfl, rfl, rfl, rfl, rfl, rfl, hx, hy, hz, hp⟩ := hp
    repeat' ((first
      | refine Exists.intro x (Exists.intro x (And.intro rfl (And.intro rfl (And.intro hx ?_))))
      | refine Exists.intro y (Exists.intro y (And.intro rfl (And.intro rfl (And.intro hy ?_))))
      | refine Exists.intro z (Exists.intro z (And.intro rfl (And.intro rfl (And.intro hz ?_))))
      | refine And.intro (fun h1 => ?_) (fun h1 => ?_)) <;> try (exfalso; simp at h1; done))
    refine fin_b hp ?_
    simp
  · exact hp.elim
def hLowBy : CH := fun args hl K => match args, hl with
  | [.v (.int .i64 v), .v (.int .i64 s)], [] => I64 v ∧ (s = 1 ∨ s = 2 ∨ s = 4) ∧ K (.v (.int .i64 (v % 256 ^ s.toNat))) []
  | _, _ => False
theorem byteV_ok (v : Int) (i : Nat) : 0 ≤ byteV v i ∧ byteV v i ≤ 255 := by simp only [byteV]; omega
theorem putY_ok {r : List Int} (hr : BytesOk r) (p : Nat) (v : Int) : ∀ n, BytesOk (putY r p v n)
  | 0 => hr
  | n + 1 => fun b hb => by
    rcases List.mem_or_eq_of_mem_set hb with h | rfl
    · exact putY_ok hr p v n b h
    · exact byteV_ok v n
theorem putY_get {r : List Int} {p : Nat} (v : Int) : ∀ {n j : Nat}, j < n → p + n ≤ r.length → (putY r p v n)[p + j]? = some (byteV v j)
  | 0, j, h, _ => by omega
  | n + 1, j, h, hl => by
    simp only [putY, List.getElem?_set]
    by_cases hj : j = n
    · subst hj
      rw [if_pos rfl, if_pos (by rw [putY_len]; omega)]
    · rw [if_neg (by omega)]
      exact putY_get v (by omega) (by omega)
theorem low_put {r : List Int} {p S : Nat} (v : Int) (hS : S = 1 ∨ S = 2 ∨ S = 4) (hl : p + S ≤ r.length) : lowB (((putY r p v S).drop p).take S) = v % 256 ^ S := by
  have e : ((putY r p v S).drop p).take S = (List.range S).map (byteV v) := by
    apply List.ext_getElem?
    intro j
    rw [List.getElem?_take, List.getElem?_drop, List.getElem?_map]
    split
    · rename_i hj
      rw [putY_get v hj hl, List.getElem?_range hj]
      rfl
    · rename_i hj
      rw [List.getElem?_eq_none (by simp; omega)]
      rfl
  rw [e]
  rcases hS with rfl | rfl | rfl
  · simp [List.range_succ, lowB, byteV]
  · simp only [List.range_succ, List.range_zero, List.nil_append, List.map_append, List.map_cons, List.map_nil, List.cons_append, lowB, byteV, Int.reducePow]
    omega
  · simp only [List.range_succ, List.range_zero, List.nil_append, List.map_append, List.map_cons, List.map_nil, List.cons_append, lowB, byteV, Int.reducePow]
    omega

end Go.Proofs.YtijjonafmmhhbaaGreat.Ab
