/- Memories: marked and found again. No condition. -/
import Derived.Test.YtijjonafmmhhbaaGreatTWrite
namespace Go.Proofs.YtijjonafmmhhbaaGreat.Ab

/-! ### Byte: marked and found again (printed by gen/mark1.py) -/

def marksByte (k : Int) (n : Nat) : List Int := (List.range n).map fun i : Nat => IntKind.u8.wrap (k + (i : Int))
def hMarkByte : CH := fun args hl K => match args, hl with
  | [.slc 0 0 n _, .v (.int .i64 k)], [.lst 1 L] => ∃ bs : List Int, L = bs.map byteC ∧ n = bs.length ∧ bs.length ≤ 1048576 ∧ 0 ≤ k ∧ k ≤ 1099511627776 ∧ K (.v (.int .i64 (k + n))) [.lst 1 ((marksByte k n).map byteC)]
  | _, _ => False
theorem mark_stepByte (bs : List Int) (k : Int) (i : Nat) (h : i < bs.length) : ((marksByte k i ++ bs.drop i).map byteC).set i (byteC (IntKind.u8.wrap (k + (i : Int)))) = (marksByte k (i + 1) ++ bs.drop (i + 1)).map byteC := by
  have hl : ((marksByte k i).map byteC).length = i := by simp [marksByte]
  rw [List.map_append, List.set_append_right _ _ (by omega), hl, Nat.sub_self, List.drop_eq_getElem_cons h, List.map_cons, List.set_cons_zero]
  simp [marksByte, List.range_succ]
theorem closed_mByte (bs : List Int) : ClosedL (bs.map byteC) := by
  intro e he x hx
  obtain ⟨b, _, rfl⟩ := List.mem_map.1 he
  simp [byteC] at hx
  subst hx
  rfl
def cx_s_markByteS : Ctx := mkC []
theorem cx_s_markByteS_ok : CtxOk Tryz.prog cx_s_markByteS := cx0_ok
set_option maxRecDepth 100000 in
set_option pp.maxSteps 1500 in
set_option maxHeartbeats 4000000 in
theorem s_markByteS : HSound Tryz.prog 60 (callM [.rw] false hMarkByte) := by
  refine callM_sound cx_s_markByteS_ok mixed Tryz.func60 rfl fun args hl K hp => ?_
  unfold hMarkByte at hp
  split at hp
  · rename_i n z0 k _
    obtain ⟨bs, rfl, rfl, hb, hk0, hk1, hp⟩ := hp
    refine Exists.intro false (Exists.intro [0, 1, 5] (Exists.intro (fun m vs h => ∃ i : Nat, i ≤ bs.length ∧ m = bs.length - i ∧ (∃ z, vs = [.slc 0 0 bs.length z, .v (.int .i64 (k + i)), .v (.int .i64 i)]) ∧ h = [.lst 1 ((marksByte k i ++ bs.drop i).map byteC)]) (And.intro ?_ ?_)))
    · refine Exists.intro bs.length ?_
      exact ⟨0, by omega, rfl, ⟨z0, by simp⟩, rfl⟩
    · intro m vs h hI
      obtain ⟨i, hi, rfl, ⟨z, rfl⟩, rfl⟩ := hI
      refine And.intro (fun h1 => ?_) (fun h1 => ?_)
      · simp only [decide_eq_true_eq] at h1
        have hlt : i < bs.length := by omega
        have hst := mark_stepByte bs k i hlt
        have hg : ((marksByte k i ++ bs.drop i).map byteC)[0 + i]? = some (byteC bs[i]) := by
          rw [Nat.zero_add, List.getElem?_map, List.getElem?_append_right (by simp [marksByte]), show i - (marksByte k i).length = 0 by simp [marksByte], List.getElem?_drop, Nat.add_zero, List.getElem?_eq_getElem hlt]
          rfl
        generalize (marksByte k i ++ bs.drop i).map byteC = L at *
        generalize bs[i] = b0 at hg
        refine Exists.intro i (And.intro rfl (And.intro hlt ?_))
        refine Exists.intro _ (And.intro hg (And.intro (by decide) ?_))
        refine Exists.intro (bs.length - (i + 1)) (And.intro (by omega) ⟨i + 1, by omega, rfl, ⟨z, ?_⟩, ?_⟩)
        · rw [wrap_succ hlt (by omega), wrap64 (x := k + i + 1) (by omega), show k + (i : Int) + 1 = k + ((i + 1 : Nat) : Int) by omega]
        · rw [← hst, Nat.zero_add]
          rfl
      · simp only [decide_eq_false_iff_not] at h1
        have hil : i = bs.length := by omega
        subst hil
        rw [List.drop_length, List.append_nil]
        refine And.intro (closed_mByte _) ?_
        exact hp
  · exact hp.elim
def hHeldByte : CH := fun args hl K => match args, hl with
  | [.imm _ _ 1 L, .v (.int .i64 k)], [] => ∃ n : Nat, L = (marksByte k n).map byteC ∧ n ≤ 1048576 ∧ 0 ≤ k ∧ k ≤ 1099511627776 ∧ K (.v (.int .i64 (k + n))) []
  | _, _ => False
theorem marks_getByte {k : Int} {n i : Nat} (h : i < n) : ((marksByte k n).map byteC)[i]? = some (byteC (IntKind.u8.wrap (k + (i : Int)))) := by
  simp [marksByte, h]
def cx_s_heldByteS : Ctx := mkC []
theorem cx_s_heldByteS_ok : CtxOk Tryz.prog cx_s_heldByteS := cx0_ok
set_option maxRecDepth 100000 in
set_option pp.maxSteps 1500 in
set_option maxHeartbeats 4000000 in
theorem s_heldByteS : HSound Tryz.prog 62 (callM [] true hHeldByte) := by
  refine callM_sound cx_s_heldByteS_ok mixed Tryz.func62 rfl fun args hl K hp => ?_
  unfold hHeldByte at hp
  split at hp
  · rename_i t z L k
    obtain ⟨n, rfl, hb, hk0, hk1, hp⟩ := hp
    refine Exists.intro false (Exists.intro [0, 1, 5] (Exists.intro (fun m vs h => ∃ i : Nat, i ≤ n ∧ m = n - i ∧ vs = [.imm t z 1 ((marksByte k n).map byteC), .v (.int .i64 (k + i)), .v (.int .i64 i)] ∧ h = []) (And.intro ?_ ?_)))
    · refine Exists.intro n ?_
      exact ⟨0, by omega, rfl, by simp, rfl⟩
    · intro m vs h hI
      obtain ⟨i, hi, rfl, rfl, rfl⟩ := hI
      refine And.intro (fun h1 => ?_) (fun h1 => ?_)
      · have hlt : i < n := by simpa [marksByte] using h1
        have hg := marks_getByte (k := k) hlt
        clear h1
        refine Exists.intro i (And.intro rfl (Exists.intro _ (And.intro hg ?_)))
        refine And.intro (fun h1 => ?_) (fun h1 => ?_)
        · simp at h1
        refine Exists.intro (n - (i + 1)) (And.intro (by omega) ⟨i + 1, by omega, rfl, ?_, rfl⟩)
        rw [wrap_succ hlt (by omega), wrap64 (x := k + i + 1) (by omega), show k + (i : Int) + 1 = k + ((i + 1 : Nat) : Int) by omega]
      · have hil : i = n := by simp [marksByte] at h1; omega
        subst hil
        exact hp
  · exact hp.elim
theorem marks_lenByte (k : Int) (n : Nat) : ((marksByte k n).map byteC).length = n := by simp [marksByte]
theorem marks_lendByte (k : Int) (n : Nat) : List.take n (List.drop 0 ((marksByte k n).map byteC)) = (marksByte k n).map byteC := by rw [List.drop_zero, List.take_of_length_le (by rw [marks_lenByte]; exact Nat.le_refl _)]

def hMarkM : CH := fun args hl K => match args, hl with
  | [.agg [.slc 0 0 a _, .slc 1 0 b _, .slc 2 0 c _], .v (.int .i64 k)], [.lst 1 A, .lst 1 B, .lst 1 C] => ∃ x y z : List Int, A = x.map byteC ∧ B = y.map byteC ∧ C = z.map byteC ∧ a = x.length ∧ b = y.length ∧ c = z.length ∧ x.length ≤ 1048576 ∧ y.length ≤ 1048576 ∧ z.length ≤ 1048576 ∧
      0 ≤ k ∧ k ≤ 1073741824 ∧ K (.v (.int .i64 (k + a + b + c))) [.lst 1 ((marksByte k a).map byteC), .lst 1 ((marksByte (k + a) b).map byteC), .lst 1 ((marksByte (k + a + b) c).map byteC)]
  | _, _ => False
def cx_s_markMem : Ctx := mkC [(60, callM [.rw] false hMarkByte)]
theorem cx_s_markMem_ok : CtxOk Tryz.prog cx_s_markMem := mkC_ok (mem1 ⟨s_markByteS, fnOk Tryz.func60 rfl rfl⟩ mem0)
set_option maxRecDepth 100000 in
set_option pp.maxSteps 1500 in
set_option maxHeartbeats 4000000 in
theorem s_markMem : HSound Tryz.prog 19 (callM [.ag [.rw, .rw, .rw]] false hMarkM) := by
  refine callM_sound cx_s_markMem_ok mixed Tryz.func19 rfl fun args hl K hp => ?_
  unfold hMarkM at hp
  split at hp
  · obtain ⟨x, y, z, rfl, rfl, rfl, rfl, rfl, rfl, hx, hy, hz, hk0, hk1, hp⟩ := hp
    repeat' (first
      | refine Exists.intro x (And.intro rfl (And.intro rfl (And.intro hx (And.intro (by omega) (And.intro (by omega) ?_)))))
      | refine Exists.intro y (And.intro rfl (And.intro rfl (And.intro hy (And.intro (by omega) (And.intro (by omega) ?_)))))
      | refine Exists.intro z (And.intro rfl (And.intro rfl (And.intro hz (And.intro (by omega) (And.intro (by omega) ?_)))))
      | refine And.intro (closed_mByte _) ?_)
    exact hp
  · exact hp.elim
def hHeldM : CH := fun args hl K => match args, hl with
  | [.agg [.imm _ _ 1 A, .imm _ _ 1 B, .imm _ _ 1 C], .v (.int .i64 k)], [] => ∃ a b c : Nat, A = (marksByte k a).map byteC ∧ B = (marksByte (k + a) b).map byteC ∧ C = (marksByte (k + a + b) c).map byteC ∧ a ≤ 1048576 ∧ b ≤ 1048576 ∧ c ≤ 1048576 ∧
      0 ≤ k ∧ k ≤ 1073741824 ∧ K (.v (.int .i64 (k + a + b + c))) []
  | _, _ => False
def cx_s_heldMem : Ctx := mkC [(62, callM [] true hHeldByte)]
theorem cx_s_heldMem_ok : CtxOk Tryz.prog cx_s_heldMem := mkC_ok (mem1 ⟨s_heldByteS, fnOk Tryz.func62 rfl rfl⟩ mem0)
set_option maxRecDepth 100000 in
set_option pp.maxSteps 1500 in
set_option maxHeartbeats 4000000 in
theorem s_heldMem : HSound Tryz.prog 22 (callM [] true hHeldM) := by
  refine callM_sound cx_s_heldMem_ok mixed Tryz.func22 rfl fun args hl K hp => ?_
  unfold hHeldM at hp
  split at hp
  · obtain ⟨a, b, c, rfl, rfl, rfl, ha, hb, hc, hk0, hk1, hp⟩ := hp
    repeat' ((first
      | refine Exists.intro a (And.intro rfl (And.intro ha (And.intro (by omega) (And.intro (by omega) ?_))))
      | refine Exists.intro b (And.intro rfl (And.intro hb (And.intro (by omega) (And.intro (by omega) ?_))))
      | refine Exists.intro c (And.intro rfl (And.intro hc (And.intro (by omega) (And.intro (by omega) ?_))))
      | refine And.intro (fun h1 => ?_) (fun h1 => ?_)) <;> try (exfalso; simp at h1; omega))
    exact hp
  · exact hp.elim
end Go.Proofs.YtijjonafmmhhbaaGreat.Ab
