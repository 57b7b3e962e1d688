/- Drawn memories and regions from any place: exactly. No condition. -/
import Derived.Test.YtijjonafmmhhbaaGreatTDrawY
namespace Go.Proofs.YtijjonafmmhhbaaGreat.Ab
set_option linter.unusedVariables false
set_option linter.unusedSimpArgs false

def memZ (bs : List Int) (p : Nat) : List Int × List Int × List Int × Nat :=
  let k := nxt bs p
  let q := frX bs (adv bs p) (16 + k % 3 * 8).toNat
  (if k % 32 = 31 then List.replicate (16384 + k / 128).toNat 0 else q.1, if k % 32 = 30 then List.replicate (16384 + k / 128).toNat 0 else q.2.1, if k % 32 = 29 then List.replicate (4999 + k / 64).toNat 0 else [], q.2.2)
def hMemZ : CH := fun args hl K => match args, hl with
  | [.ptr 0 0 0 _], [.box [.imm t z 1 l, .v (.int .i64 p)]] => ∃ (bs : List Int) (P : Nat), l = bs.map byteC ∧ BytesOk bs ∧ bs.length ≤ 1000 ∧ p = P ∧ P ≤ bs.length ∧
      K (.agg [.slc 1 0 (memZ bs P).1.length false, .slc 2 0 (memZ bs P).2.1.length false, .slc 3 0 (memZ bs P).2.2.1.length false]) [.box [.imm t z 1 (bs.map byteC), .v (.int .i64 ((memZ bs P).2.2.2 : Nat))], .lst 1 ((memZ bs P).1.map byteC), .lst 1 ((memZ bs P).2.1.map byteC), .lst 1 ((memZ bs P).2.2.1.map byteC)]
  | _, _ => False
def cx_s_l1MemZ : Ctx := mkC [(24, callM [.rw] false hNextX), (65, callM [] false hLong)]
theorem cx_s_l1MemZ_ok : CtxOk Tryz.prog cx_s_l1MemZ := mkC_ok (mem1 ⟨s_nextX, fnOk Tryz.func24 rfl rfl⟩ (mem1 ⟨s_l1Long, fnOk Tryz.func65 rfl rfl⟩ mem0))
set_option maxRecDepth 100000 in
set_option pp.maxSteps 1500 in
set_option maxHeartbeats 8000000 in
theorem s_l1MemZ : HSound Tryz.prog 27 (callM [.rw] false hMemZ) := by
  refine callM_sound cx_s_l1MemZ_ok mixed Tryz.func27 rfl fun args hl K hp => ?_
  unfold hMemZ at hp
  split at hp
  · rename_i s t z l p
    obtain ⟨bs, P0, rfl, hb, hn, rfl, hP0, hp⟩ := hp
    obtain ⟨k0, k1⟩ := nxt_ok hb P0
    have hN : IntKind.i64.wrap (16 + IntKind.i64.wrap ((nxt bs P0).tmod 3 * 8)) = ((16 + nxt bs P0 % 3 * 8).toNat : Int) := by
      rw [Int.tmod_eq_emod_of_nonneg k0, wrap64 (x := nxt bs P0 % 3 * 8) (by omega), wrap64 (by omega)]
      omega
    generalize hNe : (16 + nxt bs P0 % 3 * 8).toNat = N at *
    have hN32 : N ≤ 32 := by omega
    refine Exists.intro bs (Exists.intro P0 (And.intro rfl (And.intro hb (And.intro hn (And.intro rfl (And.intro hP0 ?_))))))
    refine Exists.intro true (Exists.intro [0, 2, 3, 4, 5] (Exists.intro (fun m vs h => ∃ i : Nat, i ≤ N ∧ m = N - i ∧ vs = [.ptr 0 0 0 s, .ptr 1 0 0 3, .v (.int .i64 (nxt bs P0)), .ptr 2 0 0 3, .v (.int .i64 i)] ∧
      h = [.box [.imm t z 1 (bs.map byteC), .v (.int .i64 (frX bs (adv bs P0) i).2.2)], .box [.sl 1 [], .sl 1 [], .sl 1 []], .box [.sl 1 ((frX bs (adv bs P0) i).1.map byteC), .sl 1 ((frX bs (adv bs P0) i).2.1.map byteC), .sl 1 []]]) (And.intro ?_ ?_)))
    · refine Exists.intro [] ?_
      iterate 3 (refine Exists.intro [] (And.intro rfl (And.intro rfl (And.intro closed_nil ?_))))
      refine Exists.intro N ?_
      exact ⟨0, by omega, rfl, rfl, rfl⟩
    · intro m vs h hI
      obtain ⟨i, hi, rfl, rfl, rfl⟩ := hI
      obtain ⟨fl, rl⟩ := frX_len bs (adv bs P0) i
      have hq := frX_p (bs := bs) (p := adv bs P0) (adv_le hP0) i
      refine And.intro (by decide) ?_
      refine And.intro (fun h1 => ?_) (fun h1 => ?_)
      · rw [hN] at h1
        have hlt : i < N := by have := of_decide_eq_true h1; omega
        have hst : frX bs (adv bs P0) (i + 1) = ((frX bs (adv bs P0) i).1 ++ [IntKind.u8.wrap (nxt bs (frX bs (adv bs P0) i).2.2)], (frX bs (adv bs P0) i).2.1 ++ [IntKind.u8.wrap (nxt bs (adv bs (frX bs (adv bs P0) i).2.2))], adv bs (adv bs (frX bs (adv bs P0) i).2.2)) := rfl
        generalize frX bs (adv bs P0) i = Q at *
        obtain ⟨F, R, P⟩ := Q
        simp only at *
        have hP2 := adv_le hq
        repeat' (first
          | (refine Exists.intro bs ?_; refine Exists.intro P ?_; refine And.intro rfl ?_; refine And.intro hb ?_; refine And.intro hn ?_; refine And.intro rfl ?_; refine And.intro hq ?_; exact And.intro rfl rfl)
          | (refine Exists.intro bs ?_; refine Exists.intro (adv bs P) ?_; refine And.intro rfl ?_; refine And.intro hb ?_; refine And.intro hn ?_; refine And.intro rfl ?_; refine And.intro hP2 ?_; exact And.intro rfl rfl)
          | (refine Exists.intro [byteC (IntKind.u8.wrap (nxt bs P))] ?_; refine And.intro rfl ?_; refine And.intro rfl ?_; refine And.intro (bytes_notSl [_]) ?_; refine And.intro rfl ?_; refine And.intro (by simp; omega) ?_; refine And.intro (by simp; omega) ?_; exact And.intro rfl rfl)
          | (refine Exists.intro [byteC (IntKind.u8.wrap (nxt bs (adv bs P)))] ?_; refine And.intro rfl ?_; refine And.intro rfl ?_; refine And.intro (bytes_notSl [_]) ?_; refine And.intro rfl ?_; refine And.intro (by simp; omega) ?_; refine And.intro (by simp; omega) ?_; exact And.intro rfl rfl)
          | refine And.intro (show wfB _ = true from by kernel_rfl) ?_ | refine And.intro (And.intro rfl rfl) ?_ | exact And.intro rfl rfl | apply HeldC.intro | exact AV.top | (apply HeldF.intro; refine Exists.intro _ (And.intro (by assumption) ?_); refine And.intro (by decide) ?_; exact And.intro rfl rfl) | (refine And.intro (by (refine Exists.intro _ (And.intro (by assumption) ?_); refine And.intro (by decide) ?_; exact And.intro rfl rfl)) ?_) | refine Or.inl ?_)
        have htk : ∀ (l : List Int) (x : Int), List.take ((l.map byteC).length + [byteC x].length) (l.map byteC ++ [byteC x]) = l.map byteC ++ [byteC x] := fun l x => by rw [← List.length_append, List.take_length]
        refine Exists.intro [] ?_
        iterate 3 (refine Exists.intro [] (And.intro rfl (And.intro rfl (And.intro closed_nil ?_))))
        refine Exists.intro _ (And.intro (htk F _) (And.intro List.length_append (And.intro (closed_bytesA F [_]) ?_)))
        refine Exists.intro _ (And.intro (htk R _) (And.intro List.length_append (And.intro (closed_bytesA R [_]) ?_)))
        refine Exists.intro [] (And.intro rfl (And.intro rfl (And.intro closed_nil ?_)))
        refine Exists.intro (N - (i + 1)) (And.intro (by omega) ⟨i + 1, by omega, rfl, ?_, ?_⟩)
        · rw [wrap_succ hlt (by omega)]
        · rw [hst]
          simp only [List.map_append]
          rfl
      · rw [hN] at h1
        have hiN : i = N := by have := of_decide_eq_false h1; omega
        subst hiN
        have hM : memZ bs P0 = (if nxt bs P0 % 32 = 31 then List.replicate (16384 + nxt bs P0 / 128).toNat 0 else (frX bs (adv bs P0) i).1, if nxt bs P0 % 32 = 30 then List.replicate (16384 + nxt bs P0 / 128).toNat 0 else (frX bs (adv bs P0) i).2.1, if nxt bs P0 % 32 = 29 then List.replicate (4999 + nxt bs P0 / 64).toNat 0 else [], (frX bs (adv bs P0) i).2.2) := by
          simp only [memZ, hNe]
        generalize frX bs (adv bs P0) i = Q at *
        obtain ⟨F, R, P⟩ := Q
        simp only at *
        generalize nxt bs P0 = k at *
        have ht : k.tmod 32 = k % 32 := Int.tmod_eq_emod_of_nonneg k0
        have hd1 : IntKind.i64.wrap (k.tdiv 128) = k / 128 := by rw [Int.tdiv_eq_ediv_of_nonneg k0, wrap64 (by omega)]
        have hd2 : IntKind.i64.wrap (k.tdiv 64) = k / 64 := by rw [Int.tdiv_eq_ediv_of_nonneg k0, wrap64 (by omega)]
        have hw1 : IntKind.i64.wrap (16384 + k / 128) = 16384 + k / 128 := wrap64 (by omega)
        have hw2 : IntKind.i64.wrap (4999 + k / 64) = 4999 + k / 64 := wrap64 (by omega)
        have this := hp
        rw [hM] at this
        repeat' ((first | refine And.intro (fun h1 => ?_) (fun h1 => ?_) | refine And.intro (by first | decide | omega | ((first | (rw [hd1, hw1]; omega) | (rw [hd2, hw2]; omega)))) ?_ | refine And.intro (show Region.lexB _ _ = true from by kernel_rfl) ?_ | refine And.intro (show wfB _ = true from by kernel_rfl) ?_ | refine And.intro (And.intro rfl rfl) ?_ | exact And.intro rfl rfl | apply HeldC.intro | exact AV.top | (apply HeldF.intro; refine Exists.intro _ (And.intro (by assumption) ?_); refine And.intro (by decide) ?_; exact And.intro rfl rfl) | (refine And.intro (by (refine Exists.intro _ (And.intro (by assumption) ?_); refine And.intro (by decide) ?_; exact And.intro rfl rfl)) ?_) | refine Or.inl ?_ | refine Exists.intro _ (And.intro (int_nat (by first | decide | omega | ((first | (rw [hd1, hw1]; omega) | (rw [hd2, hw2]; omega))))) (Exists.intro _ (And.intro rfl ?_)))) <;> try first | cases h1 | exact absurd h1 (by decide))
        all_goals rename_i c1 c2
        all_goals have c3 := h1
        all_goals clear h1
        all_goals simp only [ht, beq_iff_eq, beq_eq_false_iff_ne, ne_eq] at c1 c2 c3
        all_goals try (exfalso; omega)
        all_goals simp only [c1, c2, c3, if_true, if_false, Int.reduceEq] at this
        all_goals repeat' (first | refine And.intro (closed_bytes _) ?_ | refine And.intro closed_nil ?_)
        all_goals try rw [← hw1, ← hd1] at this
        all_goals try rw [← hw2, ← hd2] at this
        all_goals simp only [List.length_replicate, List.length_nil] at this
        all_goals try rw [show F.length = (F.map byteC).length from (List.length_map _).symm] at this
        all_goals try rw [show R.length = (R.map byteC).length from (List.length_map _).symm] at this
        all_goals exact this
  · exact hp.elim

theorem memZ_ok {bs : List Int} {p : Nat} (hb : BytesOk bs) (hp : p ≤ bs.length) : BytesOk (memZ bs p).1 ∧ BytesOk (memZ bs p).2.1 ∧ (memZ bs p).1.length ≤ 20000 ∧ (memZ bs p).2.1.length ≤ 20000 ∧ (memZ bs p).2.2.1.length ≤ 20000 ∧ (memZ bs p).2.2.2 ≤ bs.length ∧ BytesOk (memZ bs p).2.2.1 := by
  obtain ⟨k0, k1⟩ := nxt_ok hb p
  have hu : ∀ x, 0 ≤ IntKind.u8.wrap x ∧ IntKind.u8.wrap x ≤ 255 := fun x => by rw [u8_wrap]; omega
  have hf : ∀ n, BytesOk (frX bs (adv bs p) n).1 ∧ BytesOk (frX bs (adv bs p) n).2.1 := by
    intro n
    induction n with
    | zero => exact ⟨fun b h => by simp [frX] at h, fun b h => by simp [frX] at h⟩
    | succ n ih =>
      refine ⟨fun b h => ?_, fun b h => ?_⟩
      · rcases List.mem_append.1 h with h | h
        · exact ih.1 b h
        · simp at h; subst h; exact hu _
      · rcases List.mem_append.1 h with h | h
        · exact ih.2 b h
        · simp at h; subst h; exact hu _
  have hz : ∀ n, BytesOk (List.replicate n 0) := fun n b h => by
    have := (List.mem_replicate.1 h).2
    omega
  obtain ⟨l1, l2⟩ := frX_len bs (adv bs p) (16 + nxt bs p % 3 * 8).toNat
  simp only [memZ]
  refine ⟨?_, ?_, ?_, ?_, ?_, frX_p (adv_le hp) _, ?_⟩
  · split
    · exact hz _
    · exact (hf _).1
  · split
    · exact hz _
    · exact (hf _).2
  rotate_left 3
  · split
    · exact hz _
    · exact fun b h => by simp at h
  all_goals split
  all_goals first | (simp; omega) | omega | simp
end Go.Proofs.YtijjonafmmhhbaaGreat.Ab
