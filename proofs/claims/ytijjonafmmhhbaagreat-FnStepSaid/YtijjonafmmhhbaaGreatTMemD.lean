/- Drawn memories: exactly. No condition. -/
import Derived.Test.YtijjonafmmhhbaaGreatTWrite
import Derived.Test.YtijjonafmmhhbaaGreatTDrawR
namespace Go.Proofs.YtijjonafmmhhbaaGreat.Ab

def nxt (bs : List Int) (p : Nat) : Int := match bs[p]? with | some v => v | none => 0
def adv (bs : List Int) (p : Nat) : Nat := if p < bs.length then p + 1 else p
theorem adv_le {bs : List Int} {p : Nat} (h : p ≤ bs.length) : adv bs p ≤ bs.length := by unfold adv; split <;> omega
theorem nxt_ok {bs : List Int} (h : BytesOk bs) (p : Nat) : 0 ≤ nxt bs p ∧ nxt bs p ≤ 255 := by
  unfold nxt
  split
  · rename_i v hv; exact h v (List.mem_of_getElem? hv)
  · omega
def hOpenX : CH := fun args hl K => match args, hl with
  | [.imm t _ 1 l], [] => ∃ bs, l = bs.map byteC ∧ BytesOk bs ∧ bs.length ≤ maxLen ∧ ∀ z, K (.ptr 0 0 0 2) [.box [.imm t z 1 ((bs.take 1000).map byteC), .v (.int .i64 0)]]
  | _, _ => False
def cx_s_l1OpenX : Ctx := mkC []
theorem cx_s_l1OpenX_ok : CtxOk Tryz.prog cx_s_l1OpenX := cx0_ok
set_option maxRecDepth 100000 in
set_option pp.maxSteps 1500 in
theorem s_l1OpenX : HSound Tryz.prog 23 (callM [] false hOpenX) := by
  refine callM_sound cx_s_l1OpenX_ok mixed Tryz.func23 rfl fun args hl K hp => ?_
  unfold hOpenX at hp
  split at hp
  · rename_i t z l
    obtain ⟨bs, rfl, hb, hm, hp⟩ := hp
    refine And.intro (fun h1 => ?_) (fun h1 => ?_)
    · have h1 : 1000 < bs.length := by simp at h1; omega
      refine Exists.intro 1000 (And.intro rfl (And.intro (by omega) (And.intro (by simp; omega) ?_)))
      have e : List.take (1000 - 0) (List.drop 0 (bs.map byteC)) = (bs.take 1000).map byteC := by simp
      have := hp false
      rw [← e] at this
      exact this
    · have h1 : bs.length ≤ 1000 := by simp at h1; omega
      have := hp z
      rw [List.take_of_length_le h1] at this
      exact this
  · exact hp.elim
def hNextX : CH := fun args hl K => match args, hl with
  | [.ptr 0 0 0 _], [.box [.imm t z 1 l, .v (.int .i64 p)]] => ∃ (bs : List Int) (P : Nat), l = bs.map byteC ∧ BytesOk bs ∧ bs.length ≤ 1000 ∧ p = P ∧ P ≤ bs.length ∧ K (.v (.int .i64 (nxt bs P))) [.box [.imm t z 1 (bs.map byteC), .v (.int .i64 (adv bs P))]]
  | _, _ => False
def cx_s_nextX : Ctx := mkC []
theorem cx_s_nextX_ok : CtxOk Tryz.prog cx_s_nextX := cx0_ok
set_option maxRecDepth 100000 in
set_option pp.maxSteps 1500 in
theorem s_nextX : HSound Tryz.prog 24 (callM [.rw] false hNextX) := by
  refine callM_sound cx_s_nextX_ok mixed Tryz.func24 rfl fun args hl K hp => ?_
  unfold hNextX at hp
  split at hp
  · rename_i s t z l p
    obtain ⟨bs, j, rfl, hb, hn, rfl, hp1, hp⟩ := hp
    refine And.intro (by kernel_rfl) ?_
    refine And.intro (fun h1 => ?_) (fun h1 => ?_)
    · have h1 : j < bs.length := by simpa using h1
      have hg : (bs.map byteC)[j]? = some (byteC bs[j]) := by simp [h1]
      have hr := hb bs[j] (List.getElem_mem h1)
      refine And.intro (by kernel_rfl) ?_
      refine Exists.intro j (And.intro rfl (Exists.intro _ (And.intro hg ?_)))
      have e1 : nxt bs j = IntKind.i64.wrap bs[j] := by rw [wrap64 (by omega)]; simp [nxt, h1]
      have e2 : ((adv bs j : Nat) : Int) = IntKind.i64.wrap ((j : Int) + 1) := by rw [wrap64 (by omega)]; simp [adv, h1]
      rw [e1, e2] at hp
      exact hp
    · have h1 : ¬ j < bs.length := by simpa using h1
      have e1 : nxt bs j = 0 := by simp [nxt, show bs.length ≤ j by omega]
      have e2 : adv bs j = j := by simp [adv, h1]
      rw [e1, e2] at hp
      exact hp
  · exact hp.elim

/-- What is drawn for flash and ram. -/
def frX (bs : List Int) (p : Nat) : Nat → List Int × List Int × Nat
  | 0 => ([], [], p)
  | i + 1 => ((frX bs p i).1 ++ [IntKind.u8.wrap (nxt bs (frX bs p i).2.2)], (frX bs p i).2.1 ++ [IntKind.u8.wrap (nxt bs (adv bs (frX bs p i).2.2))], adv bs (adv bs (frX bs p i).2.2))
theorem frX_len (bs : List Int) (p : Nat) (n : Nat) : (frX bs p n).1.length = n ∧ (frX bs p n).2.1.length = n := by
  induction n with
  | zero => exact ⟨rfl, rfl⟩
  | succ n ih => simp [frX, ih]
theorem frX_p {bs : List Int} {p : Nat} (hp : p ≤ bs.length) (n : Nat) : (frX bs p n).2.2 ≤ bs.length := by
  induction n with
  | zero => exact hp
  | succ n ih => exact adv_le (adv_le ih)
def memX (bs : List Int) : List Int × List Int × List Int × Nat :=
  let k := nxt bs 0
  let q := frX bs (adv bs 0) (16 + k % 3 * 8).toNat
  (if k % 32 = 31 then List.replicate (16384 + k / 128).toNat 0 else q.1, if k % 32 = 30 then List.replicate (16384 + k / 128).toNat 0 else q.2.1, if k % 32 = 29 then List.replicate (4999 + k / 64).toNat 0 else [], q.2.2)
def hLong : CH := fun args hl K => match args, hl with
  | [.v (.int .i64 n)], [] => 0 ≤ n ∧ n ≤ 20000 ∧ K (.slc 0 0 n.toNat false) [.lst 1 ((List.replicate n.toNat 0).map byteC)]
  | _, _ => False
def cx_s_l1Long : Ctx := mkC []
theorem cx_s_l1Long_ok : CtxOk Tryz.prog cx_s_l1Long := cx0_ok
set_option maxRecDepth 100000 in
set_option pp.maxSteps 1500 in
theorem s_l1Long : HSound Tryz.prog 65 (callM [] false hLong) := by
  refine callM_sound cx_s_l1Long_ok mixed Tryz.func65 rfl fun args hl K hp => ?_
  unfold hLong at hp
  split at hp
  · rename_i n
    obtain ⟨h0, h1, hp⟩ := hp
    refine Or.inl ?_
    obtain ⟨N, rfl⟩ := Int.eq_ofNat_of_zero_le h0
    refine Exists.intro N (And.intro rfl (And.intro rfl (And.intro (by simp only; omega) ?_)))
    have e : (List.replicate N 0).map byteC = List.replicate N (byteC 0) := by simp
    rw [Int.toNat_natCast, e] at hp
    refine And.intro ?_ ?_
    · show ClosedL (List.replicate N (byteC 0))
      rw [← e]; exact closed_bytes _
    · exact hp
  · exact hp.elim
def hMemX : CH := fun args hl K => match args, hl with
  | [.ptr 0 0 0 _], [.box [.imm t z 1 l, .v (.int .i64 p)]] => ∃ bs : List Int, l = bs.map byteC ∧ BytesOk bs ∧ bs.length ≤ 1000 ∧ p = 0 ∧
      ∀ q : Nat, q ≤ bs.length → K (.agg [.slc 1 0 (memX bs).1.length false, .slc 2 0 (memX bs).2.1.length false, .slc 3 0 (memX bs).2.2.1.length false]) [.box [.imm t z 1 (bs.map byteC), .v (.int .i64 q)], .lst 1 ((memX bs).1.map byteC), .lst 1 ((memX bs).2.1.map byteC), .lst 1 ((memX bs).2.2.1.map byteC)]
  | _, _ => False
def cx_s_l1MemX : Ctx := mkC [(24, callM [.rw] false hNextX), (65, callM [] false hLong)]
theorem cx_s_l1MemX_ok : CtxOk Tryz.prog cx_s_l1MemX := mkC_ok (mem1 ⟨s_nextX, fnOk Tryz.func24 rfl rfl⟩ (mem1 ⟨s_l1Long, fnOk Tryz.func65 rfl rfl⟩ mem0))
set_option maxRecDepth 100000 in
set_option pp.maxSteps 1500 in
set_option maxHeartbeats 8000000 in
theorem s_l1MemX : HSound Tryz.prog 27 (callM [.rw] false hMemX) := by
  refine callM_sound cx_s_l1MemX_ok mixed Tryz.func27 rfl fun args hl K hp => ?_
  unfold hMemX at hp
  split at hp
  · rename_i s t z l p
    obtain ⟨bs, rfl, hb, hn, rfl, hp⟩ := hp
    obtain ⟨k0, k1⟩ := nxt_ok hb 0
    have hN : IntKind.i64.wrap (16 + IntKind.i64.wrap ((nxt bs 0).tmod 3 * 8)) = ((16 + nxt bs 0 % 3 * 8).toNat : Int) := by
      rw [Int.tmod_eq_emod_of_nonneg k0, wrap64 (x := nxt bs 0 % 3 * 8) (by omega), wrap64 (by omega)]
      omega
    generalize hNe : (16 + nxt bs 0 % 3 * 8).toNat = N at *
    have hN32 : N ≤ 32 := by omega
    refine Exists.intro bs (Exists.intro 0 (And.intro rfl (And.intro hb (And.intro hn (And.intro rfl (And.intro (by omega) ?_))))))
    refine Exists.intro true (Exists.intro [0, 2, 3, 4, 5] (Exists.intro (fun m vs h => ∃ i : Nat, i ≤ N ∧ m = N - i ∧ vs = [.ptr 0 0 0 s, .ptr 1 0 0 3, .v (.int .i64 (nxt bs 0)), .ptr 2 0 0 3, .v (.int .i64 i)] ∧
      h = [.box [.imm t z 1 (bs.map byteC), .v (.int .i64 (frX bs (adv bs 0) i).2.2)], .box [.sl 1 [], .sl 1 [], .sl 1 []], .box [.sl 1 ((frX bs (adv bs 0) i).1.map byteC), .sl 1 ((frX bs (adv bs 0) i).2.1.map byteC), .sl 1 []]]) (And.intro ?_ ?_)))
    · refine Exists.intro [] ?_
      iterate 3 (refine Exists.intro [] (And.intro rfl (And.intro rfl (And.intro closed_nil ?_))))
      refine Exists.intro N ?_
      exact ⟨0, by omega, rfl, rfl, rfl⟩
    · intro m vs h hI
      obtain ⟨i, hi, rfl, rfl, rfl⟩ := hI
      obtain ⟨fl, rl⟩ := frX_len bs (adv bs 0) i
      have hq := frX_p (bs := bs) (p := adv bs 0) (adv_le (by omega)) i
      refine And.intro (by decide) ?_
      refine And.intro (fun h1 => ?_) (fun h1 => ?_)
      · rw [hN] at h1
        have hlt : i < N := by have := of_decide_eq_true h1; omega
        have hst : frX bs (adv bs 0) (i + 1) = ((frX bs (adv bs 0) i).1 ++ [IntKind.u8.wrap (nxt bs (frX bs (adv bs 0) i).2.2)], (frX bs (adv bs 0) i).2.1 ++ [IntKind.u8.wrap (nxt bs (adv bs (frX bs (adv bs 0) i).2.2))], adv bs (adv bs (frX bs (adv bs 0) i).2.2)) := rfl
        generalize frX bs (adv bs 0) i = Q at *
        obtain ⟨F, R, P⟩ := Q
        simp only at *
        have hP2 := adv_le hq
        repeat' (first
          | (refine Exists.intro bs ?_; refine Exists.intro P ?_; refine And.intro rfl ?_; refine And.intro hb ?_; refine And.intro hn ?_; refine And.intro rfl ?_; refine And.intro hq ?_; exact And.intro rfl rfl)
          | (refine Exists.intro bs ?_; refine Exists.intro (adv bs P) ?_; refine And.intro rfl ?_; refine And.intro hb ?_; refine And.intro hn ?_; refine And.intro rfl ?_; refine And.intro hP2 ?_; exact And.intro rfl rfl)
          | (refine Exists.intro [byteC (IntKind.u8.wrap (nxt bs P))] ?_; refine And.intro rfl ?_; refine And.intro rfl ?_; refine And.intro (bytes_notSl [_]) ?_; refine And.intro rfl ?_; refine And.intro (by simp; omega) ?_; refine And.intro (by simp; omega) ?_; exact And.intro rfl rfl)
          | (refine Exists.intro [byteC (IntKind.u8.wrap (nxt bs (adv bs P)))] ?_; refine And.intro rfl ?_; refine And.intro rfl ?_; refine And.intro (bytes_notSl [_]) ?_; refine And.intro rfl ?_; refine And.intro (by simp; omega) ?_; refine And.intro (by simp; omega) ?_; exact And.intro rfl rfl)
          | refine And.intro (show wfB _ = true from by kernel_rfl) ?_ | refine And.intro (And.intro rfl rfl) ?_ | exact And.intro rfl rfl | apply HeldC.intro | exact AV.top | (apply HeldF.intro; refine Exists.intro _ (And.intro (by assumption) ?_); refine And.intro (by decide) ?_; exact And.intro rfl rfl) | (refine And.intro (by (refine Exists.intro _ (And.intro (by assumption) ?_); refine And.intro (by decide) ?_; exact And.intro rfl rfl)) ?_) | refine Or.inl ?_)
        have htk : ∀ (l : List Int) (x : Int), List.take ((l.map byteC).length + [byteC x].length) (l.map byteC ++ [byteC x]) = l.map byteC ++ [byteC x] := fun l x => by rw [← List.length_append, List.take_length]
        refine Exists.intro [] ?_
        iterate 3 (refine Exists.intro [] (And.intro rfl (And.intro rfl (And.intro closed_nil ?_))))
        refine Exists.intro _ (And.intro (htk F _) (And.intro List.length_append (And.intro (closed_bytesA F [_]) ?_)))
        refine Exists.intro _ (And.intro (htk R _) (And.intro List.length_append (And.intro (closed_bytesA R [_]) ?_)))
        refine Exists.intro [] (And.intro rfl (And.intro rfl (And.intro closed_nil ?_)))
        refine Exists.intro (N - (i + 1)) (And.intro (by omega) ⟨i + 1, by omega, rfl, ?_, ?_⟩)
        · rw [wrap_succ hlt (by omega)]
        · rw [hst]
          simp only [List.map_append]
          rfl
      · rw [hN] at h1
        have hiN : i = N := by have := of_decide_eq_false h1; omega
        subst hiN
        have hM : memX bs = (if nxt bs 0 % 32 = 31 then List.replicate (16384 + nxt bs 0 / 128).toNat 0 else (frX bs (adv bs 0) i).1, if nxt bs 0 % 32 = 30 then List.replicate (16384 + nxt bs 0 / 128).toNat 0 else (frX bs (adv bs 0) i).2.1, if nxt bs 0 % 32 = 29 then List.replicate (4999 + nxt bs 0 / 64).toNat 0 else [], (frX bs (adv bs 0) i).2.2) := by
          simp only [memX, hNe]
        generalize frX bs (adv bs 0) i = Q at *
        obtain ⟨F, R, P⟩ := Q
        simp only at *
        generalize nxt bs 0 = k at *
        have ht : k.tmod 32 = k % 32 := Int.tmod_eq_emod_of_nonneg k0
        have hd1 : IntKind.i64.wrap (k.tdiv 128) = k / 128 := by rw [Int.tdiv_eq_ediv_of_nonneg k0, wrap64 (by omega)]
        have hd2 : IntKind.i64.wrap (k.tdiv 64) = k / 64 := by rw [Int.tdiv_eq_ediv_of_nonneg k0, wrap64 (by omega)]
        have hw1 : IntKind.i64.wrap (16384 + k / 128) = 16384 + k / 128 := wrap64 (by omega)
        have hw2 : IntKind.i64.wrap (4999 + k / 64) = 4999 + k / 64 := wrap64 (by omega)
        have this := hp P hq
        rw [hM] at this
        repeat' ((first | refine And.intro (fun h1 => ?_) (fun h1 => ?_) | refine And.intro (by first | decide | omega | ((first | (rw [hd1, hw1]; omega) | (rw [hd2, hw2]; omega)))) ?_ | refine And.intro (show Region.lexB _ _ = true from by kernel_rfl) ?_ | refine And.intro (show wfB _ = true from by kernel_rfl) ?_ | refine And.intro (And.intro rfl rfl) ?_ | exact And.intro rfl rfl | apply HeldC.intro | exact AV.top | (apply HeldF.intro; refine Exists.intro _ (And.intro (by assumption) ?_); refine And.intro (by decide) ?_; exact And.intro rfl rfl) | (refine And.intro (by (refine Exists.intro _ (And.intro (by assumption) ?_); refine And.intro (by decide) ?_; exact And.intro rfl rfl)) ?_) | refine Or.inl ?_ | refine Exists.intro _ (And.intro (int_nat (by first | decide | omega | ((first | (rw [hd1, hw1]; omega) | (rw [hd2, hw2]; omega))))) (Exists.intro _ (And.intro rfl ?_)))) <;> try first | cases h1 | exact absurd h1 (by decide))
        all_goals rename_i c1 c2
        all_goals have c3 := h1
        all_goals clear h1
        all_goals simp only [ht, beq_iff_eq, beq_eq_false_iff_ne, ne_eq] at c1 c2 c3
        all_goals try (exfalso; omega)
        all_goals simp only [c1, c2, c3, if_true, if_false, Int.reduceEq] at this
        all_goals repeat' (first | refine And.intro (closed_bytes _) ?_ | refine And.intro closed_nil ?_)
        all_goals try rw [← hw1, ← hd1] at this
        all_goals try rw [← hw2, ← hd2] at this
        all_goals simp only [List.length_replicate, List.length_nil] at this
        all_goals try rw [show F.length = (F.map byteC).length from (List.length_map _).symm] at this
        all_goals try rw [show R.length = (R.map byteC).length from (List.length_map _).symm] at this
        all_goals exact this
  · exact hp.elim

theorem memX_ok {bs : List Int} (hb : BytesOk bs) : BytesOk (memX bs).1 ∧ BytesOk (memX bs).2.1 ∧ (memX bs).1.length ≤ 20000 ∧ (memX bs).2.1.length ≤ 20000 ∧ (memX bs).2.2.1.length ≤ 20000 := by
  obtain ⟨k0, k1⟩ := nxt_ok hb 0
  have hu : ∀ x, 0 ≤ IntKind.u8.wrap x ∧ IntKind.u8.wrap x ≤ 255 := fun x => by rw [u8_wrap]; omega
  have hf : ∀ n, BytesOk (frX bs (adv bs 0) n).1 ∧ BytesOk (frX bs (adv bs 0) n).2.1 := by
    intro n
    induction n with
    | zero => exact ⟨fun b h => by simp [frX] at h, fun b h => by simp [frX] at h⟩
    | succ n ih =>
      refine ⟨fun b h => ?_, fun b h => ?_⟩
      · rcases List.mem_append.1 h with h | h
        · exact ih.1 b h
        · simp at h; subst h; exact hu _
      · rcases List.mem_append.1 h with h | h
        · exact ih.2 b h
        · simp at h; subst h; exact hu _
  have hz : ∀ n, BytesOk (List.replicate n 0) := fun n b h => by
    have := (List.mem_replicate.1 h).2
    omega
  obtain ⟨l1, l2⟩ := frX_len bs (adv bs 0) (16 + nxt bs 0 % 3 * 8).toNat
  simp only [memX]
  refine ⟨?_, ?_, ?_, ?_, ?_⟩
  · split
    · exact hz _
    · exact (hf _).1
  · split
    · exact hz _
    · exact (hf _).2
  all_goals split
  all_goals first | (simp; omega) | omega | simp
def hWhere : CH := fun args hl K => match args, hl with
  | [.ptr 0 0 0 _, .agg [.slc 1 0 a _, .slc 2 0 b _, .slc 3 0 c _]], [.box [.imm t z 1 l, .v (.int .i64 p)], .lst 1 A, .lst 1 B, .lst 1 C] => ∃ bs f r o : List Int, l = bs.map byteC ∧ BytesOk bs ∧ bs.length ≤ 1000 ∧ 0 ≤ p ∧ p ≤ bs.length ∧ A = f.map byteC ∧ B = r.map byteC ∧ C = o.map byteC ∧
      ∀ (a s : Int) (q : Int), I64 a → 0 ≤ q → q ≤ bs.length → K (.tup [.v (.int .i64 a), .v (.int .i64 s)]) [.box [.imm t z 1 (bs.map byteC), .v (.int .i64 q)], .lst 1 (f.map byteC), .lst 1 (r.map byteC), .lst 1 (o.map byteC)]
  | _, _ => False
end Go.Proofs.YtijjonafmmhhbaaGreat.Ab
