/- FnMemory: at a drawn memory. No condition. -/
import Derived.Test.YtegcfogbdgmajaaTMemD2
namespace Go.Proofs.Ytegcfogbdgmajaa.Ab

set_option maxRecDepth 100000 in
theorem s_l7Bytes : HSound Try.prog 101 (callM [] true hEqB) := by
  refine callM_sound cx0_ok mixed Try.func101 rfl fun args hl K hp => ?_
  unfold hEqB at hp
  split at hp
  · rename_i t z l t' z' r
    obtain ⟨cs, bs, rfl, rfl, hb, hp⟩ := hp
    refine And.intro (fun h1 => ?_) (fun h1 => ?_)
    · refine fin_b hp ?_
      have : cs ≠ bs := by rintro rfl; simp at h1
      simp [this]
    · have hlen : cs.length = bs.length := by simp at h1; omega
      clear h1
      refine Exists.intro false (Exists.intro [0, 1, 5] (Exists.intro (fun m vs h => ∃ i : Nat, i ≤ cs.length ∧ m = cs.length - i ∧ vs = [.imm t z 1 (cs.map byteC), .imm t' z' 1 (bs.map byteC), .v (.int .i64 i)] ∧ h = [] ∧ cs.take i = bs.take i) (And.intro ?_ ?_)))
      · refine Exists.intro cs.length ?_
        exact ⟨0, by omega, rfl, rfl, rfl, rfl⟩
      · intro m vs h hI
        obtain ⟨i, hi, rfl, rfl, rfl, htk⟩ := hI
        refine And.intro (fun h1 => ?_) (fun h1 => ?_)
        · simp only [decide_eq_true_eq, List.length_map] at h1
          have hlt : i < cs.length := by omega
          obtain ⟨a, hai⟩ : ∃ a, cs[i]? = some a := ⟨_, List.getElem?_eq_getElem hlt⟩
          obtain ⟨b, hbi⟩ : ∃ b, bs[i]? = some b := ⟨_, List.getElem?_eq_getElem (by omega)⟩
          refine And.intro (by kernel_rfl) ?_
          refine Exists.intro i (And.intro rfl (Exists.intro (byteC a) (And.intro (by simp [hai]) ?_)))
          refine Exists.intro i (And.intro rfl (Exists.intro (byteC b) (And.intro (by simp [hbi]) ?_)))
          refine And.intro (fun h1 => ?_) (fun h1 => ?_)
          · refine fin_b hp ?_
            have : cs ≠ bs := by
              rintro rfl
              rw [hai] at hbi
              cases hbi
              simp at h1
            simp [this]
          · have hab : a = b := by simpa using h1
            subst hab
            refine Exists.intro (cs.length - (i + 1)) (And.intro (by omega) ?_)
            refine ⟨i + 1, by omega, rfl, ?_, rfl, take_step htk hai hbi⟩
            have hw2 : IntKind.wrap .i64 ((i : Int) + 1) = ((i + 1 : Nat) : Int) := by
              rw [wrap64] <;> omega
            rw [← hw2]
        · simp only [decide_eq_false_iff_not, List.length_map] at h1
          refine fin_b hp ?_
          have : cs = bs := by
            have e1 : cs.take i = cs := List.take_of_length_le (by omega)
            have e2 : bs.take i = bs := List.take_of_length_le (by omega)
            rw [← e1, htk, e2]
          simp [this]
  · exact hp.elim

def cx_s_SameMem : Ctx := mkC [(101, callM [] true hEqB)]
theorem cx_s_SameMem_ok : CtxOk Try.prog cx_s_SameMem := mkC_ok (mem1 ⟨s_l7Bytes, fnOk Try.func101 rfl rfl⟩ mem0)
set_option maxRecDepth 100000 in
set_option pp.maxSteps 1500 in
theorem s_SameMem : HSound Try.prog 47 (callM [] true hEqM) := by
  refine callM_sound cx_s_SameMem_ok mixed Try.func47 rfl fun args hl K hp => ?_
  unfold hEqM at hp
  split at hp
  · obtain ⟨x, y, z, rfl, rfl, rfl, rfl, rfl, rfl, hx, hy, hz, hp⟩ := hp
    repeat' ((first
      | refine Exists.intro x (Exists.intro x (And.intro rfl (And.intro rfl (And.intro hx ?_))))
      | refine Exists.intro y (Exists.intro y (And.intro rfl (And.intro rfl (And.intro hy ?_))))
      | refine Exists.intro z (Exists.intro z (And.intro rfl (And.intro rfl (And.intro hz ?_))))
      | refine And.intro (fun h1 => ?_) (fun h1 => ?_)) <;> try (exfalso; simp at h1; done))
    refine fin_b hp ?_
    simp
  · exact hp.elim
def hLowBy : CH := fun args hl K => match args, hl with
  | [.v (.int .i64 v), .v (.int .i64 s)], [] => I64 v ∧ (s = 1 ∨ s = 2 ∨ s = 4) ∧ K (.v (.int .i64 (v % 256 ^ s.toNat))) []
  | _, _ => False
def cx_s_LowBytes : Ctx := mkC [(95, callM [] false hModW), (82, callM [] false hPw)]
theorem cx_s_LowBytes_ok : CtxOk Try.prog cx_s_LowBytes := mkC_ok (mem1 ⟨s_l1Word, fnOk Try.func95 rfl rfl⟩ (mem1 ⟨s_l2Pow2, fnOk Try.func82 rfl rfl⟩ mem0))
set_option maxRecDepth 100000 in
set_option pp.maxSteps 1500 in
theorem s_LowBytes : HSound Try.prog 50 (callM [] false hLowBy) := by
  refine callM_sound cx_s_LowBytes_ok mixed Try.func50 rfl fun args hl K hp => ?_
  unfold hLowBy at hp
  split at hp
  · rename_i v s
    obtain ⟨iv, hs, hp⟩ := hp
    refine And.intro iv ?_
    rcases hs with rfl | rfl | rfl
    all_goals
      repeat' ((first | refine And.intro (fun h1 => ?_) (fun h1 => ?_) | refine And.intro (by first | decide | omega | (decide)) ?_ | refine And.intro (show Region.lexB _ _ = true from by kernel_rfl) ?_ | refine And.intro (show wfB _ = true from by kernel_rfl) ?_ | refine And.intro (And.intro rfl rfl) ?_ | exact And.intro rfl rfl | apply HeldC.intro | exact AV.top | (apply HeldF.intro; refine Exists.intro _ (And.intro (by assumption) ?_); refine And.intro (by decide) ?_; exact And.intro rfl rfl) | (refine And.intro (by (refine Exists.intro _ (And.intro (by assumption) ?_); refine And.intro (by decide) ?_; exact And.intro rfl rfl)) ?_) | refine Or.inl ?_ | refine Exists.intro _ (And.intro (int_nat (by first | decide | omega | (decide))) (Exists.intro _ (And.intro rfl ?_)))) <;> try first | cases h1 | exact absurd h1 (by decide))
      refine fin_i hp ?_
      rw [Int.tmod_eq_emod_of_nonneg (by omega)]
      first
        | (show v % 256 = v % 4294967296 % 256; omega)
        | (show v % 65536 = v % 4294967296 % 65536; omega)
        | (show v % 4294967296 = v % 4294967296 % 4294967296; omega)
  · exact hp.elim

theorem byteV_ok (v : Int) (i : Nat) : 0 ≤ byteV v i ∧ byteV v i ≤ 255 := by simp only [byteV]; omega
theorem putY_ok {r : List Int} (hr : BytesOk r) (p : Nat) (v : Int) : ∀ n, BytesOk (putY r p v n)
  | 0 => hr
  | n + 1 => fun b hb => by
    rcases List.mem_or_eq_of_mem_set hb with h | rfl
    · exact putY_ok hr p v n b h
    · exact byteV_ok v n
theorem putY_get {r : List Int} {p : Nat} (v : Int) : ∀ {n j : Nat}, j < n → p + n ≤ r.length → (putY r p v n)[p + j]? = some (byteV v j)
  | 0, j, h, _ => by omega
  | n + 1, j, h, hl => by
    simp only [putY, List.getElem?_set]
    by_cases hj : j = n
    · subst hj
      rw [if_pos rfl, if_pos (by rw [putY_len]; omega)]
    · rw [if_neg (by omega)]
      exact putY_get v (by omega) (by omega)
theorem low_put {r : List Int} {p S : Nat} (v : Int) (hS : S = 1 ∨ S = 2 ∨ S = 4) (hl : p + S ≤ r.length) : lowB (((putY r p v S).drop p).take S) = v % 256 ^ S := by
  have e : ((putY r p v S).drop p).take S = (List.range S).map (byteV v) := by
    apply List.ext_getElem?
    intro j
    rw [List.getElem?_take, List.getElem?_drop, List.getElem?_map]
    split
    · rename_i hj
      rw [putY_get v hj hl, List.getElem?_range hj]
      rfl
    · rename_i hj
      rw [List.getElem?_eq_none (by simp; omega)]
      rfl
  rw [e]
  rcases hS with rfl | rfl | rfl
  · simp [List.range_succ, lowB, byteV]
  · simp only [List.range_succ, List.range_zero, List.nil_append, List.map_append, List.map_cons, List.map_nil, List.cons_append, lowB, byteV, Int.reducePow]
    omega
  · simp only [List.range_succ, List.range_zero, List.nil_append, List.map_append, List.map_cons, List.map_nil, List.cons_append, lowB, byteV, Int.reducePow]
    omega

def cx11 : Ctx := mkC [(46, callM [] false hDWrite), (42, callM [] true hWrite), (43, callM [] true hWrite), (47, callM [] true hEqM), (48, callM [] true hMemOk), (49, callM [] true hMemOk), (19, callM [] true hRead), (21, callM [] true hRead), (50, callM [] false hLowBy)]
theorem cx11_ok : CtxOk Try.prog cx11 := mkC_ok (mem1 ⟨s_DrawWrite, fnOk Try.func46 rfl rfl⟩ (mem1 ⟨s_spec_Write, fnOk Try.func42 rfl rfl⟩ (mem1 ⟨s_impl_Write, fnOk Try.func43 rfl rfl⟩ (mem1 ⟨s_SameMem, fnOk Try.func47 rfl rfl⟩ (mem1 ⟨s_impl_MemOk, fnOk Try.func48 rfl rfl⟩ (mem1 ⟨s_spec_MemOk, fnOk Try.func49 rfl rfl⟩ (mem1 ⟨s_spec_Read, fnOk Try.func19 rfl rfl⟩ (mem1 ⟨s_impl_Read, fnOk Try.func21 rfl rfl⟩ (mem1 ⟨s_LowBytes, fnOk Try.func50 rfl rfl⟩ mem0)))))))))
set_option maxRecDepth 100000 in
set_option maxHeartbeats 16000000 in
set_option pp.maxSteps 1500 in
theorem s11 (xs : List AV) (hx : ArgsOf Try.prog 3 [28] xs) : inlH cx11 Try.f11.ntmps Try.f11.results.toList (Try.f11.body.getD .skip) xs [] fun x _ => x = .v (.bool true) := by
  obtain ⟨x, _, c, rfl, hs, ha, rfl⟩ := hx
  obtain ⟨bs, rfl, hb, hm⟩ := arg_byteS hs ha
  refine And.intro (fun h1 => rfl) (fun h1 => ?_)
  refine Exists.intro bs (And.intro rfl (And.intro hb (And.intro hm ?_)))
  intro a s v wa wv
  obtain ⟨of_, or_, l1, l2, l3⟩ := memX_ok (bs := bs.take 1000) (fun b h => hb b (List.mem_of_mem_take h))
  generalize hM : memX (bs.take 1000) = M at *
  obtain ⟨f, r, o, Q⟩ := M
  simp only at *
  have l1 : f.length ≤ 1048576 := by omega
  have l2 : r.length ≤ 1048576 := by omega
  have l3 : o.length ≤ 1048576 := by omega
  have l2' : (writeF f r o a s v).1.length ≤ 1048576 := by have := writeF_len f r o a s v; omega
  have l3' : (writeF f r o a s v).2.1.length ≤ 1048576 := by have := writeF_len f r o a s v; omega
  have orw : BytesOk (writeF f r o a s v).1 := by
    unfold writeF
    repeat' split
    all_goals first | exact or_ | exact putY_ok or_ _ _ _
  repeat' ((first
    | (refine Exists.intro bs (And.intro rfl (And.intro hb (And.intro hm ?_))); intro a2 s2 v2 _ _; simp only [hM])
    | refine Exists.intro _ (And.intro (lendB _) (And.intro (lenB _) (And.intro (closed_bytes _) ?_)))
    | refine Exists.intro f (Exists.intro r (Exists.intro o (And.intro rfl (And.intro rfl (And.intro rfl (And.intro l1 (And.intro l2 (And.intro l3 (And.intro wa (And.intro wv ?_))))))))))
    | refine Exists.intro f (Exists.intro r (Exists.intro o (And.intro rfl (And.intro rfl (And.intro rfl (And.intro of_ (And.intro or_ (And.intro wa.1 (And.intro wa.2 ?_)))))))))
    | refine Exists.intro f (Exists.intro (writeF f r o a s v).1 (Exists.intro (writeF f r o a s v).2.1 (And.intro rfl (And.intro rfl (And.intro rfl (And.intro of_ (And.intro orw (And.intro wa.1 (And.intro wa.2 ?_)))))))))
    | (refine Exists.intro _ ?_; refine And.intro (lendB _) ?_; refine And.intro (lenB _) ?_; refine And.intro (closed_bytes _) ?_)
    | (refine Exists.intro f ?_; refine Exists.intro r ?_; refine Exists.intro o ?_; refine And.intro rfl ?_; refine And.intro rfl ?_; refine And.intro rfl ?_; refine And.intro rfl ?_; refine And.intro rfl ?_; refine And.intro rfl ?_; refine And.intro l1 ?_; refine And.intro l2 ?_; refine And.intro l3 ?_)
    | (refine Exists.intro f ?_; refine Exists.intro (writeF f r o a s v).1 ?_; refine Exists.intro (writeF f r o a s v).2.1 ?_; refine And.intro rfl ?_; refine And.intro rfl ?_; refine And.intro rfl ?_; refine And.intro rfl ?_; refine And.intro rfl ?_; refine And.intro rfl ?_; refine And.intro l1 ?_; refine And.intro l2' ?_; refine And.intro l3' ?_)
    | refine And.intro (fun h1 => ?_) (fun h1 => ?_)
    | refine And.intro (show wfB _ = true from by kernel_rfl) ?_ | refine And.intro (And.intro rfl rfl) ?_ | exact And.intro rfl rfl | apply HeldC.intro | exact AV.top | (apply HeldF.intro; refine Exists.intro _ (And.intro (by assumption) ?_); refine And.intro (by decide) ?_; exact And.intro rfl rfl) | (refine And.intro (by (refine Exists.intro _ (And.intro (by assumption) ?_); refine And.intro (by decide) ?_; exact And.intro rfl rfl)) ?_) | refine Or.inl ?_) <;> try first | cases h1 | (exfalso; simp at h1; done))
  · exfalso; simp_all
  · have hne : (writeF f r o a s v).2.2 ≠ 0 := by
      have : ((writeF f r o a s v).2.2 != 0) = true := by assumption
      simpa using this
    obtain ⟨e1, e2⟩ := writeF_fault hne
    simp only [e1, e2]
    repeat' (first
      | refine Exists.intro _ (And.intro (lendB _) (And.intro (lenB _) (And.intro (closed_bytes _) ?_)))
      | refine Exists.intro f (Exists.intro r (Exists.intro o (And.intro rfl (And.intro rfl (And.intro rfl (And.intro rfl (And.intro rfl (And.intro rfl (And.intro l1 (And.intro l2 (And.intro l3 ?_)))))))))))
      | refine And.intro (fun h9 => by cases h9) (fun _ => ?_)
      | exact rfl)
  · exact rfl
  · exfalso; simp_all
  all_goals
    have hw0 : (writeF f r o a s v).2.2 = 0 := by
      have : ((writeF f r o a s v).2.2 != 0) = false := by assumption
      simpa using this
    have haP : a ≠ 131072 := by
      have : (a == 131072) = false := by assumption
      simpa using this
    obtain ⟨m0, hs3, hm0, hF, hR, hq⟩ := writeF_done hw0 haP
    have hin : 65536 ≤ a ∧ a ≤ 65536 + r.length - s := of_decide_eq_true hR
    have hrd : readR f (writeF f r o a s v).1 (writeF f r o a s v).2.1 a s = (v % 256 ^ s.toNat, 0) := by
      have hws : widthB s = true := by simpa [widthB] using hs3
      have hlow := low_put (r := r) (p := (a - 65536).toNat) (S := s.toNat) v (by omega) (by omega)
      rw [hq]
      simp only [readR, putY_len, m0, hws, hm0, haP, hF, hR, cutB, hlow]
      simp
  · refine And.intro wv (And.intro hs3 ?_)
    refine And.intro (fun _ => ?_) (fun h9 => by cases h9)
    refine fin_t ?_
    rw [hrd]
    simp
  · exfalso
    rw [hrd] at h1
    simp at h1
end Go.Proofs.Ytegcfogbdgmajaa.Ab
