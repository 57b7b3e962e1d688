/- Write: both programs answer alike. No condition. -/
import Derived.Test.YtijjonafmmhhbaaGreatTRead
namespace Go.Proofs.YtijjonafmmhhbaaGreat.Ab

def cx_s_l1Bytes : Ctx := mkC []
theorem cx_s_l1Bytes_ok : CtxOk Tryz.prog cx_s_l1Bytes := cx0_ok
set_option maxRecDepth 100000 in
set_option pp.maxSteps 1500 in
theorem s_l1Bytes : HSound Tryz.prog 67 (callM [] true hToB) := by
  refine callM_sound cx_s_l1Bytes_ok mixed Tryz.func67 rfl fun args hl K hp => ?_
  unfold hToB at hp
  split at hp
  · rename_i t z l
    obtain ⟨bs, rfl, hb, hp⟩ := hp
    refine Or.inl ?_
    repeat' (first
      | refine And.intro (closed_bytes bs) ?_
      | refine And.intro (bytes_notSl bs) ?_
      | refine And.intro rfl ?_
      | refine And.intro (by simp; omega) ?_)
    have e : ([] : List (List AV)).length + (bs.map byteC).length = bs.length := by simp
    rw [← e] at hp
    exact hp
  · exact hp.elim
def cx_s_Clone : Ctx := mkC []
theorem cx_s_Clone_ok : CtxOk Tryz.prog cx_s_Clone := cx0_ok
set_option maxRecDepth 100000 in
set_option pp.maxSteps 1500 in
theorem s_Clone : HSound Tryz.prog 76 (callM [] true hToB) := by
  refine callM_sound cx_s_Clone_ok mixed Tryz.func76 rfl fun args hl K hp => ?_
  unfold hToB at hp
  split at hp
  · rename_i t z l
    obtain ⟨bs, rfl, hb, hp⟩ := hp
    refine Or.inl ?_
    refine And.intro (fun h0 => ?_) ?_
    · refine And.intro (fun _ => ?_) (fun h1 => by cases h1)
      refine Or.inr ?_
      have : bs = [] := by simpa using h0
      subst this
      refine And.intro closed_nil ?_
      exact hp
    · refine And.intro (fun h1 => by cases h1) (fun _ => ?_)
      repeat' (first
        | refine And.intro (closed_bytes bs) ?_
        | refine And.intro (bytes_notSl bs) ?_
        | refine And.intro rfl ?_
        | refine And.intro (by simp; omega) ?_)
      have e : ([] : List (List AV)).length + (bs.map byteC).length = bs.length := by simp
      rw [← e] at hp
      exact hp
  · exact hp.elim
def cx_s_l1Copy : Ctx := mkC [(67, callM [] true hToB)]
theorem cx_s_l1Copy_ok : CtxOk Tryz.prog cx_s_l1Copy := mkC_ok (mem1 ⟨s_l1Bytes, fnOk Tryz.func67 rfl rfl⟩ mem0)
set_option maxRecDepth 100000 in
set_option pp.maxSteps 1500 in
theorem s_l1Copy : HSound Tryz.prog 31 (callM [] true hToM) := by
  refine callM_sound cx_s_l1Copy_ok mixed Tryz.func31 rfl fun args hl K hp => ?_
  unfold hToM at hp
  split at hp
  · rename_i _ _ _ _ _ _ _ _ _
    obtain ⟨a, b, c, rfl, rfl, rfl, ha, hb, hc, hp⟩ := hp
    repeat' (first
      | (refine Exists.intro a ?_; refine And.intro rfl ?_; refine And.intro ha ?_; exact And.intro rfl rfl)
      | (refine Exists.intro b ?_; refine And.intro rfl ?_; refine And.intro hb ?_; exact And.intro rfl rfl)
      | (refine Exists.intro c ?_; refine And.intro rfl ?_; refine And.intro hc ?_; exact And.intro rfl rfl)
      | refine And.intro (show wfB _ = true from by kernel_rfl) ?_ | refine And.intro (And.intro rfl rfl) ?_ | exact And.intro rfl rfl | apply HeldC.intro | exact AV.top | (apply HeldF.intro; refine Exists.intro _ (And.intro (by assumption) ?_); refine And.intro (by decide) ?_; exact And.intro rfl rfl) | (refine And.intro (by (refine Exists.intro _ (And.intro (by assumption) ?_); refine And.intro (by decide) ?_; exact And.intro rfl rfl)) ?_) | refine Or.inl ?_)
    refine And.intro (closed_bytes a) (And.intro (closed_bytes b) (And.intro (closed_bytes c) ?_))
    exact hp
  · exact hp.elim
def cx_s_clone : Ctx := mkC [(76, callM [] true hToB)]
theorem cx_s_clone_ok : CtxOk Tryz.prog cx_s_clone := mkC_ok (mem1 ⟨s_Clone, fnOk Tryz.func76 rfl rfl⟩ mem0)
set_option maxRecDepth 100000 in
set_option pp.maxSteps 1500 in
theorem s_clone : HSound Tryz.prog 43 (callM [] true hToM) := by
  refine callM_sound cx_s_clone_ok mixed Tryz.func43 rfl fun args hl K hp => ?_
  unfold hToM at hp
  split at hp
  · rename_i _ _ _ _ _ _ _ _ _
    obtain ⟨a, b, c, rfl, rfl, rfl, ha, hb, hc, hp⟩ := hp
    repeat' (first
      | (refine Exists.intro a ?_; refine And.intro rfl ?_; refine And.intro ha ?_; exact And.intro rfl rfl)
      | (refine Exists.intro b ?_; refine And.intro rfl ?_; refine And.intro hb ?_; exact And.intro rfl rfl)
      | (refine Exists.intro c ?_; refine And.intro rfl ?_; refine And.intro hc ?_; exact And.intro rfl rfl)
      | refine And.intro (show wfB _ = true from by kernel_rfl) ?_ | refine And.intro (And.intro rfl rfl) ?_ | exact And.intro rfl rfl | apply HeldC.intro | exact AV.top | (apply HeldF.intro; refine Exists.intro _ (And.intro (by assumption) ?_); refine And.intro (by decide) ?_; exact And.intro rfl rfl) | (refine And.intro (by (refine Exists.intro _ (And.intro (by assumption) ?_); refine And.intro (by decide) ?_; exact And.intro rfl rfl)) ?_) | refine Or.inl ?_)
    refine And.intro (closed_bytes a) (And.intro (closed_bytes b) (And.intro (closed_bytes c) ?_))
    exact hp
  · exact hp.elim

def byteV (v : Int) (i : Nat) : Int := v / 256 ^ i % 256
def putY (r : List Int) (p : Nat) (v : Int) : Nat → List Int
  | 0 => r
  | i + 1 => (putY r p v i).set (p + i) (byteV v i)
theorem putY_len (r : List Int) (p : Nat) (v : Int) (n : Nat) : (putY r p v n).length = r.length := by
  induction n with
  | zero => rfl
  | succ n ih => simp [putY, ih]
def writeF (f r o : List Int) (a s v : Int) : List Int × List Int × Int :=
  if memOk f.length r.length o.length = false ∨ widthB s = false then (r, o, 2)
  else if a.tmod s ≠ 0 then (r, o, 1)
  else if a = 131072 then (if 5000 ≤ o.length then (r, o, 4) else (r, o ++ [byteV v 0], 0))
  else if insideB a s 0 f.length then (r, o, 3)
  else if insideB a s 65536 r.length = false then (r, o, 2)
  else (putY r (a - 65536).toNat v s.toNat, o, 0)
theorem u8_wrap (x : Int) : IntKind.u8.wrap x = x % 256 := by
  simp only [IntKind.wrap, IntKind.bits, IntKind.signed, Bool.false_and]
  simp
def hModW : CH := fun args hl K => match args, hl with
  | [.v (.int .i64 v)], [] => I64 v ∧ K (.v (.int .i64 (v % 4294967296))) []
  | _, _ => False
def cx_iMod : Ctx := mkC []
theorem cx_iMod_ok : CtxOk Tryz.prog cx_iMod := cx0_ok
def iMod : Handler := inlH cx_iMod Tryz.f74.ntmps Tryz.f74.results.toList (Tryz.f74.body.getD .skip)
theorem s_iMod : HSound Tryz.prog 74 iMod := inlF cx_iMod_ok mixed Tryz.func74 rfl
def cx_s_l1Word : Ctx := mkC [(74, iMod)]
theorem cx_s_l1Word_ok : CtxOk Tryz.prog cx_s_l1Word := mkC_ok (mem1 ⟨s_iMod, fnOk Tryz.func74 rfl rfl⟩ mem0)
set_option maxRecDepth 100000 in
set_option pp.maxSteps 1500 in
theorem s_l1Word : HSound Tryz.prog 37 (callM [] false hModW) := by
  refine callM_sound cx_s_l1Word_ok mixed Tryz.func37 rfl fun args hl K hp => ?_
  unfold hModW at hp
  split at hp
  · rename_i v
    obtain ⟨iv, hp⟩ := hp
    simp only [I64] at iv
    repeat' ((first | refine And.intro (fun h1 => ?_) (fun h1 => ?_) | refine And.intro (by decide) ?_ | refine And.intro (show wfB _ = true from by kernel_rfl) ?_ | refine And.intro (And.intro rfl rfl) ?_ | exact And.intro rfl rfl | apply HeldC.intro | exact AV.top | (apply HeldF.intro; refine Exists.intro _ (And.intro (by assumption) ?_); refine And.intro (by decide) ?_; exact And.intro rfl rfl) | (refine And.intro (by (refine Exists.intro _ (And.intro (by assumption) ?_); refine And.intro (by decide) ?_; exact And.intro rfl rfl)) ?_) | refine Or.inl ?_) <;> try cases h1)
    refine fin_i hp ?_
    have h1 : v.tmod 4294967296 = if 0 ≤ v then v % 4294967296 else -((-v) % 4294967296) := by
      split
      · exact Int.tmod_eq_emod_of_nonneg (by assumption)
      · have : v = -(-v) := by omega
        conv => lhs; rw [this, Int.neg_tmod, Int.tmod_eq_emod_of_nonneg (by omega)]
    have hb : -4294967296 < v.tmod 4294967296 ∧ v.tmod 4294967296 < 4294967296 := by rw [h1]; split <;> omega
    rw [wrap64 (by omega), Int.tmod_eq_emod_of_nonneg (by omega), h1]
    split <;> omega
  · exact hp.elim
def hLPut : CH := fun args hl K => match args, hl with
  | [.slc 0 0 n z, .v (.int .i64 p), .v (.int .i64 s), .v (.int .i64 v)], [.lst 1 L] => ∃ (bs : List Int) (P S : Nat), L = bs.map byteC ∧ n = bs.length ∧ p = P ∧ s = S ∧ S ≤ 4 ∧ P + S ≤ bs.length ∧ bs.length ≤ 1048576 ∧ 0 ≤ v ∧ v < 4294967296 ∧ K (.tup []) [.lst 1 ((putY bs P v S).map byteC)]
  | _, _ => False
def cx_s_l1Put : Ctx := mkC []
theorem cx_s_l1Put_ok : CtxOk Tryz.prog cx_s_l1Put := cx0_ok
set_option maxRecDepth 100000 in
set_option pp.maxSteps 1500 in
set_option maxHeartbeats 4000000 in
theorem s_l1Put : HSound Tryz.prog 28 (callM [.rw] false hLPut) := by
  refine callM_sound cx_s_l1Put_ok mixed Tryz.func28 rfl fun args hl K hp => ?_
  unfold hLPut at hp
  split at hp
  · rename_i n z p s v L
    obtain ⟨bs, P, S, rfl, rfl, rfl, rfl, hS, hPS, hlen, hv0, hv1, hp⟩ := hp
    refine Exists.intro false (Exists.intro [0, 1, 2, 3, 8] (Exists.intro (fun m vs h => ∃ i : Nat, i ≤ S ∧ m = S - i ∧ (∃ z, vs = [.slc 0 0 bs.length z, .v (.int .i64 P), .v (.int .i64 S), .v (.int .i64 (v / 256 ^ i)), .v (.int .i64 i)]) ∧ h = [.lst 1 ((putY bs P v i).map byteC)]) (And.intro ?_ ?_)))
    · refine Exists.intro S ?_
      exact ⟨0, by omega, rfl, ⟨z, by simp⟩, rfl⟩
    · intro m vs h hI
      obtain ⟨i, hi, rfl, ⟨z, rfl⟩, rfl⟩ := hI
      refine And.intro (fun h1 => ?_) (fun h1 => ?_)
      · simp only [decide_eq_true_eq] at h1
        have hlt : i < S := by omega
        have hq0 : 0 ≤ v / 256 ^ i := Int.ediv_nonneg hv0 (Int.le_of_lt (Int.pow_pos (by omega)))
        have hq1 : v / 256 ^ i ≤ v := Int.ediv_le_self _ hv0
        have hwp : IntKind.i64.wrap ((P : Int) + i) = ((P + i : Nat) : Int) := by rw [wrap64 (by omega)]; simp
        have hb : IntKind.u8.wrap ((v / 256 ^ i).tmod 256) = byteV v i := by
          rw [u8_wrap, Int.tmod_eq_emod_of_nonneg hq0, Int.emod_emod_of_dvd _ (Int.dvd_refl _)]; rfl
        have hd : IntKind.i64.wrap ((v / 256 ^ i).tdiv 256) = v / 256 ^ (i + 1) := by
          rw [Int.tdiv_eq_ediv_of_nonneg hq0, Int.ediv_ediv_of_nonneg (Int.le_of_lt (Int.pow_pos (by omega))), ← Int.pow_succ, wrap64]
          have h3 : 0 ≤ v / 256 ^ (i + 1) := Int.ediv_nonneg hv0 (Int.le_of_lt (Int.pow_pos (by omega)))
          have h4 : v / 256 ^ (i + 1) ≤ v := Int.ediv_le_self _ hv0
          exact ⟨Int.le_trans (by decide) h3, Int.le_trans h4 (by omega)⟩
        have hg : ((putY bs P v i).map byteC)[0 + (P + i)]? = some (byteC (putY bs P v i)[P + i]!) := by
          rw [Nat.zero_add, List.getElem?_map, List.getElem?_eq_getElem (by rw [putY_len]; omega)]
          simp [putY_len, show P + i < bs.length by omega]
        refine And.intro (by decide) ?_
        refine Exists.intro (P + i) (And.intro hwp (And.intro (by omega) ?_))
        refine Exists.intro _ (And.intro hg (And.intro (by decide) ?_))
        refine And.intro (by decide) ?_
        refine Exists.intro (S - (i + 1)) (And.intro (by omega) ⟨i + 1, by omega, rfl, ⟨z, ?_⟩, ?_⟩)
        · rw [hd, wrap_succ hlt (by omega)]
        · rw [hb]
          simp only [putY, List.map_set, Nat.zero_add]
          rfl
      · simp only [decide_eq_false_iff_not] at h1
        have : i = S := by omega
        subst this
        refine And.intro (closed_bytes _) ?_
        exact hp
  · exact hp.elim

theorem closed_bytesA (a b : List Int) : ClosedL (a.map byteC ++ b.map byteC) := by rw [← List.map_append]; exact closed_bytes _
def hWrite : CH := fun args hl K => match args, hl with
  | [.agg [.imm _ _ 1 x, .imm _ _ 1 y, .imm _ _ 1 z], .v (.int .i64 a), .v (.int .i64 s), .v (.int .i64 v)], [] => ∃ f r o : List Int, x = f.map byteC ∧ y = r.map byteC ∧ z = o.map byteC ∧ f.length ≤ 1048576 ∧ r.length ≤ 1048576 ∧ o.length ≤ 1048576 ∧ I64 a ∧ I64 v ∧
      K (.tup [.agg [.slc 0 0 f.length false, .slc 1 0 (writeF f r o a s v).1.length false, .slc 2 0 (writeF f r o a s v).2.1.length false], .v (.int .i64 (writeF f r o a s v).2.2)]) [.lst 1 (f.map byteC), .lst 1 ((writeF f r o a s v).1.map byteC), .lst 1 ((writeF f r o a s v).2.1.map byteC)]
  | _, _ => False
theorem byteV_mod (v : Int) (i : Nat) (hi : i < 4) : byteV (v % 4294967296) i = byteV v i := by
  simp only [byteV]
  have : i = 0 ∨ i = 1 ∨ i = 2 ∨ i = 3 := by omega
  rcases this with rfl | rfl | rfl | rfl <;> simp only [Int.reducePow] <;> omega
theorem putY_mod (r : List Int) (p : Nat) (v : Int) : ∀ n, n ≤ 4 → putY r p (v % 4294967296) n = putY r p v n
  | 0, _ => rfl
  | n + 1, h => by simp only [putY]; rw [putY_mod r p v n (by omega), byteV_mod v n (by omega)]
def cx_s_spec_Write : Ctx := mkC [(31, callM [] true hToM), (33, callM [] true hMemOk), (68, callM [] true hSize), (37, callM [] false hModW), (71, callM [] true hInside), (28, callM [.rw] false hLPut)]
theorem cx_s_spec_Write_ok : CtxOk Tryz.prog cx_s_spec_Write := mkC_ok (mem1 ⟨s_l1Copy, fnOk Tryz.func31 rfl rfl⟩ (mem1 ⟨s_spec_MemOk, fnOk Tryz.func33 rfl rfl⟩ (mem1 ⟨s_l1Size, fnOk Tryz.func68 rfl rfl⟩ (mem1 ⟨s_l1Word, fnOk Tryz.func37 rfl rfl⟩ (mem1 ⟨s_l1Inside, fnOk Tryz.func71 rfl rfl⟩ (mem1 ⟨s_l1Put, fnOk Tryz.func28 rfl rfl⟩ mem0))))))
set_option maxRecDepth 100000 in
set_option pp.maxSteps 1500 in
set_option maxHeartbeats 4000000 in
theorem s_spec_Write : HSound Tryz.prog 75 (callM [] true hWrite) := by
  refine callM_sound cx_s_spec_Write_ok mixed Tryz.func75 rfl fun args hl K hp => ?_
  unfold hWrite at hp
  split at hp
  · rename_i x y z a s v
    obtain ⟨f, r, o, rfl, rfl, rfl, hf, hr, ho, ia, iv, hp⟩ := hp
    simp only [I64] at ia iv
    refine Exists.intro f (Exists.intro r (Exists.intro o (And.intro rfl (And.intro rfl (And.intro rfl (And.intro hf (And.intro hr (And.intro ho ?_))))))))
    have hres : ∀ q, writeF f r o a s v = q → K (.tup [.agg [.slc 0 0 f.length false, .slc 1 0 q.1.length false, .slc 2 0 q.2.1.length false], .v (.int .i64 q.2.2)]) [.lst 1 (f.map byteC), .lst 1 (q.1.map byteC), .lst 1 (q.2.1.map byteC)] := fun q h => h ▸ hp
    clear hp
    repeat' ((first | refine And.intro (fun h1 => ?_) (fun h1 => ?_) | refine And.intro (by decide) ?_ | refine And.intro (show wfB _ = true from by kernel_rfl) ?_ | refine And.intro (And.intro rfl rfl) ?_ | exact And.intro rfl rfl | apply HeldC.intro | exact AV.top | (apply HeldF.intro; refine Exists.intro _ (And.intro (by assumption) ?_); refine And.intro (by decide) ?_; exact And.intro rfl rfl) | (refine And.intro (by (refine Exists.intro _ (And.intro (by assumption) ?_); refine And.intro (by decide) ?_; exact And.intro rfl rfl)) ?_) | refine Or.inl ?_) <;> try cases h1)
    · refine And.intro (closed_bytes f) (And.intro (closed_bytes r) (And.intro (closed_bytes o) ?_))
      exact hres (r, o, 2) (by simp only [List.length_map, Bool.not_eq_true'] at h1; simp [writeF, h1])
    · refine And.intro (closed_bytes f) (And.intro (closed_bytes r) (And.intro (closed_bytes o) ?_))
      exact hres (r, o, 2) (by simp only [Bool.not_eq_true'] at h1; simp [writeF, h1])
    have m0 : memOk f.length r.length o.length = true := by
      have : (!memOk (List.map byteC f).length (List.map byteC r).length (List.map byteC o).length) = false := by assumption
      simpa using this
    have m1 : widthB s = true := by
      have : (!widthB s) = false := by assumption
      simpa using this
    have hs : s = 1 ∨ s = 2 ∨ s = 4 := by simpa [widthB] using m1
    have hfl : f.length ≤ 16384 ∧ r.length ≤ 16384 ∧ o.length ≤ 5000 := by simpa [memOk] using m0
    have hsne : s ≠ 0 := by omega
    refine And.intro hsne ?_
    refine And.intro (fun h2 => ?_) (fun h2 => ?_)
    · refine And.intro (closed_bytes f) (And.intro (closed_bytes r) (And.intro (closed_bytes o) ?_))
      exact hres (r, o, 1) (by simp only [bne_iff_ne, ne_eq] at h2; simp [writeF, m0, m1, h2])
    have h2 : a.tmod s = 0 := by simpa using h2
    refine And.intro iv ?_
    repeat' ((first | refine And.intro (fun h1 => ?_) (fun h1 => ?_) | refine And.intro (by first | decide | omega | ((first | (simp only [List.length_map]; omega) | omega))) ?_ | refine And.intro (show Region.lexB _ _ = true from by kernel_rfl) ?_ | refine And.intro (show wfB _ = true from by kernel_rfl) ?_ | refine And.intro (And.intro rfl rfl) ?_ | exact And.intro rfl rfl | apply HeldC.intro | exact AV.top | (apply HeldF.intro; refine Exists.intro _ (And.intro (by assumption) ?_); refine And.intro (by decide) ?_; exact And.intro rfl rfl) | (refine And.intro (by (refine Exists.intro _ (And.intro (by assumption) ?_); refine And.intro (by decide) ?_; exact And.intro rfl rfl)) ?_) | refine Or.inl ?_ | refine Exists.intro _ (And.intro (int_nat (by first | decide | omega | ((first | (simp only [List.length_map]; omega) | omega)))) (Exists.intro _ (And.intro rfl ?_)))) <;> try first | cases h1 | exact absurd h1 (by decide))
    · refine And.intro (closed_bytes f) (And.intro (closed_bytes r) (And.intro (closed_bytes o) ?_))
      have hA : a = 131072 := by simpa using (by assumption : (a == 131072) = true)
      have hO : 5000 ≤ o.length := by simp only [List.length_map, decide_eq_true_eq] at h1; omega
      exact hres (r, o, 4) (by subst hA; simp [writeF, m0, m1, h2, hO])
    · have hA : a = 131072 := by simpa using (by assumption : (a == 131072) = true)
      have hO : ¬ 5000 ≤ o.length := by simp only [List.length_map, decide_eq_false_iff_not] at h1; omega
      have e0 : byteV v 0 = IntKind.u8.wrap ((v % 4294967296).tmod 256) := by
        rw [u8_wrap, Int.tmod_eq_emod_of_nonneg (by omega)]
        simp only [byteV, Int.reducePow]
        omega
      repeat' (first
        | refine And.intro (closed_bytes f) ?_
        | refine And.intro (closed_bytes r) ?_
        | refine And.intro (closed_bytesA o [_]) ?_
        | refine Exists.intro [byteC (IntKind.u8.wrap ((v % 4294967296).tmod 256))] (And.intro rfl (And.intro rfl (And.intro (bytes_notSl [_]) ?_)))
        | refine And.intro (List.length_map _) ?_
        | refine And.intro (by simp only [List.length_map, List.length_cons, List.length_nil]; omega) ?_)
      have := hres (r, o ++ [byteV v 0], 0) (by subst hA; simp [writeF, m0, m1, h2, hO])
      simp only [List.length_append, List.map_append, e0] at this
      have this2 : K (.tup [.agg [.slc 0 0 f.length false, .slc 1 0 r.length false, .slc 2 0 ((o.map byteC).length + 1) false], .v (.int .i64 0)]) [.lst 1 (f.map byteC), .lst 1 (r.map byteC), .lst 1 (o.map byteC ++ [byteC (IntKind.u8.wrap ((v % 4294967296).tmod 256))])] := by
        rw [List.length_map]
        exact this
      exact this2
    · refine And.intro (closed_bytes f) (And.intro (closed_bytes r) (And.intro (closed_bytes o) ?_))
      have hA : a ≠ 131072 := by simpa using (by assumption : (a == 131072) = false)
      rw [List.length_map] at h1
      exact hres (r, o, 3) (by simp [writeF, m0, m1, h2, hA, h1])
    · refine And.intro (closed_bytes f) (And.intro (closed_bytes r) (And.intro (closed_bytes o) ?_))
      have hA : a ≠ 131072 := by simpa using (by assumption : (a == 131072) = false)
      have hF : insideB a s 0 f.length = false := by
        have : insideB a s 0 ((List.map byteC f).length : Nat) = false := by assumption
        rwa [List.length_map] at this
      rw [List.length_map, Bool.not_eq_true'] at h1
      exact hres (r, o, 2) (by simp [writeF, m0, m1, h2, hA, h1, hF])
    · have hA : a ≠ 131072 := by simpa using (by assumption : (a == 131072) = false)
      have hF : insideB a s 0 f.length = false := by
        have : insideB a s 0 ((List.map byteC f).length : Nat) = false := by assumption
        rwa [List.length_map] at this
      rw [List.length_map, Bool.not_eq_false'] at h1
      have hin : 65536 ≤ a ∧ a ≤ 65536 + r.length - s := of_decide_eq_true h1
      have hw : IntKind.i64.wrap (a - 65536) = a - 65536 := wrap64 (by omega)
      refine And.intro (closed_bytes r) ?_
      refine Exists.intro r (Exists.intro (a - 65536).toNat (Exists.intro s.toNat (And.intro rfl (And.intro rfl (And.intro (by rw [hw]; omega) (And.intro (by omega) (And.intro (by omega) (And.intro (by omega) (And.intro hr (And.intro (by omega) (And.intro (by omega) ?_)))))))))))
      refine And.intro (closed_bytes f) (And.intro (closed_bytes _) (And.intro (closed_bytes o) ?_))
      have := hres (putY r (a - 65536).toNat v s.toNat, o, 0) (by simp [writeF, m0, m1, h2, hA, h1, hF])
      simp only [putY_len] at this
      rw [putY_mod _ _ _ _ (by omega)]
      exact this
  · exact hp.elim

def AllB (L : List (List AV)) : Prop := ∀ e ∈ L, ∃ b, e = byteC b
theorem allB_map (r : List Int) : AllB (r.map byteC) := fun e he => by
  obtain ⟨b, _, rfl⟩ := List.mem_map.1 he
  exact ⟨b, rfl⟩
theorem allB_set {L : List (List AV)} (h : AllB L) (i : Nat) (x : Int) : AllB (L.set i (byteC x)) := fun e he => by
  rcases List.mem_or_eq_of_mem_set he with h1 | rfl
  · exact h e h1
  · exact ⟨x, rfl⟩
theorem allB_get {L : List (List AV)} (h : AllB L) (i : Nat) (hi : i < L.length) : ∃ b, L[i]? = some (byteC b) := by
  obtain ⟨b, hb⟩ := h L[i] (List.getElem_mem hi)
  exact ⟨b, by rw [List.getElem?_eq_getElem hi, hb]⟩
def shB (v j : Int) : Int := IntKind.u8.wrap (v.fdiv (2 ^ min j.toNat IntKind.i64.bits))
theorem shB_eq (v : Int) : IntKind.u8.wrap v = byteV v 0 ∧ shB v 8 = byteV v 1 ∧ shB v 16 = byteV v 2 ∧ shB v 24 = byteV v 3 := by
  refine ⟨?_, ?_, ?_, ?_⟩
  · rw [u8_wrap]; simp only [byteV, Int.reducePow]; omega
  all_goals
    unfold shB
    rw [u8_wrap, Int.fdiv_eq_ediv_of_nonneg _ (Int.le_of_lt (Int.pow_pos (by omega)))]
    rfl
theorem put_ord (r : List Int) (p : Nat) (v : Int) : (((r.set (p + 3) (byteV v 3)).set (p + 2) (byteV v 2)).set (p + 1) (byteV v 1)).set p (byteV v 0) = putY r p v 4 := by
  apply List.ext_getElem?
  intro j
  simp only [putY, List.getElem?_set, List.length_set, Nat.add_zero]
  by_cases h0 : p = j
  · subst h0
    simp
  · by_cases h1 : p + 1 = j
    · subst h1
      simp
    · by_cases h2 : p + 2 = j
      · subst h2
        simp
      · by_cases h3 : p + 3 = j
        · subst h3
          simp
        · simp [h0, h1, h2, h3]
theorem put_ord2 (r : List Int) (p : Nat) (v : Int) : (r.set (p + 1) (byteV v 1)).set p (byteV v 0) = putY r p v 2 := by
  apply List.ext_getElem?
  intro j
  simp only [putY, List.getElem?_set, List.length_set, Nat.add_zero]
  by_cases h0 : p = j
  · subst h0
    simp
  · by_cases h1 : p + 1 = j
    · subst h1
      simp
    · simp [h0, h1]
def cx_iPut : Ctx := mkC []
theorem cx_iPut_ok : CtxOk Tryz.prog cx_iPut := cx0_ok
def iPut : Handler := inlH cx_iPut Tryz.f126.ntmps Tryz.f126.results.toList (Tryz.f126.body.getD .skip)
theorem s_iPut : HSound Tryz.prog 126 iPut := inlF cx_iPut_ok mixed Tryz.func126 rfl
def cx_iWr : Ctx := mkC [(125, callM [] true hInside), (122, iAt), (126, iPut)]
theorem cx_iWr_ok : CtxOk Tryz.prog cx_iWr := mkC_ok (mem1 ⟨s_within, fnOk Tryz.func125 rfl rfl⟩ (mem1 ⟨s_bytesAt, fnOk Tryz.func122 rfl rfl⟩ (mem1 ⟨s_iPut, fnOk Tryz.func126 rfl rfl⟩ mem0)))
def iWr : Handler := inlH cx_iWr Tryz.f117.ntmps Tryz.f117.results.toList (Tryz.f117.body.getD .skip)
theorem s_iWr : HSound Tryz.prog 117 iWr := inlF cx_iWr_ok mixed Tryz.func117 rfl
theorem writeF_len (f r o : List Int) (a s v : Int) : (writeF f r o a s v).1.length = r.length ∧ (writeF f r o a s v).2.1.length ≤ max o.length 5000 := by
  unfold writeF
  repeat' split
  all_goals simp [putY_len]
  all_goals omega
theorem writeF_fault {f r o : List Int} {a s v : Int} (h : (writeF f r o a s v).2.2 ≠ 0) : (writeF f r o a s v).1 = r ∧ (writeF f r o a s v).2.1 = o := by
  revert h
  unfold writeF
  repeat' split
  all_goals simp
theorem writeF_done {f r o : List Int} {a s v : Int} (h : (writeF f r o a s v).2.2 = 0) (ha : a ≠ 131072) : memOk f.length r.length o.length = true ∧ (s = 1 ∨ s = 2 ∨ s = 4) ∧ a.tmod s = 0 ∧ insideB a s 0 f.length = false ∧ insideB a s 65536 r.length = true ∧
    (writeF f r o a s v) = (putY r (a - 65536).toNat v s.toNat, o, 0) := by
  revert h
  unfold writeF
  by_cases h0 : memOk f.length r.length o.length = false ∨ widthB s = false
  · simp [h0]
  · have h1 : memOk f.length r.length o.length = true := by
      cases h : memOk f.length r.length o.length
      · exact absurd (.inl h) h0
      · rfl
    have h2 : widthB s = true := by
      cases h : widthB s
      · exact absurd (.inr h) h0
      · rfl
    simp only [h1, h2, if_neg h0, if_neg ha]
    by_cases h3 : a.tmod s ≠ 0
    · simp [h3]
    · by_cases h4 : insideB a s 0 f.length = true
      · simp [h3, h4]
      · by_cases h5 : insideB a s 65536 r.length = false
        · simp [h3, h4, h5]
        · intro _
          have h3 : a.tmod s = 0 := by simpa using h3
          have h4 : insideB a s 0 f.length = false := by simpa using h4
          have h5 : insideB a s 65536 r.length = true := by simpa using h5
          simp only [widthB, decide_eq_true_eq] at h2
          simp [h2, h3, h4, h5]
end Go.Proofs.YtijjonafmmhhbaaGreat.Ab
