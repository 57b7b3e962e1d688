/- Write: both programs answer alike. No condition. -/
import Derived.Test.YtijjonafmmhhbaaTRead
namespace Go.Proofs.Ytijjonafmmhhbaa.Ab

def cx_s_l1Bytes : Ctx := mkC []
theorem cx_s_l1Bytes_ok : CtxOk Try.prog cx_s_l1Bytes := cx0_ok
set_option maxRecDepth 100000 in
set_option pp.maxSteps 1500 in
theorem s_l1Bytes : HSound Try.prog 103 (callM [] true hToB) := by
  refine callM_sound cx_s_l1Bytes_ok mixed Try.func103 rfl fun args hl K hp => ?_
  unfold hToB at hp
  split at hp
  · rename_i t z l
    obtain ⟨bs, rfl, hb, hp⟩ := hp
    refine Or.inl ?_
    repeat' (first
      | refine And.intro (closed_bytes bs) ?_
      | refine And.intro (bytes_notSl bs) ?_
      | refine And.intro rfl ?_
      | refine And.intro (by simp; omega) ?_)
    have e : ([] : List (List AV)).length + (bs.map byteC).length = bs.length := by simp
    rw [← e] at hp
    exact hp
  · exact hp.elim
def cx_s_Clone : Ctx := mkC []
theorem cx_s_Clone_ok : CtxOk Try.prog cx_s_Clone := cx0_ok
set_option maxRecDepth 100000 in
set_option pp.maxSteps 1500 in
theorem s_Clone : HSound Try.prog 99 (callM [] true hToB) := by
  refine callM_sound cx_s_Clone_ok mixed Try.func99 rfl fun args hl K hp => ?_
  unfold hToB at hp
  split at hp
  · rename_i t z l
    obtain ⟨bs, rfl, hb, hp⟩ := hp
    refine Or.inl ?_
    refine And.intro (fun h0 => ?_) ?_
    · refine And.intro (fun _ => ?_) (fun h1 => by cases h1)
      refine Or.inr ?_
      have : bs = [] := by simpa using h0
      subst this
      refine And.intro closed_nil ?_
      exact hp
    · refine And.intro (fun h1 => by cases h1) (fun _ => ?_)
      repeat' (first
        | refine And.intro (closed_bytes bs) ?_
        | refine And.intro (bytes_notSl bs) ?_
        | refine And.intro rfl ?_
        | refine And.intro (by simp; omega) ?_)
      have e : ([] : List (List AV)).length + (bs.map byteC).length = bs.length := by simp
      rw [← e] at hp
      exact hp
  · exact hp.elim
def byteV (v : Int) (i : Nat) : Int := v / 256 ^ i % 256
def putY (r : List Int) (p : Nat) (v : Int) : Nat → List Int
  | 0 => r
  | i + 1 => (putY r p v i).set (p + i) (byteV v i)
theorem putY_len (r : List Int) (p : Nat) (v : Int) (n : Nat) : (putY r p v n).length = r.length := by
  induction n with
  | zero => rfl
  | succ n ih => simp [putY, ih]
def writeF (f r o : List Int) (a s v : Int) : List Int × List Int × Int :=
  if memOk f.length r.length o.length = false ∨ widthB s = false then (r, o, 2)
  else if a.tmod s ≠ 0 then (r, o, 1)
  else if a = 131072 then (if 5000 ≤ o.length then (r, o, 4) else (r, o ++ [byteV v 0], 0))
  else if insideB a s 0 f.length then (r, o, 3)
  else if insideB a s 65536 r.length = false then (r, o, 2)
  else (putY r (a - 65536).toNat v s.toNat, o, 0)
theorem u8_wrap (x : Int) : IntKind.u8.wrap x = x % 256 := by
  simp only [IntKind.wrap, IntKind.bits, IntKind.signed, Bool.false_and]
  simp
def hModW : CH := fun args hl K => match args, hl with
  | [.v (.int .i64 v)], [] => I64 v ∧ K (.v (.int .i64 (v % 4294967296))) []
  | _, _ => False
def cx_iMod : Ctx := mkC []
theorem cx_iMod_ok : CtxOk Try.prog cx_iMod := cx0_ok
def iMod : Handler := inlH cx_iMod Try.f153.ntmps Try.f153.results.toList (Try.f153.body.getD .skip)
theorem s_iMod : HSound Try.prog 153 iMod := inlF cx_iMod_ok mixed Try.func153 rfl
def hLPut : CH := fun args hl K => match args, hl with
  | [.slc 0 0 n z, .v (.int .i64 p), .v (.int .i64 s), .v (.int .i64 v)], [.lst 1 L] => ∃ (bs : List Int) (P S : Nat), L = bs.map byteC ∧ n = bs.length ∧ p = P ∧ s = S ∧ S ≤ 4 ∧ P + S ≤ bs.length ∧ bs.length ≤ 1048576 ∧ 0 ≤ v ∧ v < 4294967296 ∧ K (.tup []) [.lst 1 ((putY bs P v S).map byteC)]
  | _, _ => False
def cx_s_l1Put : Ctx := mkC []
theorem cx_s_l1Put_ok : CtxOk Try.prog cx_s_l1Put := cx0_ok
set_option maxRecDepth 100000 in
set_option pp.maxSteps 1500 in
set_option maxHeartbeats 4000000 in
theorem s_l1Put : HSound Try.prog 145 (callM [.rw] false hLPut) := by
  refine callM_sound cx_s_l1Put_ok mixed Try.func145 rfl fun args hl K hp => ?_
  unfold hLPut at hp
  split at hp
  · rename_i n z p s v L
    obtain ⟨bs, P, S, rfl, rfl, rfl, rfl, hS, hPS, hlen, hv0, hv1, hp⟩ := hp
    refine Exists.intro false (Exists.intro [0, 1, 2, 3, 8] (Exists.intro (fun m vs h => ∃ i : Nat, i ≤ S ∧ m = S - i ∧ (∃ z, vs = [.slc 0 0 bs.length z, .v (.int .i64 P), .v (.int .i64 S), .v (.int .i64 (v / 256 ^ i)), .v (.int .i64 i)]) ∧ h = [.lst 1 ((putY bs P v i).map byteC)]) (And.intro ?_ ?_)))
    · refine Exists.intro S ?_
      exact ⟨0, by omega, rfl, ⟨z, by simp⟩, rfl⟩
    · intro m vs h hI
      obtain ⟨i, hi, rfl, ⟨z, rfl⟩, rfl⟩ := hI
      refine And.intro (fun h1 => ?_) (fun h1 => ?_)
      · simp only [decide_eq_true_eq] at h1
        have hlt : i < S := by omega
        have hq0 : 0 ≤ v / 256 ^ i := Int.ediv_nonneg hv0 (Int.le_of_lt (Int.pow_pos (by omega)))
        have hq1 : v / 256 ^ i ≤ v := Int.ediv_le_self _ hv0
        have hwp : IntKind.i64.wrap ((P : Int) + i) = ((P + i : Nat) : Int) := by rw [wrap64 (by omega)]; simp
        have hb : IntKind.u8.wrap ((v / 256 ^ i).tmod 256) = byteV v i := by
          rw [u8_wrap, Int.tmod_eq_emod_of_nonneg hq0, Int.emod_emod_of_dvd _ (Int.dvd_refl _)]; rfl
        have hd : IntKind.i64.wrap ((v / 256 ^ i).tdiv 256) = v / 256 ^ (i + 1) := by
          rw [Int.tdiv_eq_ediv_of_nonneg hq0, Int.ediv_ediv_of_nonneg (Int.le_of_lt (Int.pow_pos (by omega))), ← Int.pow_succ, wrap64]
          have h3 : 0 ≤ v / 256 ^ (i + 1) := Int.ediv_nonneg hv0 (Int.le_of_lt (Int.pow_pos (by omega)))
          have h4 : v / 256 ^ (i + 1) ≤ v := Int.ediv_le_self _ hv0
          exact ⟨Int.le_trans (by decide) h3, Int.le_trans h4 (by omega)⟩
        have hg : ((putY bs P v i).map byteC)[0 + (P + i)]? = some (byteC (putY bs P v i)[P + i]!) := by
          rw [Nat.zero_add, List.getElem?_map, List.getElem?_eq_getElem (by rw [putY_len]; omega)]
          simp [putY_len, show P + i < bs.length by omega]
        refine And.intro (by decide) ?_
        refine Exists.intro (P + i) (And.intro hwp (And.intro (by omega) ?_))
        refine Exists.intro _ (And.intro hg (And.intro (by decide) ?_))
        refine And.intro (by decide) ?_
        refine Exists.intro (S - (i + 1)) (And.intro (by omega) ⟨i + 1, by omega, rfl, ⟨z, ?_⟩, ?_⟩)
        · rw [hd, wrap_succ hlt (by omega)]
        · rw [hb]
          simp only [putY, List.map_set, Nat.zero_add]
          rfl
      · simp only [decide_eq_false_iff_not] at h1
        have : i = S := by omega
        subst this
        refine And.intro (closed_bytes _) ?_
        exact hp
  · exact hp.elim

theorem closed_bytesA (a b : List Int) : ClosedL (a.map byteC ++ b.map byteC) := by rw [← List.map_append]; exact closed_bytes _
def hWrite : CH := fun args hl K => match args, hl with
  | [.agg [.imm _ _ 1 x, .imm _ _ 1 y, .imm _ _ 1 z], .v (.int .i64 a), .v (.int .i64 s), .v (.int .i64 v)], [] => ∃ f r o : List Int, x = f.map byteC ∧ y = r.map byteC ∧ z = o.map byteC ∧ f.length ≤ 1048576 ∧ r.length ≤ 1048576 ∧ o.length ≤ 1048576 ∧ I64 a ∧ I64 v ∧
      K (.tup [.agg [.slc 0 0 f.length false, .slc 1 0 (writeF f r o a s v).1.length false, .slc 2 0 (writeF f r o a s v).2.1.length false], .v (.int .i64 (writeF f r o a s v).2.2)]) [.lst 1 (f.map byteC), .lst 1 ((writeF f r o a s v).1.map byteC), .lst 1 ((writeF f r o a s v).2.1.map byteC)]
  | _, _ => False
theorem byteV_mod (v : Int) (i : Nat) (hi : i < 4) : byteV (v % 4294967296) i = byteV v i := by
  simp only [byteV]
  have : i = 0 ∨ i = 1 ∨ i = 2 ∨ i = 3 := by omega
  rcases this with rfl | rfl | rfl | rfl <;> simp only [Int.reducePow] <;> omega
theorem putY_mod (r : List Int) (p : Nat) (v : Int) : ∀ n, n ≤ 4 → putY r p (v % 4294967296) n = putY r p v n
  | 0, _ => rfl
  | n + 1, h => by simp only [putY]; rw [putY_mod r p v n (by omega), byteV_mod v n (by omega)]
def AllB (L : List (List AV)) : Prop := ∀ e ∈ L, ∃ b, e = byteC b
theorem allB_map (r : List Int) : AllB (r.map byteC) := fun e he => by
  obtain ⟨b, _, rfl⟩ := List.mem_map.1 he
  exact ⟨b, rfl⟩
theorem allB_set {L : List (List AV)} (h : AllB L) (i : Nat) (x : Int) : AllB (L.set i (byteC x)) := fun e he => by
  rcases List.mem_or_eq_of_mem_set he with h1 | rfl
  · exact h e h1
  · exact ⟨x, rfl⟩
theorem allB_get {L : List (List AV)} (h : AllB L) (i : Nat) (hi : i < L.length) : ∃ b, L[i]? = some (byteC b) := by
  obtain ⟨b, hb⟩ := h L[i] (List.getElem_mem hi)
  exact ⟨b, by rw [List.getElem?_eq_getElem hi, hb]⟩
def shB (v j : Int) : Int := IntKind.u8.wrap (v.fdiv (2 ^ min j.toNat IntKind.i64.bits))
theorem shB_eq (v : Int) : IntKind.u8.wrap v = byteV v 0 ∧ shB v 8 = byteV v 1 ∧ shB v 16 = byteV v 2 ∧ shB v 24 = byteV v 3 := by
  refine ⟨?_, ?_, ?_, ?_⟩
  · rw [u8_wrap]; simp only [byteV, Int.reducePow]; omega
  all_goals
    unfold shB
    rw [u8_wrap, Int.fdiv_eq_ediv_of_nonneg _ (Int.le_of_lt (Int.pow_pos (by omega)))]
    rfl
theorem put_ord (r : List Int) (p : Nat) (v : Int) : (((r.set (p + 3) (byteV v 3)).set (p + 2) (byteV v 2)).set (p + 1) (byteV v 1)).set p (byteV v 0) = putY r p v 4 := by
  apply List.ext_getElem?
  intro j
  simp only [putY, List.getElem?_set, List.length_set, Nat.add_zero]
  by_cases h0 : p = j
  · subst h0
    simp
  · by_cases h1 : p + 1 = j
    · subst h1
      simp
    · by_cases h2 : p + 2 = j
      · subst h2
        simp
      · by_cases h3 : p + 3 = j
        · subst h3
          simp
        · simp [h0, h1, h2, h3]
theorem put_ord2 (r : List Int) (p : Nat) (v : Int) : (r.set (p + 1) (byteV v 1)).set p (byteV v 0) = putY r p v 2 := by
  apply List.ext_getElem?
  intro j
  simp only [putY, List.getElem?_set, List.length_set, Nat.add_zero]
  by_cases h0 : p = j
  · subst h0
    simp
  · by_cases h1 : p + 1 = j
    · subst h1
      simp
    · simp [h0, h1]
theorem writeF_len (f r o : List Int) (a s v : Int) : (writeF f r o a s v).1.length = r.length ∧ (writeF f r o a s v).2.1.length ≤ max o.length 5000 := by
  unfold writeF
  repeat' split
  all_goals simp [putY_len]
  all_goals omega
theorem writeF_fault {f r o : List Int} {a s v : Int} (h : (writeF f r o a s v).2.2 ≠ 0) : (writeF f r o a s v).1 = r ∧ (writeF f r o a s v).2.1 = o := by
  revert h
  unfold writeF
  repeat' split
  all_goals simp
theorem writeF_done {f r o : List Int} {a s v : Int} (h : (writeF f r o a s v).2.2 = 0) (ha : a ≠ 131072) : memOk f.length r.length o.length = true ∧ (s = 1 ∨ s = 2 ∨ s = 4) ∧ a.tmod s = 0 ∧ insideB a s 0 f.length = false ∧ insideB a s 65536 r.length = true ∧
    (writeF f r o a s v) = (putY r (a - 65536).toNat v s.toNat, o, 0) := by
  revert h
  unfold writeF
  by_cases h0 : memOk f.length r.length o.length = false ∨ widthB s = false
  · simp [h0]
  · have h1 : memOk f.length r.length o.length = true := by
      cases h : memOk f.length r.length o.length
      · exact absurd (.inl h) h0
      · rfl
    have h2 : widthB s = true := by
      cases h : widthB s
      · exact absurd (.inr h) h0
      · rfl
    simp only [h1, h2, if_neg h0, if_neg ha]
    by_cases h3 : a.tmod s ≠ 0
    · simp [h3]
    · by_cases h4 : insideB a s 0 f.length = true
      · simp [h3, h4]
      · by_cases h5 : insideB a s 65536 r.length = false
        · simp [h3, h4, h5]
        · intro _
          have h3 : a.tmod s = 0 := by simpa using h3
          have h4 : insideB a s 0 f.length = false := by simpa using h4
          have h5 : insideB a s 65536 r.length = true := by simpa using h5
          simp only [widthB, decide_eq_true_eq] at h2
          simp [h2, h3, h4, h5]
end Go.Proofs.Ytijjonafmmhhbaa.Ab
