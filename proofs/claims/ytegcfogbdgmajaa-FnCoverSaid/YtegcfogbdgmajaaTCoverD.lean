/- FnCover: at drawn addresses. No condition. -/
import Derived.Test.YtegcfogbdgmajaaTCover3
import Derived.Test.YtegcfogbdgmajaaTArgs2
namespace Go.Proofs.Ytegcfogbdgmajaa.Ab

def hStretch : CH := fun args hl K => match args, hl with
  | [.agg [.v (.int .i64 b), .v (.int .i64 l), .v (.int .i64 o), .v (.bool r), .v (.bool w), .v (.bool x)]], [] => ∃ a c, GoodR ⟨b, l, o, r, w, x⟩ a c ∧ K (.tup [.v (.int .i64 a), .v (.int .i64 c)]) []
  | _, _ => False
def cx_s_Stretch : Ctx := mkC [(82, callM [] false hPw), (93, callM [] false hHas)]
theorem cx_s_Stretch_ok : CtxOk Try.prog cx_s_Stretch := mkC_ok (mem1 ⟨s_l2Pow2, fnOk Try.func82 rfl rfl⟩ (mem1 ⟨s_l2Has, fnOk Try.func93 rfl rfl⟩ mem0))
set_option maxRecDepth 100000 in
set_option pp.maxSteps 1500 in
set_option maxHeartbeats 4000000 in
theorem s_Stretch : HSound Try.prog 41 (callM [] false hStretch) := by
  refine callM_sound cx_s_Stretch_ok mixed Try.func41 rfl fun args hl K hp => ?_
  unfold hStretch at hp
  split at hp
  · rename_i b l o r w x
    obtain ⟨a, c, hg, hp⟩ := hp
    obtain ⟨l5, l14, o0, o1, b0, b1⟩ := regOk_spec hg.ok
    obtain ⟨p0, p1⟩ := pow14 l5 l14
    have g1 := hg.lo
    have g2 := hg.hi
    have g3 := hg.c32
    have g4 := hg.cm
    have g5 := hg.bm
    simp only at l5 l14 b0 b1 p0 p1 g1 g2 g5
    have hw : IntKind.i64.wrap (b + 2 ^ l.toNat) = b + 2 ^ l.toNat := wrap64 (by omega)
    have hmod : (2 : Int) ^ l.toNat % 32 = 0 := by
      have := mul32 (L := l.toNat) (by omega) 1
      rwa [Int.one_mul] at this
    refine And.intro (by omega) (And.intro (by omega) ?_)
    refine Exists.intro true (Exists.intro [1, 4, 5, 6, 7, 8] (Exists.intro (fun m vs h => ∃ (j : Nat) (p q : Int), 32 * (j : Int) ≤ 2 ^ l.toNat ∧ m = (2 ^ l.toNat - 32 * (j : Int)).toNat ∧ (b + 32 * j ≤ a → p = -1 ∧ q = 0) ∧ (a < b + 32 * j → p = a ∧ q = min (b + 32 * j - a) c) ∧
      vs = [.ptr 0 0 0 6, .v (.int .i64 (2 ^ l.toNat)), .v (.int .i64 32), .v (.int .i64 p), .v (.int .i64 q), .v (.int .i64 (b + 32 * j))] ∧ h = [.box (regC ⟨b, l, o, r, w, x⟩)]) (And.intro ?_ ?_)))
    · refine Exists.intro [] (Exists.intro (2 ^ l.toNat : Int).toNat ?_)
      exact ⟨0, -1, 0, by omega, by simp, fun _ => ⟨rfl, rfl⟩, fun h => by simp at h; omega, by simp, rfl⟩
    · intro m vs h hI
      obtain ⟨j, p, q, hj, rfl, hp1, hp2, rfl, rfl⟩ := hI
      refine And.intro (fun h1 => ?_) (fun h1 => ?_)
      · rw [hw] at h1
        simp only [decide_eq_true_eq] at h1
        have hws : IntKind.i64.wrap (b + 32 * (j : Int) + 32) = b + 32 * ((j + 1 : Nat) : Int) := by rw [wrap64 (by omega)]; omega
        refine And.intro hg.ok (And.intro (by simp only [I64]; omega) ?_)
        have hh : hasB b l o (b + 32 * j) = decide (a ≤ b + 32 * j ∧ b + 32 * j < a + c) := hg.has _
        rw [hh]
        refine And.intro (fun h2 => ?_) (fun h2 => ?_)
        · simp only [decide_eq_true_eq] at h2
          rcases Int.lt_or_eq_of_le h2.1 with h3 | h3
          · obtain ⟨rfl, rfl⟩ := hp2 h3
            have hm : min (b + 32 * (j : Int) - p) c = b + 32 * j - p := by omega
            rw [hm]
            have hwx : IntKind.i64.wrap (p + (b + 32 * (j : Int) - p)) = b + 32 * j := by rw [wrap64 (by omega)]; omega
            have hwy : IntKind.i64.wrap (b + 32 * (j : Int) - p + 32) = b + 32 * j - p + 32 := wrap64 (by omega)
            refine And.intro (fun h4 => ?_) (fun h4 => ?_)
            · simp at h4; omega
            refine And.intro (fun h5 => ?_) (fun h5 => ?_)
            · rw [hwx] at h5; simp at h5
            refine Exists.intro [] (Exists.intro (2 ^ l.toNat - 32 * ((j + 1 : Nat) : Int)).toNat (And.intro (by omega) ⟨j + 1, p, b + 32 * j - p + 32, by omega, rfl, fun h => by omega, fun h => ⟨rfl, by omega⟩, ?_, rfl⟩))
            rw [hws, hwy]
          · obtain ⟨rfl, rfl⟩ := hp1 (by omega)
            have hwx : IntKind.i64.wrap (b + 32 * (j : Int) + 0) = b + 32 * j := by rw [wrap64 (by omega)]; omega
            refine And.intro (fun h4 => ?_) (fun h4 => ?_)
            · refine And.intro (fun h5 => ?_) (fun h5 => ?_)
              · rw [hwx] at h5; simp at h5
              refine Exists.intro [] (Exists.intro (2 ^ l.toNat - 32 * ((j + 1 : Nat) : Int)).toNat (And.intro (by omega) ⟨j + 1, b + 32 * j, 32, by omega, rfl, fun h => by omega, fun h => ⟨by omega, by omega⟩, ?_, rfl⟩))
              rw [hws]
              rfl
            · simp at h4
        · simp only [decide_eq_false_iff_not] at h2
          refine Exists.intro [] (Exists.intro (2 ^ l.toNat - 32 * ((j + 1 : Nat) : Int)).toNat (And.intro (by omega) ⟨j + 1, p, q, by omega, rfl, fun h => ?_, fun h => ?_, ?_, rfl⟩))
          · exact hp1 (by omega)
          · obtain ⟨rfl, rfl⟩ := hp2 (by omega)
            exact ⟨rfl, by omega⟩
          · rw [hws]
      · rw [hw] at h1
        simp only [decide_eq_false_iff_not] at h1
        obtain ⟨rfl, rfl⟩ := hp2 (by omega)
        rw [show min (b + 32 * (j : Int) - p) c = c by omega]
        exact hp
  · exact hp.elim

def hDCov : CH := fun args hl K => match args, hl with
  | [.imm _ _ 1 l], [] => ∃ bs, l = bs.map byteC ∧ BytesOk bs ∧ bs.length ≤ maxLen ∧ ∀ a b : Int, I64 a → I64 b → K (.tup [.v (.int .i64 a), .v (.int .i64 b)]) []
  | _, _ => False
def cx_s_DrawCover : Ctx := mkC [(78, callM [] false hOpen), (80, callM [.rw] false hNext)]
theorem cx_s_DrawCover_ok : CtxOk Try.prog cx_s_DrawCover := mkC_ok (mem1 ⟨s_l1Open, fnOk Try.func78 rfl rfl⟩ (mem1 ⟨s_next, fnOk Try.func80 rfl rfl⟩ mem0))
set_option maxRecDepth 100000 in
set_option pp.maxSteps 1500 in
set_option maxHeartbeats 4000000 in
theorem s_DrawCover : HSound Try.prog 40 (callM [] false hDCov) := by
  refine callM_sound cx_s_DrawCover_ok mixed Try.func40 rfl fun args hl K hp => ?_
  unfold hDCov at hp
  split at hp
  · rename_i t z l
    obtain ⟨cs, rfl, hcb, hcm, hp⟩ := hp
    refine Exists.intro cs (And.intro rfl (And.intro hcb (And.intro hcm ?_)))
    intro bs z hb hn
    repeat' ((first
      | refine And.intro (fun h1 => ?_) (fun h1 => ?_)
      | refine And.intro (by decide) ?_
      | refine And.intro (show Region.lexB _ _ = true from by kernel_rfl) ?_
      | (refine Exists.intro bs (And.intro rfl (And.intro hb (And.intro hn (And.intro (by first | assumption | omega) (And.intro (by first | assumption | omega) ?_))))); intro v q _ _ _ _)
      | exact hp _ _ (by first | exact wrap_I64 _ | exact ⟨by decide, by decide⟩) (by first | exact wrap_I64 _ | exact ⟨by decide, by decide⟩)
      | refine And.intro (show wfB _ = true from by kernel_rfl) ?_ | refine And.intro (And.intro rfl rfl) ?_ | exact And.intro rfl rfl | apply HeldC.intro | exact AV.top | (apply HeldF.intro; refine Exists.intro _ (And.intro (by assumption) ?_); refine And.intro (by decide) ?_; exact And.intro rfl rfl) | (refine And.intro (by (refine Exists.intro _ (And.intro (by assumption) ?_); refine And.intro (by decide) ?_; exact And.intro rfl rfl)) ?_) | refine Or.inl ?_) <;> try cases h1)
  · exact hp.elim

theorem rd_map (l : List Rg) (i : Nat) (r : Rg) (h : l[i]? = some r) : (((l.take i).map rd ++ l.drop i).map regC).set i (regC (rd r)) = ((l.take (i + 1)).map rd ++ l.drop (i + 1)).map regC := by
  have hi := (List.getElem?_eq_some_iff.1 h).1
  have hl : (((l.take i).map rd).map regC).length = i := by simp; omega
  rw [List.map_append, List.set_append_right _ _ (by omega), hl, Nat.sub_self, List.drop_eq_getElem_cons hi, List.map_cons, List.set_cons_zero, List.take_add_one, h]
  simp
def cx9 : Ctx := mkC [(40, callM [] false hDCov), (36, callM [] false hCover), (37, callM [] false hCover), (33, callM [] false hReg), (41, callM [] false hStretch), (30, callM [] true hAllow)]
theorem cx9_ok : CtxOk Try.prog cx9 := mkC_ok (mem1 ⟨s_DrawCover, fnOk Try.func40 rfl rfl⟩ (mem1 ⟨s_spec_Cover, fnOk Try.func36 rfl rfl⟩ (mem1 ⟨s_impl_Cover, fnOk Try.func37 rfl rfl⟩ (mem1 ⟨s_impl_RegionOk, fnOk Try.func33 rfl rfl⟩ (mem1 ⟨s_Stretch, fnOk Try.func41 rfl rfl⟩ (mem1 ⟨s_impl_Allowed, fnOk Try.func30 rfl rfl⟩ mem0))))))
set_option maxRecDepth 100000 in
set_option maxHeartbeats 16000000 in
set_option pp.maxSteps 1500 in
theorem s9 (xs : List AV) (hx : ArgsOf Try.prog 3 [28] xs) : inlH cx9 Try.f9.ntmps Try.f9.results.toList (Try.f9.body.getD .skip) xs [] fun x _ => x = .v (.bool true) := by
  obtain ⟨x, _, c, rfl, hs, ha, rfl⟩ := hx
  obtain ⟨bs, rfl, hb, hm⟩ := arg_byteS hs ha
  refine And.intro (fun h1 => rfl) (fun h1 => ?_)
  refine Exists.intro bs (And.intro rfl (And.intro hb (And.intro hm ?_)))
  intro a s wa ws
  have hl := covL_len a s
  refine And.intro wa (And.intro ws ?_)
  refine And.intro wa (And.intro ws ?_)
  repeat' ((first | refine And.intro (fun h1 => ?_) (fun h1 => ?_)) <;> try first | cases h1 | (exfalso; simp at h1; done))
  clear h1
  have hfacts : covOk a s = true → covL a s = coverF 8192 a s ∧ 0 ≤ a ∧ 0 ≤ s ∧ a % 32 = 0 ∧ s % 32 = 0 ∧ a + s ≤ 262144 := fun h => ⟨by simp [covL, h], of_decide_eq_true h⟩
  have hget : ∀ {i : Nat} {r : Rg}, (covL a s)[i]? = some r → ∃ c, GoodR r (covAt 8192 a s i) c ∧ covAt 8192 a s (i + 1) = covAt 8192 a s i + c ∧ 0 ≤ covAt 8192 a s i ∧ covAt 8192 a s i + c ≤ 262144 := by
    intro i r h
    cases hok : covOk a s with
    | false => rw [covL_no hok] at h; simp at h
    | true =>
      obtain ⟨e, a0, s0, am, sm, hle⟩ := hfacts hok
      rw [e] at h
      exact cov_get 8192 a0 s0 hle am sm h
  refine Exists.intro true (Exists.intro [3, 4, 5, 6, 7, 9, 10] (Exists.intro (fun m vs h => ∃ i : Nat, i ≤ (covL a s).length ∧ m = (covL a s).length - i ∧ vs = [.v (.int .i64 a), .v (.int .i64 s), .slc 0 0 (covL a s).length false, .v (.bool (covOk a s)), .slc 1 0 (covL a s).length false, .v (.int .i64 (covAt 8192 a s i)), .v (.int .i64 i)] ∧
    h = [.lst 6 ((covL a s).map regC), .lst 6 ((((covL a s).take i).map rd ++ (covL a s).drop i).map regC)]) (And.intro ?_ ?_)))
  · refine Exists.intro [] (And.intro (closed_Region _) (And.intro (closed_Region _) (Exists.intro (covL a s).length ?_)))
    exact ⟨0, by omega, rfl, by rw [cov_zero]; rfl, rfl⟩
  · intro m vs h hI
    obtain ⟨i, hi, rfl, rfl, rfl⟩ := hI
    refine And.intro (fun h2 => ?_) (fun h2 => ?_)
    · simp only [decide_eq_true_eq] at h2
      have hlt : i < (covL a s).length := by omega
      have hr : (covL a s)[i]? = some (covL a s)[i] := List.getElem?_eq_getElem hlt
      have hst := rd_map (covL a s) i _ hr
      generalize (covL a s)[i] = r at hr hst
      obtain ⟨c, hg, hnx, h0, hc⟩ := hget hr
      have hg0 : ((covL a s).map regC)[0 + i]? = some (regC r) := by rw [Nat.zero_add]; exact get_map hr
      have hg1 : ((((covL a s).take i).map rd ++ (covL a s).drop i).map regC)[0 + i]? = some (regC r) := by
        rw [Nat.zero_add, List.getElem?_map, List.getElem?_append_right (by simp; omega)]
        simp only [List.length_map, List.length_take, List.getElem?_drop]
        rw [show min i (covL a s).length = i by omega, Nat.sub_self, Nat.add_zero, hr]
        rfl
      have hst0 := hst
      rw [show ((((covL a s).take i).map rd ++ (covL a s).drop i).map regC).set i (regC (rd r)) = ((((covL a s).take i).map rd ++ (covL a s).drop i).map regC).set (0 + i) (regC (rd r)) by rw [Nat.zero_add]] at hst0
      have hc1 := closed_Region (((covL a s).take (i + 1)).map rd ++ (covL a s).drop (i + 1))
      rw [← hst0] at hc1
      have hok : regOk r.b r.l r.o = true := hg.ok
      have h32 := hg.c32
      have hwx : IntKind.i64.wrap (covAt 8192 a s i + c) = covAt 8192 a s (i + 1) := by rw [hnx]; exact wrap64 (by omega)
      generalize (((covL a s).take i).map rd ++ (covL a s).drop i).map regC = L at *
      repeat' ((first
        | refine Exists.intro i (And.intro rfl (And.intro hlt ?_))
        | refine Exists.intro _ (And.intro hg1 (And.intro (by decide) ?_))
        | refine Exists.intro _ (And.intro hg0 (And.intro (by decide) ?_))
        | refine And.intro (by decide) ?_
        | (refine And.intro (Exists.intro i (And.intro rfl (And.intro hlt (And.intro rfl rfl)))) ?_)
        | refine Exists.intro _ (Exists.intro c (And.intro hg ?_))
        | refine And.intro (fun h1 => ?_) (fun h1 => ?_)
        | refine And.intro (show wfB _ = true from by kernel_rfl) ?_ | refine And.intro (And.intro rfl rfl) ?_ | exact And.intro rfl rfl | apply HeldC.intro | exact AV.top | (apply HeldF.intro; refine Exists.intro _ (And.intro (by assumption) ?_); refine And.intro (by decide) ?_; exact And.intro rfl rfl) | (refine And.intro (by (refine Exists.intro _ (And.intro (by assumption) ?_); refine And.intro (by decide) ?_; exact And.intro rfl rfl)) ?_) | refine Or.inl ?_) <;> try first | cases h1 | (exfalso; simp [hok] at h1; done) | (exfalso; simp at h1; omega))
      refine Exists.intro [] (And.intro (closed_Region _) (And.intro hc1 (Exists.intro ((covL a s).length - (i + 1)) (And.intro (by omega) ⟨i + 1, by omega, rfl, ?_, ?_⟩))))
      · rw [hwx, wrap_succ hlt (by omega)]
      · rw [← hst0]
        rfl
    · simp only [decide_eq_false_iff_not] at h2
      have hil : i = (covL a s).length := by omega
      subst hil
      have hcur : (((covL a s).take (covL a s).length).map rd ++ (covL a s).drop (covL a s).length).map regC = ((covL a s).map rd).map regC := by simp
      rw [hcur]
      cases hok : covOk a s with
      | false =>
        repeat' ((first | refine And.intro (fun h1 => ?_) (fun h1 => ?_)) <;> try first | cases h1 | (exfalso; simp at h1; done))
        all_goals exact rfl
      | true =>
        obtain ⟨e, a0, s0, am, sm, hle⟩ := hfacts hok
        have hend : covAt 8192 a s (covL a s).length = a + s := by rw [e]; exact cov_end 8192 a0 s0 hle am sm (by omega)
        rw [hend]
        have hw1 : IntKind.i64.wrap (a + s) = a + s := wrap64 (by omega)
        refine And.intro (fun _ => ?_) (fun h1 => by cases h1)
        repeat' ((first | refine And.intro (fun h1 => ?_) (fun h1 => ?_)) <;> try first | cases h1 | (exfalso; simp [hw1] at h1; done))
        · exact rfl
        · exact rfl
        rename_i h0
        have h0 : (covL a s).length ≠ 0 := by simpa using h0
        have h8 : (coverF 8192 a s).length ≤ 8 := by rw [← e]; have := of_decide_eq_false h1; omega
        have hs : 0 < s := by
          rcases Int.lt_or_eq_of_le s0 with h | h
          · exact h
          · subst h
            rw [e] at h0
            simp [coverF] at h0
        have hal := allow_cov a0 s0 hle am sm h8
        rw [← e] at hal
        have hw2 : IntKind.i64.wrap (a + s - 1) = a + s - 1 := wrap64 (by omega)
        have hw3 : IntKind.i64.wrap (a - 1) = a - 1 := wrap64 (by omega)
        have hld : List.take (covL a s).length (List.drop 0 (((covL a s).map rd).map regC)) = ((covL a s).map rd).map regC := by
          rw [List.drop_zero, List.take_of_length_le (by simp)]
        repeat' ((first
          | refine Exists.intro _ (And.intro hld (And.intro (by simp) (And.intro (closed_Region _) ?_)))
          | refine Exists.intro _ (And.intro rfl (And.intro (by simp only [hw1, hw2, hw3, I64]; omega) (And.intro (by simp; omega) ?_)))
          | refine And.intro (fun h1 => ?_) (fun h1 => ?_)) <;> try first | cases h1 | (exfalso; simp at h1; done))
        all_goals simp only [hw1, hw2, hw3, hal _ _ (.inl rfl)] at *
        all_goals first
          | (refine fin_t ?_; rw [hal _ _ (.inr rfl)]; simp; done)
          | (exfalso; simp at h1; done)
          | (exfalso; simp at h1; omega)
end Go.Proofs.Ytegcfogbdgmajaa.Ab
