/- Link of the reference: what it asks, targets, banks too long. No condition. -/
import Derived.Test.YtijjonafmmhhbaaTLink1
namespace Go.Proofs.Ytijjonafmmhhbaa.Ab
set_option linter.unusedVariables false
set_option linter.unusedSimpArgs false

theorem new_val {ms : List Mo} {i : Nat} {m : Mo} (h : ms[i]? = some m) : newB ms i = !seenB ms i m.name := by rw [newB, h]
theorem seen_ex {ms : List Mo} {i k : Nat} {q : Mo} {n : ByteArray} (hk : k < i) (hq : ms[k]? = some q) (hn : q.name = n) : seenB ms i n = true := by
  unfold seenB
  rw [List.any_eq_true]
  refine ⟨q, ?_, by simpa using hn⟩
  rw [List.mem_iff_getElem?]
  exact ⟨k, by rw [List.getElem?_take, if_pos hk]; exact hq⟩
theorem seen_no {ms : List Mo} {i : Nat} {n : ByteArray} (h : ∀ k < i, ∀ q, ms[k]? = some q → q.name ≠ n) : seenB ms i n = false := by
  unfold seenB
  rw [List.any_eq_false]
  intro q hq
  obtain ⟨k, hk⟩ := List.mem_iff_getElem?.1 hq
  rw [List.getElem?_take] at hk
  split at hk
  · simpa using h k (by assumption) q hk
  · cases hk
def hSoundC : CH := fun args hl K => match args, hl with
  | [.imm _ _ 8 L, .agg [.v (.int .i64 a), .v (.int .i64 b), .v (.int .i64 c), .v (.int .i64 d)]], [] => ∃ ms : List Mo, L = ms.map moC ∧ ms.length ≤ 1048576 ∧ (∀ m ∈ ms, smMo m) ∧ K (.v (.int .i64 (soundF ms ⟨a, b, c, d⟩))) []
  | _, _ => False
def cx_s_l5Sound : Ctx := mkC [(111, callM [] false hCfg), (8, callM [] true hModOk)]
theorem cx_s_l5Sound_ok : CtxOk Try.prog cx_s_l5Sound := mkC_ok (mem1 ⟨s_spec_ConfigOk, fnOk Try.func111 rfl rfl⟩ (mem1 ⟨s_spec_ModuleOk, fnOk Try.func8 rfl rfl⟩ mem0))
set_option maxRecDepth 100000 in
set_option pp.maxSteps 1500 in
set_option maxHeartbeats 8000000 in
theorem s_l5Sound : HSound Try.prog 70 (callM [] true hSoundC) := by
  refine callM_sound cx_s_l5Sound_ok mixed Try.func70 rfl fun args hl K hp => ?_
  unfold hSoundC at hp
  split at hp
  · rename_i t z L a b c d
    obtain ⟨ms, rfl, hlen, hsm, hp⟩ := hp
    refine And.intro (fun h1 => ?_) (fun h1 => ?_)
    · refine fin_i hp ?_
      have h1 : cfgB ⟨a, b, c, d⟩ = false := by simpa using h1
      simp only [soundF, h1, if_true]
    have e1 : cfgB ⟨a, b, c, d⟩ = true := by simpa using h1
    clear h1
    have f2 : decide (1 ≤ ms.length ∧ ms.length ≤ 4) = false → soundF ms ⟨a, b, c, d⟩ = 2 := fun h => by simp only [soundF, e1, h, Bool.true_eq_false, if_true, if_false]
    repeat' ((first | refine And.intro (fun h1 => ?_) (fun h1 => ?_) | refine And.intro (by decide) ?_ | refine And.intro (show wfB _ = true from by kernel_rfl) ?_ | refine And.intro (And.intro rfl rfl) ?_ | exact And.intro rfl rfl | apply HeldC.intro | exact AV.top | (apply HeldF.intro; refine Exists.intro _ (And.intro (by assumption) ?_); refine And.intro (by decide) ?_; exact And.intro rfl rfl) | (refine And.intro (by (refine Exists.intro _ (And.intro (by assumption) ?_); refine And.intro (by decide) ?_; exact And.intro rfl rfl)) ?_) | refine Or.inl ?_) <;> try cases h1)
    · have h1 := of_decide_eq_true h1
      rw [List.length_map] at h1
      exact fin_i hp (f2 (decide_eq_false (by omega)))
    · have h1 := of_decide_eq_true h1
      rw [List.length_map] at h1
      exact fin_i hp (f2 (decide_eq_false (by omega)))
    rename_i h0
    have h0 := of_decide_eq_false h0
    have h1 := of_decide_eq_false h1
    rw [List.length_map] at h0 h1
    have e2 : decide (1 ≤ ms.length ∧ ms.length ≤ 4) = true := decide_eq_true (by omega)
    clear f2
    have f3 : ms.all (fun m => decide (modOk m = 0)) = false → soundF ms ⟨a, b, c, d⟩ = 3 := fun h => by simp only [soundF, e1, e2, h, Bool.true_eq_false, if_true, if_false]
    refine Exists.intro true (Exists.intro [0, 3, 5] (Exists.intro (fun m vs h => ∃ i : Nat, i ≤ ms.length ∧ m = ms.length - i ∧ (ms.take i).all (fun m => decide (modOk m = 0)) = true ∧ vs = [.imm t z 8 (ms.map moC), .ptr 0 0 0 4, .v (.int .i64 i)] ∧ h = [.box [.v (.int .i64 a), .v (.int .i64 b), .v (.int .i64 c), .v (.int .i64 d)]]) (And.intro ?_ ?_)))
    · refine Exists.intro [] (Exists.intro ms.length ?_)
      exact ⟨0, by omega, rfl, rfl, rfl, rfl⟩
    intro m vs h hI
    obtain ⟨i, hi, rfl, hall, rfl, rfl⟩ := hI
    refine And.intro (fun h1 => ?_) (fun h1 => ?_)
    · have h1 := of_decide_eq_true h1
      rw [List.length_map] at h1
      have hlt : i < ms.length := by omega
      obtain ⟨m, hm⟩ : ∃ m, ms[i]? = some m := ⟨_, List.getElem?_eq_getElem hlt⟩
      refine Exists.intro i (And.intro rfl (Exists.intro (moC m) (And.intro (get_map hm) ?_)))
      refine Exists.intro m (And.intro ⟨_, _, _, _, _, _, _, _, _, _, _, _, rfl⟩ (And.intro (hsm m (List.mem_of_getElem? hm)) ?_))
      refine And.intro (fun h2 => ?_) (fun h2 => ?_)
      · have h2 : ¬ modOk m = 0 := by simpa using h2
        exact fin_i hp (f3 (all_bad hm (decide_eq_false h2)))
      · have h2 : modOk m = 0 := by simpa using h2
        refine Exists.intro [] (Exists.intro (ms.length - (i + 1)) (And.intro (by omega) ⟨i + 1, by omega, rfl, all_take hm hall (decide_eq_true h2), ?_, rfl⟩))
        rw [wrap_succ hlt (by omega)]
    have h1 := of_decide_eq_false h1
    rw [List.length_map] at h1
    rw [List.take_of_length_le (by omega)] at hall
    clear f3
    have f4 : (List.range ms.length).all (newB ms) = false → soundF ms ⟨a, b, c, d⟩ = 4 := fun h => by simp only [soundF, e1, e2, hall, h, Bool.true_eq_false, if_true, if_false]
    refine Exists.intro true (Exists.intro [0, 3, 6] (Exists.intro (fun m vs h => ∃ i : Nat, i ≤ ms.length ∧ m = ms.length - i ∧ (∀ k < i, newB ms k = true) ∧ vs = [.imm t z 8 (ms.map moC), .ptr 0 0 0 4, .v (.int .i64 i)] ∧ h = [.box [.v (.int .i64 a), .v (.int .i64 b), .v (.int .i64 c), .v (.int .i64 d)]]) (And.intro ?_ ?_)))
    · refine Exists.intro [] (Exists.intro ms.length ?_)
      exact ⟨0, by omega, rfl, fun k hk => by omega, rfl, rfl⟩
    intro m vs h hI
    obtain ⟨i, hi, rfl, hnew, rfl, rfl⟩ := hI
    refine And.intro (fun h1 => ?_) (fun h1 => ?_)
    · have h1 := of_decide_eq_true h1
      rw [List.length_map] at h1
      have hlt : i < ms.length := by omega
      obtain ⟨m, hm⟩ : ∃ m, ms[i]? = some m := ⟨_, List.getElem?_eq_getElem hlt⟩
      refine Exists.intro true (Exists.intro [0, 3, 6, 7] (Exists.intro (fun m' vs h => ∃ j : Nat, j ≤ i ∧ m' = i - j ∧ (∀ k < j, ∀ q, ms[k]? = some q → q.name ≠ m.name) ∧ vs = [.imm t z 8 (ms.map moC), .ptr 0 0 0 4, .v (.int .i64 i), .v (.int .i64 j)] ∧ h = [.box [.v (.int .i64 a), .v (.int .i64 b), .v (.int .i64 c), .v (.int .i64 d)]]) (And.intro ?_ ?_)))
      · refine Exists.intro [] (Exists.intro i ?_)
        exact ⟨0, by omega, rfl, fun k hk => by omega, rfl, rfl⟩
      intro m' vs h hI
      obtain ⟨j, hj, rfl, hno, rfl, rfl⟩ := hI
      refine And.intro (fun h2 => ?_) (fun h2 => ?_)
      · have h2 := of_decide_eq_true h2
        have hjl : j < i := by omega
        obtain ⟨q, hq⟩ : ∃ q, ms[j]? = some q := ⟨_, List.getElem?_eq_getElem (by omega)⟩
        refine And.intro (show Region.lexB _ _ = true from by kernel_rfl) ?_
        refine Exists.intro j (And.intro rfl (Exists.intro (moC q) (And.intro (get_map hq) ?_)))
        refine Exists.intro i (And.intro rfl (Exists.intro (moC m) (And.intro (get_map hm) ?_)))
        refine And.intro (fun h3 => ?_) (fun h3 => ?_)
        · have h3 : q.name = m.name := by
            rw [ba_beq2] at h3
            simpa using h3
          refine fin_i hp (f4 (range_bad hlt ?_))
          rw [new_val hm, seen_ex hjl hq h3]
          rfl
        · have h3 : ¬ q.name = m.name := by
            rw [ba_beq2] at h3
            simpa using h3
          refine Exists.intro [] (Exists.intro (i - (j + 1)) (And.intro (by omega) ⟨j + 1, by omega, rfl, ?_, ?_, rfl⟩))
          · intro k hk q' hq'
            rcases Nat.lt_or_ge k j with r | r
            · exact hno k r q' hq'
            · have : k = j := by omega
              subst this
              rw [hq] at hq'
              cases hq'
              exact h3
          · rw [wrap_succ hjl (by omega)]
      · have h2 := of_decide_eq_false h2
        have hji : j = i := by omega
        subst hji
        refine Exists.intro [] (Exists.intro (ms.length - (j + 1)) (And.intro (by omega) ⟨j + 1, by omega, rfl, lt_step hnew ?_, ?_, rfl⟩))
        · rw [new_val hm, seen_no hno]
          rfl
        · rw [wrap_succ hlt (by omega)]
    · have h1 := of_decide_eq_false h1
      rw [List.length_map] at h1
      have hnn := range_all (n := ms.length) fun k hk => hnew k (by omega)
      refine fin_i hp ?_
      simp only [soundF, e1, e2, hall, hnn, Bool.true_eq_false, if_false]
  · exact hp.elim

/-- Targets: all of them, or some of them and that one is missing. -/
def hTgts : CH := fun args hl K => match args, hl with
  | [.imm _ _ 8 L, a], [] => ∃ (ms : List Mo) (m : Mo), L = ms.map moC ∧ ms.length ≤ 1048576 ∧ (∀ m ∈ ms, smMo m) ∧ MoV a m ∧ smMo m ∧
      (resB ms m.imps = true → K (.tup [.slc 0 0 (tgsOf ms m.imps).length false, .v (.bool true)]) [.lst 3 ((tgsOf ms m.imps).map tgC)]) ∧ (resB ms m.imps = false → ∀ l : List Tg, K (.tup [.slc 0 0 l.length false, .v (.bool false)]) [.lst 3 (l.map tgC)])
  | _, _ => False
theorem tg_notSl (t : Tg) : ∀ e ∈ [tgC t], ∀ x ∈ e, x.isSl = false := by
  intro e he x hx
  simp at he
  subst he
  simp [tgC] at hx
  rcases hx with rfl | rfl | rfl <;> rfl
def cx_s_l5Targets : Ctx := mkC [(112, callM [] true hRes)]
theorem cx_s_l5Targets_ok : CtxOk Try.prog cx_s_l5Targets := mkC_ok (mem1 ⟨s_spec_Resolve, fnOk Try.func112 rfl rfl⟩ mem0)
set_option maxRecDepth 100000 in
set_option pp.maxSteps 1500 in
set_option maxHeartbeats 8000000 in
theorem s_l5Targets : HSound Try.prog 71 (callM [] true hTgts) := by
  refine callM_sound cx_s_l5Targets_ok mixed Try.func71 rfl fun args hl K hp => ?_
  unfold hTgts at hp
  split at hp
  · rename_i t z L a
    obtain ⟨ms, m, rfl, hlen, hsm, ⟨b1, z1, b2, z2, b3, z3, b4, z4, b5, z5, b6, z6, rfl⟩, hm, hp1, hp2⟩ := hp
    have him := hm.imps
    refine Or.inl ?_
    refine Exists.intro true (Exists.intro [0, 3, 6, 7] (Exists.intro (fun m' vs h => ∃ i : Nat, i ≤ m.imps.length ∧ m' = m.imps.length - i ∧ (m.imps.take i).all (fun s => (resolveF ms s).isSome) = true ∧ vs = [.imm t z 8 (ms.map moC), .ptr 0 0 0 8, .slc 1 0 (tgsOf ms (m.imps.take i)).length false, .v (.int .i64 i)] ∧ h = [.box (cellsM m b1 z1 b2 z2 b3 z3 b4 z4 b5 z5 b6 z6), .lst 3 ((tgsOf ms (m.imps.take i)).map tgC)]) (And.intro ?_ ?_)))
    · refine Exists.intro [] (And.intro closed_nil (Exists.intro m.imps.length ?_))
      exact ⟨0, by omega, rfl, rfl, rfl, rfl⟩
    intro m' vs h hI
    obtain ⟨i, hi, rfl, hall, rfl, rfl⟩ := hI
    have htl : (tgsOf ms (m.imps.take i)).length ≤ 1048576 := by
      have := List.length_filterMap_le (fun s => (resolveF ms s).map tgOf) (m.imps.take i)
      simp only [tgsOf]
      have := List.length_take_le i m.imps
      omega
    refine And.intro (fun h1 => ?_) (fun h1 => ?_)
    · have h1 := of_decide_eq_true h1
      rw [List.length_map] at h1
      have hlt : i < m.imps.length := by omega
      obtain ⟨s, hs⟩ : ∃ s, m.imps[i]? = some s := ⟨_, List.getElem?_eq_getElem hlt⟩
      have hss := hm.imp s (List.mem_of_getElem? hs)
      refine Exists.intro i (And.intro rfl (Exists.intro (strC s) (And.intro (get_map hs) ?_)))
      refine Exists.intro ms (And.intro rfl (And.intro hlen (And.intro hsm (And.intro hss ?_))))
      cases hr : resolveF ms s with
      | none =>
        have hbad : resB ms m.imps = false := all_bad hs (by rw [hr]; rfl)
        refine And.intro (fun h2 => ?_) (fun h2 => by cases h2)
        refine And.intro (closed_Target _) ?_
        exact hp2 hbad (tgsOf ms (m.imps.take i))
      | some p =>
        have hst := tgs_at hs hr
        refine And.intro (fun h2 => by cases h2) (fun h2 => ?_)
        generalize tgsOf ms (m.imps.take i) = T at *
        refine Exists.intro [tgC (tgOf p)] (And.intro rfl (And.intro rfl (And.intro (tg_notSl _) ?_)))
        refine And.intro (List.length_map _) ?_
        refine And.intro (by simp; omega) ?_
        refine And.intro (by simp; omega) ?_
        refine Exists.intro [] (And.intro (closed_app (closed_Target T) (closed_Target [tgOf p])) (Exists.intro (m.imps.length - (i + 1)) (And.intro (by omega) ⟨i + 1, by omega, rfl, all_take hs hall (by rw [hr]; rfl), ?_, ?_⟩)))
        · rw [wrap_succ hlt (by omega), hst]
          simp
        · rw [hst]
          simp
    · have h1 := of_decide_eq_false h1
      rw [List.length_map] at h1
      rw [List.take_of_length_le (by omega)] at hall ⊢
      refine And.intro (closed_Target _) ?_
      exact hp1 hall
  · exact hp.elim

def hLongC : CH := fun args hl K => match args, hl with
  | [.imm _ _ 8 L, .agg [.v (.int .i64 a), .v (.int .i64 b), .v (.int .i64 c), .v (.int .i64 d)]], [] => ∃ ms : List Mo, L = ms.map moC ∧ ms.length ≤ 1048576 ∧ (∀ m ∈ ms, smMo m) ∧ K (.v (.bool (longB ms ⟨a, b, c, d⟩))) []
  | _, _ => False
def cx_s_l5TooLong : Ctx := mkC []
theorem cx_s_l5TooLong_ok : CtxOk Try.prog cx_s_l5TooLong := cx0_ok
set_option maxRecDepth 100000 in
set_option pp.maxSteps 1500 in
set_option maxHeartbeats 8000000 in
theorem s_l5TooLong : HSound Try.prog 72 (callM [] true hLongC) := by
  refine callM_sound cx_s_l5TooLong_ok mixed Try.func72 rfl fun args hl K hp => ?_
  unfold hLongC at hp
  split at hp
  · rename_i t z L a b c d
    obtain ⟨ms, rfl, hlen, hsm, hp⟩ := hp
    refine Exists.intro true (Exists.intro [0, 3, 5] (Exists.intro (fun m vs h => ∃ i : Nat, i ≤ ms.length ∧ m = ms.length - i ∧ (0 < a → (ms.take i).all (bankB ⟨a, b, c, d⟩) = true) ∧ vs = [.imm t z 8 (ms.map moC), .ptr 0 0 0 4, .v (.int .i64 i)] ∧ h = [.box [.v (.int .i64 a), .v (.int .i64 b), .v (.int .i64 c), .v (.int .i64 d)]]) (And.intro ?_ ?_)))
    · refine Exists.intro [] (Exists.intro ms.length ?_)
      exact ⟨0, by omega, rfl, fun _ => rfl, rfl, rfl⟩
    intro m vs h hI
    obtain ⟨i, hi, rfl, hall, rfl, rfl⟩ := hI
    refine And.intro (fun h1 => ?_) (fun h1 => ?_)
    · have h1 := of_decide_eq_true h1
      rw [List.length_map] at h1
      have hlt : i < ms.length := by omega
      obtain ⟨m, hm⟩ : ∃ m, ms[i]? = some m := ⟨_, List.getElem?_eq_getElem hlt⟩
      have hmm := hsm m (List.mem_of_getElem? hm)
      have hbl := hmm.banks
      refine Exists.intro true (Exists.intro [0, 3, 5, 6] (Exists.intro (fun m' vs h => ∃ j : Nat, j ≤ m.banks.length ∧ m' = m.banks.length - j ∧ (0 < a → (m.banks.take j).all (fun x => decide ((x.length : Int) ≤ b)) = true) ∧ vs = [.imm t z 8 (ms.map moC), .ptr 0 0 0 4, .v (.int .i64 i), .v (.int .i64 j)] ∧ h = [.box [.v (.int .i64 a), .v (.int .i64 b), .v (.int .i64 c), .v (.int .i64 d)]]) (And.intro ?_ ?_)))
      · refine Exists.intro [] (Exists.intro m.banks.length ?_)
        exact ⟨0, by omega, rfl, fun _ => rfl, rfl, rfl⟩
      intro m' vs h hI
      obtain ⟨j, hj, rfl, hbk, rfl, rfl⟩ := hI
      refine Exists.intro i (And.intro rfl (Exists.intro (moC m) (And.intro (get_map hm) ?_)))
      refine And.intro (fun h2 => ?_) (fun h2 => ?_)
      · have h2 := of_decide_eq_true h2
        rw [List.length_map] at h2
        have hjl : j < m.banks.length := by omega
        obtain ⟨x, hx⟩ : ∃ x, m.banks[j]? = some x := ⟨_, List.getElem?_eq_getElem hjl⟩
        have hwj : IntKind.wrap .i64 ((j : Int) + 1) = ((j + 1 : Nat) : Int) := wrap_succ hjl (by omega)
        refine And.intro (show Region.lexB _ _ = true from by kernel_rfl) ?_
        repeat' ((first
          | refine And.intro (fun h3 => ?_) (fun h3 => ?_)
          | refine Exists.intro i (And.intro rfl (Exists.intro (moC m) (And.intro (get_map hm) ?_)))
          | refine Exists.intro j (And.intro rfl (Exists.intro (bankC x) (And.intro (get_map hx) ?_)))
          | fail) <;> try cases h3)
        all_goals simp only [List.length_map, decide_eq_true_eq, decide_eq_false_iff_not, gt_iff_lt] at *
        · refine fin_b hp ?_
          have hb2 : bankB ⟨a, b, c, d⟩ m = false := all_bad hx (decide_eq_false (show ¬ (x.length : Int) ≤ b by omega))
          simp only [longB, all_bad hm hb2, Bool.not_false, Bool.and_true]
          exact decide_eq_true (show 0 < a by omega)
        all_goals refine Exists.intro [] (Exists.intro (m.banks.length - (j + 1)) (And.intro (by omega) ⟨j + 1, by omega, rfl, fun ha => ?_, by rw [hwj], rfl⟩))
        · exact all_take hx (hbk ha) (decide_eq_true (by omega))
        · omega
      · have h2 := of_decide_eq_false h2
        rw [List.length_map] at h2
        rw [List.take_of_length_le (by omega)] at hbk
        refine Exists.intro [] (Exists.intro (ms.length - (i + 1)) (And.intro (by omega) ⟨i + 1, by omega, rfl, fun ha => all_take hm (hall ha) (hbk ha), ?_, rfl⟩))
        rw [wrap_succ hlt (by omega)]
    · have h1 := of_decide_eq_false h1
      rw [List.length_map] at h1
      rw [List.take_of_length_le (by omega)] at hall
      refine fin_b hp ?_
      by_cases ha : 0 < a
      · simp only [longB, hall ha, Bool.not_true, Bool.and_false]
      · simp only [longB, decide_eq_false ha, Bool.false_and]
  · exact hp.elim
end Go.Proofs.Ytijjonafmmhhbaa.Ab
