/- Link of the reference, whole. No condition. -/
import Derived.Test.YtijjonafmmhhbaaTLink3
namespace Go.Proofs.Ytijjonafmmhhbaa.Ab
set_option linter.unusedVariables false
set_option linter.unusedSimpArgs false

def hLink : CH := fun args hl K => match args, hl with
  | [.imm _ _ 8 L, .agg [.v (.int .i64 a), .v (.int .i64 b), .v (.int .i64 c), .v (.int .i64 d)]], [] => ∃ ms : List Mo, L = ms.map moC ∧ ms.length ≤ 1048576 ∧ (∀ m ∈ ms, smMo m) ∧
      K (.tup [laR (linkL ms ⟨a, b, c, d⟩), .v (.int .i64 (linkC ms ⟨a, b, c, d⟩))]) (laH (linkL ms ⟨a, b, c, d⟩))
  | _, _ => False
theorem fin_k {K : AV → HP → Prop} {ms : List Mo} {c : Cf} (hp : K (.tup [laR (linkL ms c), .v (.int .i64 (linkC ms c))]) (laH (linkL ms c))) {n : Int} (h : linkC ms c = n) (hn : n ≠ 0) : K (.tup [laR zeroLa, .v (.int .i64 n)]) (laH zeroLa) := by
  subst h
  rw [show linkL ms c = zeroLa from if_neg hn] at hp
  exact hp
theorem fin_la {K : AV → HP → Prop} {ms : List Mo} {c : Cf} (hp : K (.tup [laR (linkL ms c), .v (.int .i64 (linkC ms c))]) (laH (linkL ms c))) (h : linkC ms c = 0) : K (.tup [laR (laF ms c), .v (.int .i64 0)]) (laH (laF ms c)) := by
  rw [show linkL ms c = laF ms c from if_pos h, h] at hp
  exact hp
def cx_s_spec_Link : Ctx := mkC [(70, callM [] true hSoundC), (71, callM [] true hTgts), (72, callM [] true hLongC), (73, callM [] true hLay)]
theorem cx_s_spec_Link_ok : CtxOk Try.prog cx_s_spec_Link := mkC_ok (mem1 ⟨s_l5Sound, fnOk Try.func70 rfl rfl⟩ (mem1 ⟨s_l5Targets, fnOk Try.func71 rfl rfl⟩ (mem1 ⟨s_l5TooLong, fnOk Try.func72 rfl rfl⟩ (mem1 ⟨s_l5Lay, fnOk Try.func73 rfl rfl⟩ mem0))))
set_option maxRecDepth 100000 in
set_option pp.maxSteps 1500 in
set_option maxHeartbeats 16000000 in
theorem s_spec_Link : HSound Try.prog 22 (callM [] true hLink) := by
  refine callM_sound cx_s_spec_Link_ok mixed Try.func22 rfl fun args hl K hp => ?_
  unfold hLink at hp
  split at hp
  · rename_i t z L a b c d
    obtain ⟨ms, rfl, hlen, hsm, hp⟩ := hp
    refine Exists.intro ms (And.intro rfl (And.intro hlen (And.intro hsm ?_)))
    refine And.intro (fun h1 => ?_) (fun h1 => ?_)
    · have h1 : ¬ soundF ms ⟨a, b, c, d⟩ = 0 := by simpa using h1
      have e : linkC ms ⟨a, b, c, d⟩ = soundF ms ⟨a, b, c, d⟩ := if_pos h1
      refine Or.inl ?_
      refine And.intro (show wfB _ = true from by kernel_rfl) ?_
      repeat' (first
        | (refine Exists.intro ms ?_; refine And.intro rfl ?_; refine And.intro hlen ?_; refine And.intro hsm ?_; exact And.intro rfl rfl)
        | refine And.intro (show wfB _ = true from by kernel_rfl) ?_ | refine And.intro (And.intro rfl rfl) ?_ | exact And.intro rfl rfl | apply HeldC.intro | exact AV.top | (apply HeldF.intro; refine Exists.intro _ (And.intro (by assumption) ?_); refine And.intro (by decide) ?_; exact And.intro rfl rfl) | (refine And.intro (by (refine Exists.intro _ (And.intro (by assumption) ?_); refine And.intro (by decide) ?_; exact And.intro rfl rfl)) ?_) | refine Or.inl ?_
        | fail)
      have hp2 := fin_k hp e h1
      refine And.intro closed_nil (And.intro closed_nil (And.intro closed_nil ?_))
      exact hp2
    have h1 : soundF ms ⟨a, b, c, d⟩ = 0 := by simpa using h1
    have hS := sound_of h1
    have f5 : ms.all (fun m => resB ms m.imps) = false → linkC ms ⟨a, b, c, d⟩ = 5 := fun h => by simp only [linkC, h1, h, ne_eq, not_true_eq_false, if_true, if_false]
    have hl4 := hS.len
    refine Exists.intro true (Exists.intro [0, 3, 4, 6, 7] (Exists.intro (fun m vs h => ∃ i : Nat, i ≤ ms.length ∧ m = ms.length - i ∧ (ms.take i).all (fun m => resB ms m.imps) = true ∧ vs = [.imm t z 8 (ms.map moC), .ptr 0 0 0 4, .ptr 1 0 0 6, .ptr 2 0 0 6, .v (.int .i64 i)] ∧
      h = [.box [.v (.int .i64 a), .v (.int .i64 b), .v (.int .i64 c), .v (.int .i64 d)], .box [.sl 4 [], .v (.int .i64 0), .sl 1 [], .v (.int .i64 0), .v (.int .i64 0), .sl 1 []], .box [.sl 4 [], .v (.int .i64 0), .sl 1 [], .v (.int .i64 0), .v (.int .i64 0), .sl 1 []]]) (And.intro ?_ ?_)))
    · refine Exists.intro [] ?_
      repeat' (first
        | refine Exists.intro _ (And.intro rfl (And.intro rfl (And.intro closed_nil ?_)))
        | fail)
      exact Exists.intro ms.length ⟨0, by omega, rfl, rfl, rfl, rfl⟩
    intro m vs h hI
    obtain ⟨i, hi, rfl, hall, rfl, rfl⟩ := hI
    refine And.intro (fun h2 => ?_) (fun h2 => ?_)
    · have h2 := of_decide_eq_true h2
      rw [List.length_map] at h2
      have hlt : i < ms.length := by omega
      obtain ⟨m, hm⟩ : ∃ m, ms[i]? = some m := ⟨_, List.getElem?_eq_getElem hlt⟩
      have hmm := hsm m (List.mem_of_getElem? hm)
      refine Exists.intro i (And.intro rfl (Exists.intro (moC m) (And.intro (get_map hm) ?_)))
      refine Exists.intro ms (Exists.intro m (And.intro rfl (And.intro hlen (And.intro hsm (And.intro ⟨_, _, _, _, _, _, _, _, _, _, _, _, rfl⟩ (And.intro hmm (And.intro (fun h3 => ?_) (fun h3 l => ?_))))))))
      · refine And.intro (fun h4 => by cases h4) (fun h4 => ?_)
        refine Exists.intro [] ?_
        repeat' (first
          | refine Exists.intro _ (And.intro rfl (And.intro rfl (And.intro closed_nil ?_)))
          | refine And.intro (closed_Target _) ?_
          | fail)
        refine Exists.intro (ms.length - (i + 1)) (And.intro (by omega) ⟨i + 1, by omega, rfl, all_take hm hall h3, ?_, ?_⟩)
        · rw [wrap_succ hlt (by omega)]
        · rfl
      · refine And.intro (fun h4 => ?_) (fun h4 => by cases h4)
        have hp2 := fin_k hp (f5 (all_bad hm h3)) (by decide)
        refine And.intro closed_nil (And.intro closed_nil (And.intro closed_nil ?_))
        exact hp2
    have h2 := of_decide_eq_false h2
    rw [List.length_map] at h2
    rw [List.take_of_length_le (by omega)] at hall
    refine Exists.intro ms (And.intro rfl (And.intro hlen (And.intro hsm ?_)))
    refine And.intro (fun h3 => ?_) (fun h3 => ?_)
    · have e : linkC ms ⟨a, b, c, d⟩ = 6 := by simp only [linkC, h1, hall, h3, ne_eq, not_true_eq_false, Bool.true_eq_false, if_true, if_false]
      have hp2 := fin_k hp e (by decide)
      refine And.intro closed_nil (And.intro closed_nil (And.intro closed_nil ?_))
      exact hp2
    · refine Exists.intro ms (And.intro rfl (And.intro hsm (And.intro hS (And.intro hall ?_))))
      have e : linkC ms ⟨a, b, c, d⟩ = if 16384 < (laF ms ⟨a, b, c, d⟩).flash then 7 else if 16384 < (laF ms ⟨a, b, c, d⟩).ram then 8 else 0 := by simp only [linkC, h1, hall, h3, ne_eq, not_true_eq_false, Bool.true_eq_false, Bool.false_eq_true, if_true, if_false]
      refine And.intro (fun h4 => ?_) (fun h4 => ?_)
      · have h4 := of_decide_eq_true h4
        rw [if_pos h4] at e
        have hp2 := fin_k hp e (by decide)
        refine And.intro closed_nil (And.intro closed_nil (And.intro closed_nil ?_))
        exact hp2
      have h4 := of_decide_eq_false h4
      rw [if_neg h4] at e
      refine And.intro (fun h5 => ?_) (fun h5 => ?_)
      · have h5 := of_decide_eq_true h5
        rw [if_pos h5] at e
        have hp2 := fin_k hp e (by decide)
        refine And.intro closed_nil (And.intro closed_nil (And.intro closed_nil ?_))
        exact hp2
      · have h5 := of_decide_eq_false h5
        rw [if_neg h5] at e
        have hp2 := fin_la hp e
        refine And.intro (closed_Place _) (And.intro (closed_Int _) (And.intro (closed_TargetS _) ?_))
        exact hp2
  · exact hp.elim
end Go.Proofs.Ytijjonafmmhhbaa.Ab
