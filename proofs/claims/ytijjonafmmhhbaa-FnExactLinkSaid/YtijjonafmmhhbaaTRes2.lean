/- Resolve: both programs' walks. No condition. -/
import Derived.Test.YtijjonafmmhhbaaTRes1
namespace Go.Proofs.Ytijjonafmmhhbaa.Ab
set_option linter.unusedVariables false
set_option linter.unusedSimpArgs false

def hRes : CH := fun args hl K => match args, hl with
  | [.imm _ _ 8 L, .v (.string s)], [] => ∃ ms : List Mo, L = ms.map moC ∧ ms.length ≤ 1048576 ∧ (∀ m ∈ ms, smMo m) ∧ s.size ≤ 1048576 ∧ K (resV (resolveF ms s)) []
  | _, _ => False
theorem fin_r {K : AV → HP → Prop} {h : HP} {x y : Option (Nat × Ex)} (hp : K (resV x) h) (e : x = y) : K (resV y) h := e ▸ hp
theorem exps_get {m : Mo} {i : Nat} {e : Ex} (h : m.exps[i]? = some e) : (m.exps.map exC)[i]? = some (exC e) := get_map h
def cx_s_spec_Resolve : Ctx := mkC [(36, callM [] false hFull), (88, callM [] false hDot)]
theorem cx_s_spec_Resolve_ok : CtxOk Try.prog cx_s_spec_Resolve := mkC_ok (mem1 ⟨s_l4FullOk, fnOk Try.func36 rfl rfl⟩ (mem1 ⟨s_l4Dot, fnOk Try.func88 rfl rfl⟩ mem0))
set_option maxRecDepth 100000 in
set_option pp.maxSteps 1500 in
set_option maxHeartbeats 4000000 in
theorem s_spec_Resolve : HSound Try.prog 112 (callM [] true hRes) := by
  refine callM_sound cx_s_spec_Resolve_ok mixed Try.func112 rfl fun args hl K hp => ?_
  unfold hRes at hp
  split at hp
  · rename_i t z L s
    obtain ⟨ms, rfl, hlen, hsm, hs, hp⟩ := hp
    refine And.intro (fun h1 => ?_) (fun h1 => ?_)
    · refine And.intro (fun h2 => ?_) (fun h2 => by cases h2)
      refine And.intro (fun h3 => ?_) (fun h3 => by cases h3)
      have h1 := of_decide_eq_true h1
      rw [List.length_map] at h1
      have e : resolveF ms s = none := by
        simp only [resolveF, decide_eq_false (by omega : ¬ ms.length ≤ 4), Bool.false_and]
      rw [e] at hp
      exact hp
    have h1 := of_decide_eq_false h1
    rw [List.length_map] at h1
    have hl4 : ms.length ≤ 4 := by omega
    clear h1
    refine And.intro hs ?_
    refine And.intro (fun h2 => by cases h2) (fun h2 => ?_)
    refine And.intro (fun h3 => ?_) (fun h3 => ?_)
    · have h3 : fullOk s = false := by simpa using h3
      have e : resolveF ms s = none := by
        simp only [resolveF, h3, Bool.and_false, Bool.false_and]
      rw [e] at hp
      exact hp
    have hf : fullOk s = true := by simpa using h3
    clear h3 h2
    refine Exists.intro true (Exists.intro [0, 1, 4, 6] (Exists.intro (fun m vs h => ∃ i : Nat, i ≤ ms.length ∧ m = ms.length - i ∧ (∀ q ∈ ms.take i, q.exps.length ≤ 16) ∧ vs = [.imm t z 8 (ms.map moC), .v (.string s), .ptr 0 0 0 3, .v (.int .i64 i)] ∧ h = [.box [.v (.int .i64 0), .v (.int .i64 0), .v (.int .i64 0)]]) (And.intro ?_ ?_)))
    · refine Exists.intro [] (Exists.intro ms.length ?_)
      exact ⟨0, by omega, rfl, fun q hq => by simp at hq, rfl, rfl⟩
    intro m vs h hI
    obtain ⟨i, hi, rfl, hall, rfl, rfl⟩ := hI
    refine And.intro (fun h1 => ?_) (fun h1 => ?_)
    · have h1 := of_decide_eq_true h1
      rw [List.length_map] at h1
      have hlt : i < ms.length := by omega
      obtain ⟨m, hm⟩ : ∃ m, ms[i]? = some m := ⟨_, List.getElem?_eq_getElem hlt⟩
      refine Exists.intro i (And.intro rfl (Exists.intro (moC m) (And.intro (get_map hm) ?_)))
      refine And.intro (fun h2 => ?_) (fun h2 => ?_)
      · have h2 := of_decide_eq_true h2
        rw [List.length_map] at h2
        have e : resolveF ms s = none := by
          have : ms.all (fun m => decide (m.exps.length ≤ 16)) = false := by
            rw [List.all_eq_false]
            exact ⟨m, List.mem_of_getElem? hm, by simp; omega⟩
          simp only [resolveF, this, Bool.and_false]
        rw [e] at hp
        exact hp
      · have h2 := of_decide_eq_false h2
        rw [List.length_map] at h2
        refine Exists.intro [] (Exists.intro (ms.length - (i + 1)) (And.intro (by omega) ⟨i + 1, by omega, rfl, ?_, ?_, rfl⟩))
        · intro q hq
          rw [List.take_add_one, hm] at hq
          simp only [Option.toList, List.mem_append, List.mem_singleton] at hq
          rcases hq with hq | rfl
          · exact hall q hq
          · omega
        · rw [wrap_succ hlt (by omega)]
    have h1 := of_decide_eq_false h1
    rw [List.length_map] at h1
    rw [List.take_of_length_le (by omega)] at hall
    have eR : resolveF ms s = resG ms (headS s) (tailS s) := by
      have : ms.all (fun m => decide (m.exps.length ≤ 16)) = true := by
        rw [List.all_eq_true]
        intro q hq
        simpa using hall q hq
      simp only [resolveF, decide_eq_true hl4, hf, this, Bool.and_true]
    rw [eR] at hp
    clear eR
    obtain ⟨n1, n2, p, hpq, hps, _, _⟩ := full_split hf
    have e0 : (dotI s).toNat = p := by omega
    simp only [headS, tailS, e0] at hp n1 n2
    refine And.intro hs ?_
    refine Exists.intro true (Exists.intro [0, 1, 4, 7, 8] (Exists.intro (fun m vs h => ∃ i : Nat, i ≤ ms.length ∧ m = ms.length - i ∧ (∀ k < i, ∀ q, ms[k]? = some q → q.name ≠ s.extract 0 p) ∧ vs = [.imm t z 8 (ms.map moC), .v (.string s), .ptr 0 0 0 3, .v (.int .i64 p), .v (.int .i64 i)] ∧ h = [.box [.v (.int .i64 0), .v (.int .i64 0), .v (.int .i64 0)]]) (And.intro ?_ ?_)))
    · refine Exists.intro [] (Exists.intro ms.length ?_)
      exact ⟨0, by omega, rfl, fun k hk => by omega, by rw [hpq]; rfl, rfl⟩
    intro m vs h hI
    obtain ⟨i, hi, rfl, hno, rfl, rfl⟩ := hI
    refine And.intro (fun h1 => ?_) (fun h1 => ?_)
    · have h1 := of_decide_eq_true h1
      rw [List.length_map] at h1
      have hlt : i < ms.length := by omega
      obtain ⟨m, hm⟩ : ∃ m, ms[i]? = some m := ⟨_, List.getElem?_eq_getElem hlt⟩
      have hmm := hall m (List.mem_of_getElem? hm)
      refine And.intro (show Region.lexB _ _ = true from by kernel_rfl) ?_
      refine Exists.intro i (And.intro rfl (Exists.intro (moC m) (And.intro (get_map hm) ?_)))
      refine Exists.intro p (And.intro rfl (And.intro (by omega) (And.intro (by omega) ?_)))
      refine And.intro (fun h2 => ?_) (fun h2 => ?_)
      · have h2 : ¬ m.name = s.extract 0 p := by
          rw [ba_beq2] at h2
          simpa using h2
        refine Exists.intro [] (Exists.intro (ms.length - (i + 1)) (And.intro (by omega) ⟨i + 1, by omega, rfl, ?_, ?_, rfl⟩))
        · intro k hk q hq
          rcases Nat.lt_or_ge k i with r | r
          · exact hno k r q hq
          · have : k = i := by omega
            subst this
            rw [hm] at hq
            cases hq
            exact h2
        · rw [wrap_succ hlt (by omega)]
      have h2 : m.name = s.extract 0 p := by
        rw [ba_beq2] at h2
        simpa using h2
      have eG := resG_at (b := s.extract (p + 1) s.size) hm h2 hno
      rw [eG] at hp
      clear eG h2
      refine Exists.intro true (Exists.intro [0, 1, 4, 7, 8, 9] (Exists.intro (fun m' vs h => ∃ j : Nat, j ≤ m.exps.length ∧ m' = m.exps.length - j ∧ (∀ k < j, ∀ q, m.exps[k]? = some q → q.n ≠ s.extract (p + 1) s.size) ∧ vs = [.imm t z 8 (ms.map moC), .v (.string s), .ptr 0 0 0 3, .v (.int .i64 p), .v (.int .i64 i), .v (.int .i64 j)] ∧ h = [.box [.v (.int .i64 0), .v (.int .i64 0), .v (.int .i64 0)]]) (And.intro ?_ ?_)))
      · refine Exists.intro [] (Exists.intro m.exps.length ?_)
        exact ⟨0, by omega, rfl, fun k hk => by omega, rfl, rfl⟩
      intro m' vs h hI
      obtain ⟨j, hj, rfl, hnj, rfl, rfl⟩ := hI
      refine Exists.intro i (And.intro rfl (Exists.intro (moC m) (And.intro (get_map hm) ?_)))
      refine And.intro (fun h3 => ?_) (fun h3 => ?_)
      · have h3 := of_decide_eq_true h3
        rw [List.length_map] at h3
        have hjl : j < m.exps.length := by omega
        obtain ⟨e, he⟩ : ∃ e, m.exps[j]? = some e := ⟨_, List.getElem?_eq_getElem hjl⟩
        refine Exists.intro i (And.intro rfl (Exists.intro (moC m) (And.intro (get_map hm) ?_)))
        refine Exists.intro j (And.intro rfl (Exists.intro (exC e) (And.intro (get_map he) ?_)))
        refine And.intro (show Region.lexB _ _ = true from by kernel_rfl) ?_
        refine Exists.intro (p + 1) (And.intro (by rw [wrap64 (by omega)]; omega) (And.intro (by omega) (And.intro (by omega) ?_)))
        refine And.intro (fun h4 => ?_) (fun h4 => ?_)
        · have h4 : e.n = s.extract (p + 1) s.size := by
            rw [ba_beq2] at h4
            simpa using h4
          rw [findEx_at he h4 hnj] at hp
          exact hp
        · have h4 : ¬ e.n = s.extract (p + 1) s.size := by
            rw [ba_beq2] at h4
            simpa using h4
          refine Exists.intro [] (Exists.intro (m.exps.length - (j + 1)) (And.intro (by omega) ⟨j + 1, by omega, rfl, ?_, ?_, rfl⟩))
          · intro k hk q hq
            rcases Nat.lt_or_ge k j with r | r
            · exact hnj k r q hq
            · have : k = j := by omega
              subst this
              rw [he] at hq
              cases hq
              exact h4
          · rw [wrap_succ hjl (by omega)]
      · have h3 := of_decide_eq_false h3
        rw [List.length_map] at h3
        have : findEx (s.extract (p + 1) s.size) m.exps = none := findEx_none fun q hq => by
          obtain ⟨k, hk, rfl⟩ := List.mem_iff_getElem.1 hq
          exact hnj k (by omega) _ (List.getElem?_eq_getElem hk)
        rw [this] at hp
        exact hp
    · have h1 := of_decide_eq_false h1
      rw [List.length_map] at h1
      have : resG ms (s.extract 0 p) (s.extract (p + 1) s.size) = none := resG_none fun q hq => by
        obtain ⟨k, hk, rfl⟩ := List.mem_iff_getElem.1 hq
        exact hno k (by omega) _ (List.getElem?_eq_getElem hk)
      rw [this] at hp
      exact hp
  · exact hp.elim
end Go.Proofs.Ytijjonafmmhhbaa.Ab
