/- Functions walked, part 10. No condition. -/
import Derived.Test.YtbfjkjdbdejnmaaGreatWalk9
import Derived.Test.YtbfjkjdbdejnmaaGreatWalk6
import Derived.Test.YtbfjkjdbdejnmaaGreatWalk3
set_option linter.unusedVariables false
set_option linter.unusedSimpArgs false
/- Link of impl, whole. No condition. -/
namespace Go.Proofs.YtbfjkjdbdejnmaaGreat.Ab
set_option linter.unusedVariables false
set_option linter.unusedSimpArgs false

theorem laP_laF (ms : List Mo) (c : Cf) : laF ms c = { laP ms c with tgts := ms.map fun m => tgsOf ms m.imps } := rfl
def cx_s_impl_Link : Ctx := mkC [(145, callM [] false hCfg), (146, callM [] true hModOk), (147, callM [] false hNames), (148, callM [] true hPlaced)]
theorem cx_s_impl_Link_ok : CtxOk Tryz.prog cx_s_impl_Link := mkC_ok (mem1 ⟨s_impl_ConfigOk, fnOk Tryz.func145 rfl rfl⟩ (mem1 ⟨s_impl_ModuleOk, fnOk Tryz.func146 rfl rfl⟩ (mem1 ⟨s_namesOf, fnOk Tryz.func147 rfl rfl⟩ (mem1 ⟨s_placed, fnOk Tryz.func148 rfl rfl⟩ mem0))))
set_option maxRecDepth 100000 in
set_option pp.maxSteps 1500 in
set_option maxHeartbeats 16000000 in
theorem s_impl_Link : HSound Tryz.prog 102 (callM [] true hLink) := by
  refine callM_sound cx_s_impl_Link_ok mixed Tryz.func102 rfl fun args hl K hp => ?_
  unfold hLink at hp
  split at hp
  · rename_i t z L a b c d
    obtain ⟨ms, rfl, hlen, hsm, hp⟩ := hp
    refine And.intro (fun h1 => ?_) (fun h1 => ?_)
    · have h1 : cfgB ⟨a, b, c, d⟩ = false := by simpa using h1
      have e : linkC ms ⟨a, b, c, d⟩ = 1 := by simp only [linkC, soundF, h1, if_true]; rfl
      have hp2 := fin_k hp e (by decide)
      refine And.intro closed_nil (And.intro closed_nil (And.intro closed_nil ?_))
      exact hp2
    have e1 : cfgB ⟨a, b, c, d⟩ = true := by simpa using h1
    clear h1
    have fS : ∀ n, soundF ms ⟨a, b, c, d⟩ = n → n ≠ 0 → linkC ms ⟨a, b, c, d⟩ = n := fun n h h0 => by rw [linkC, if_pos (by rw [h]; exact h0), h]
    have f2 : decide (1 ≤ ms.length ∧ ms.length ≤ 4) = false → soundF ms ⟨a, b, c, d⟩ = 2 := fun h => by simp only [soundF, e1, h, Bool.true_eq_false, if_true, if_false]
    repeat' ((first | refine And.intro (fun h1 => ?_) (fun h1 => ?_) | refine And.intro (by decide) ?_ | refine And.intro (show wfB _ = true from by kernel_rfl) ?_ | refine And.intro (And.intro rfl rfl) ?_ | exact And.intro rfl rfl | apply HeldC.intro | exact AV.top | (apply HeldF.intro; refine Exists.intro _ (And.intro (by assumption) ?_); refine And.intro (by decide) ?_; exact And.intro rfl rfl) | (refine And.intro (by (refine Exists.intro _ (And.intro (by assumption) ?_); refine And.intro (by decide) ?_; exact And.intro rfl rfl)) ?_) | refine Or.inl ?_) <;> try cases h1)
    · have h1 := of_decide_eq_true h1
      rw [List.length_map] at h1
      have hp2 := fin_k hp (fS 2 (f2 (decide_eq_false (by omega))) (by decide)) (by decide)
      refine And.intro closed_nil (And.intro closed_nil (And.intro closed_nil ?_))
      exact hp2
    · have h1 := of_decide_eq_true h1
      rw [List.length_map] at h1
      have hp2 := fin_k hp (fS 2 (f2 (decide_eq_false (by omega))) (by decide)) (by decide)
      refine And.intro closed_nil (And.intro closed_nil (And.intro closed_nil ?_))
      exact hp2
    rename_i h0
    have h0 := of_decide_eq_false h0
    have h1 := of_decide_eq_false h1
    rw [List.length_map] at h0 h1
    have e2 : decide (1 ≤ ms.length ∧ ms.length ≤ 4) = true := decide_eq_true (by omega)
    clear f2
    have f3 : ms.all (fun m => decide (modOk m = 0)) = false → soundF ms ⟨a, b, c, d⟩ = 3 := fun h => by simp only [soundF, e1, e2, h, Bool.true_eq_false, if_true, if_false]
    refine Exists.intro true (Exists.intro [0, 3, 4, 40, 41, 42] (Exists.intro (fun n vs h => ∃ i : Nat, i ≤ ms.length ∧ n = ms.length - i ∧ (ms.take i).all (fun m => decide (modOk m = 0)) = true ∧ vs = [.imm t z 8 (ms.map moC), .ptr 0 0 0 4, .ptr 1 0 0 6, .imm t z 8 (ms.map moC), .v (.int .i64 ms.length), .v (.int .i64 i)] ∧
      h = [.box [.v (.int .i64 a), .v (.int .i64 b), .v (.int .i64 c), .v (.int .i64 d)], .box [.sl 4 [], .v (.int .i64 0), .sl 1 [], .v (.int .i64 0), .v (.int .i64 0), .sl 1 []]]) (And.intro ?_ ?_)))
    · refine Exists.intro [] ?_
      repeat' (first
        | refine Exists.intro _ (And.intro rfl (And.intro rfl (And.intro closed_nil ?_)))
        | fail)
      exact Exists.intro ms.length ⟨0, by omega, rfl, rfl, by rw [List.length_map]; rfl, rfl⟩
    intro n vs h hI
    obtain ⟨i, hi, rfl, hall, rfl, rfl⟩ := hI
    refine And.intro (fun h2 => ?_) (fun h2 => ?_)
    · have h2 := of_decide_eq_true h2
      have hlt : i < ms.length := by omega
      obtain ⟨m, hm⟩ : ∃ m, ms[i]? = some m := ⟨_, List.getElem?_eq_getElem hlt⟩
      refine Exists.intro i (And.intro rfl (Exists.intro (moC m) (And.intro (get_map hm) ?_)))
      refine Exists.intro m (And.intro ⟨_, _, _, _, _, _, _, _, _, _, _, _, rfl⟩ (And.intro (hsm m (List.mem_of_getElem? hm)) ?_))
      refine And.intro (fun h3 => ?_) (fun h3 => ?_)
      · have h3 : ¬ modOk m = 0 := by simpa using h3
        have hp2 := fin_k hp (fS 3 (f3 (all_bad hm (decide_eq_false h3))) (by decide)) (by decide)
        refine And.intro closed_nil (And.intro closed_nil (And.intro closed_nil ?_))
        exact hp2
      · have h3 : modOk m = 0 := by simpa using h3
        refine Exists.intro [] ?_
        repeat' (first
          | refine Exists.intro _ (And.intro rfl (And.intro rfl (And.intro closed_nil ?_)))
          | fail)
        refine Exists.intro (ms.length - (i + 1)) (And.intro (by omega) ⟨i + 1, by omega, rfl, all_take hm hall (decide_eq_true h3), ?_, rfl⟩)
        rw [wrap_succ hlt (by omega)]
    have h2 := of_decide_eq_false h2
    rw [List.take_of_length_le (by omega)] at hall
    clear f3
    have f4 : (List.range ms.length).all (newB ms) = false → soundF ms ⟨a, b, c, d⟩ = 4 := fun h => by simp only [soundF, e1, e2, hall, h, Bool.true_eq_false, if_true, if_false]
    refine Exists.intro true (Exists.intro [0, 3, 4, 8, 52, 53, 54] (Exists.intro (fun n vs h => ∃ (i : Nat) (S : List (MK × Value)), i ≤ ms.length ∧ n = ms.length - i ∧ (∀ k < i, newB ms k = true) ∧ (∀ q, mapFind (.s q) S = match seenB ms i q with | true => some (.bool true) | false => none) ∧ vs = [.imm t z 8 (ms.map moC), .ptr 0 0 0 4, .ptr 1 0 0 6, .mapr 2, .imm t z 8 (ms.map moC), .v (.int .i64 ms.length), .v (.int .i64 i)] ∧
      h = [.box [.v (.int .i64 a), .v (.int .i64 b), .v (.int .i64 c), .v (.int .i64 d)], .box [.sl 4 [], .v (.int .i64 0), .sl 1 [], .v (.int .i64 0), .v (.int .i64 0), .sl 1 []], .mp 0 S]) (And.intro ?_ ?_)))
    · refine Exists.intro [] ?_
      repeat' (first
        | refine Exists.intro _ (And.intro rfl (And.intro rfl (And.intro closed_nil ?_)))
        | fail)
      exact Exists.intro ms.length ⟨0, [], by omega, rfl, fun k hk => by omega, fun q => rfl, by rw [List.length_map]; rfl, rfl⟩
    intro n vs h hI
    obtain ⟨i, S, hi, rfl, hnew, hS, rfl, rfl⟩ := hI
    refine And.intro (fun h2 => ?_) (fun h2 => ?_)
    · have h2 := of_decide_eq_true h2
      have hlt : i < ms.length := by omega
      obtain ⟨m, hm⟩ : ∃ m, ms[i]? = some m := ⟨_, List.getElem?_eq_getElem hlt⟩
      refine Exists.intro i (And.intro rfl (Exists.intro (moC m) (And.intro (get_map hm) ?_)))
      refine And.intro (fun v hv => ?_) (fun hv => ?_)
      · rw [hS] at hv
        have hsn : seenB ms i m.name = true := by
          cases hh : seenB ms i m.name with
          | true => rfl
          | false => rw [hh] at hv; cases hv
        rw [hsn] at hv
        cases hv
        refine And.intro (fun h3 => ?_) (fun h3 => by cases h3)
        have hp2 := fin_k hp (fS 4 (f4 (range_bad hlt (by rw [new_val hm, hsn]; rfl))) (by decide)) (by decide)
        refine And.intro closed_nil (And.intro closed_nil (And.intro closed_nil ?_))
        exact hp2
      · rw [hS] at hv
        have hsn : seenB ms i m.name = false := by
          cases hh : seenB ms i m.name with
          | false => rfl
          | true => rw [hh] at hv; cases hv
        clear hv
        refine And.intro (fun h3 => by cases h3) (fun h3 => ?_)
        have hS' : ∀ q, mapFind (.s q) (mapSet (.s m.name) (.bool true) S) = match seenB ms (i + 1) q with | true => some (.bool true) | false => none := by
          intro q
          rw [mapFind_set, hS, seen_step hm]
          by_cases hq : m.name = q
          · subst hq
            simp [hsn]
          · rw [if_neg (by simpa using hq), decide_eq_false hq, Bool.or_false]
        refine Exists.intro [] ?_
        repeat' (first
          | refine Exists.intro _ (And.intro rfl (And.intro rfl (And.intro closed_nil ?_)))
          | fail)
        refine Exists.intro (ms.length - (i + 1)) (And.intro (by omega) ⟨i + 1, _, by omega, rfl, lt_step hnew (by rw [new_val hm, hsn]; rfl), hS', ?_, rfl⟩)
        rw [wrap_succ hlt (by omega)]
    have h2 := of_decide_eq_false h2
    have hnn := range_all (n := ms.length) fun k hk => hnew k (by omega)
    have eS : soundF ms ⟨a, b, c, d⟩ = 0 := by simp only [soundF, e1, e2, hall, hnn, Bool.true_eq_false, if_false]
    have hSo := sound_of eS
    clear f4 fS hnew hS h2
    have f5 : ms.all (fun m => resB ms m.imps) = false → linkC ms ⟨a, b, c, d⟩ = 5 := fun h => by simp only [linkC, eS, h, ne_eq, not_true_eq_false, if_true, if_false]
    refine Exists.intro ms (And.intro rfl (And.intro hlen (And.intro hsm ?_)))
    intro M hM
    refine Or.inr ?_
    have hl4 := hSo.len
    have hgm := hSo.mo
    have hfu := hSo.full
    refine Exists.intro true (Exists.intro [0, 3, 4, 11, 12, 69, 70, 71] (Exists.intro (fun n vs h => ∃ i : Nat, i ≤ ms.length ∧ n = ms.length - i ∧ (ms.take i).all (fun m => resB ms m.imps) = true ∧ vs = [.imm t z 8 (ms.map moC), .ptr 0 0 0 4, .ptr 1 0 0 6, .mapr 2, .slc 3 0 ((ms.take i).map fun m => tgsOf ms m.imps).length false, .imm t z 8 (ms.map moC), .v (.int .i64 ms.length), .v (.int .i64 i)] ∧
      h = [.box [.v (.int .i64 a), .v (.int .i64 b), .v (.int .i64 c), .v (.int .i64 d)], .box [.sl 4 [], .v (.int .i64 0), .sl 1 [], .v (.int .i64 0), .v (.int .i64 0), .sl 1 []], .mp 0 M, .lst 1 (((ms.take i).map fun m => tgsOf ms m.imps).map tgsC)]) (And.intro ?_ ?_)))
    · refine Exists.intro [] ?_
      repeat' (first
        | refine Exists.intro _ (And.intro rfl (And.intro rfl (And.intro closed_nil ?_)))
        | refine And.intro closed_nil ?_
        | fail)
      exact Exists.intro ms.length ⟨0, by omega, rfl, rfl, by rw [List.length_map]; rfl, rfl⟩
    intro n vs h hI
    obtain ⟨i, hi, rfl, hall, rfl, rfl⟩ := hI
    have htn : ((ms.take i).map (fun m => tgsOf ms m.imps)).length = i := by rw [List.length_map, List.length_take]; omega
    refine And.intro (fun h2 => ?_) (fun h2 => ?_)
    · have h2 := of_decide_eq_true h2
      have hlt : i < ms.length := by omega
      obtain ⟨m, hm⟩ : ∃ m, ms[i]? = some m := ⟨_, List.getElem?_eq_getElem hlt⟩
      have hmem := List.mem_of_getElem? hm
      have hmm := hsm m hmem
      have g := hgm m hmem
      have gil := g.il
      have htk : (ms.take (i + 1)).map (fun m => tgsOf ms m.imps) = (ms.take i).map (fun m => tgsOf ms m.imps) ++ [tgsOf ms m.imps] := by
        rw [List.take_add_one, hm, List.map_append]
        rfl
      generalize (ms.take i).map (fun m => tgsOf ms m.imps) = TG at *
      refine Exists.intro i (And.intro rfl (Exists.intro (moC m) (And.intro (get_map hm) ?_)))
      refine Or.inr ?_
      refine Exists.intro true (Exists.intro [0, 3, 4, 11, 12, 15, 69, 70, 71, 76, 77, 78] (Exists.intro (fun n vs h => ∃ j : Nat, j ≤ m.imps.length ∧ n = m.imps.length - j ∧ (m.imps.take j).all (fun s => (resolveF ms s).isSome) = true ∧ vs = [.imm t z 8 (ms.map moC), .ptr 0 0 0 4, .ptr 1 0 0 6, .mapr 2, .slc 3 0 TG.length false, .slc 4 0 (tgsOf ms (m.imps.take j)).length false, .imm t z 8 (ms.map moC), .v (.int .i64 ms.length), .v (.int .i64 i), .imm t false 1 (m.imps.map strC), .v (.int .i64 m.imps.length), .v (.int .i64 j)] ∧
        h = [.box [.v (.int .i64 a), .v (.int .i64 b), .v (.int .i64 c), .v (.int .i64 d)], .box [.sl 4 [], .v (.int .i64 0), .sl 1 [], .v (.int .i64 0), .v (.int .i64 0), .sl 1 []], .mp 0 M, .lst 1 (TG.map tgsC), .lst 3 ((tgsOf ms (m.imps.take j)).map tgC)]) (And.intro ?_ ?_)))
      · refine Exists.intro [] ?_
        repeat' (first
          | refine Exists.intro _ (And.intro rfl (And.intro rfl (And.intro closed_nil ?_)))
          | refine And.intro closed_nil ?_
          | refine And.intro (closed_TargetS _) ?_
          | fail)
        exact Exists.intro m.imps.length ⟨0, by omega, rfl, rfl, by rw [List.length_map]; rfl, rfl⟩
      intro n vs h hI
      obtain ⟨j, hj, rfl, hallj, rfl, rfl⟩ := hI
      have htl : (tgsOf ms (m.imps.take j)).length ≤ 16 := by
        have := List.length_filterMap_le (fun s => (resolveF ms s).map tgOf) (m.imps.take j)
        simp only [tgsOf]
        have := List.length_take_le j m.imps
        omega
      refine And.intro (fun h3 => ?_) (fun h3 => ?_)
      · have h3 := of_decide_eq_true h3
        have hjl : j < m.imps.length := by omega
        obtain ⟨s, hs⟩ : ∃ s, m.imps[j]? = some s := ⟨_, List.getElem?_eq_getElem hjl⟩
        have hrs := res_eq hl4.2 hgm (hfu m hmem s (List.mem_of_getElem? hs))
        refine Exists.intro j (And.intro rfl (Exists.intro (strC s) (And.intro (get_map hs) ?_)))
        refine And.intro (fun v hv => ?_) (fun hv => ?_)
        · rw [hM, hrs] at hv
          obtain ⟨p, hp1, rfl⟩ := Option.map_eq_some_iff.1 hv
          have hst := tgs_at hs hp1
          refine And.intro (fun h4 => by cases h4) (fun h4 => ?_)
          generalize tgsOf ms (m.imps.take j) = T at *
          repeat' (first
            | refine Exists.intro [tgC (tgOf p)] (And.intro rfl (And.intro rfl (And.intro (tg_notSl _) ?_)))
            | refine And.intro (List.length_map _) ?_
            | refine And.intro (by simp; omega) ?_
            | fail)
          refine Exists.intro [] ?_
          repeat' (first
            | refine Exists.intro _ (And.intro rfl (And.intro rfl (And.intro closed_nil ?_)))
            | refine And.intro (closed_TargetS _) ?_
            | refine And.intro (closed_app (closed_Target T) (closed_Target [tgOf p])) ?_
            | fail)
          refine Exists.intro (m.imps.length - (j + 1)) (And.intro (by omega) ⟨j + 1, by omega, rfl, all_take hs hallj (by rw [hp1]; rfl), ?_, ?_⟩)
          · rw [wrap_succ hjl (by omega), hst]
            simp
          · rw [hst]
            simp
        · rw [hM, hrs] at hv
          have hn := Option.map_eq_none_iff.1 hv
          refine And.intro (fun h4 => ?_) (fun h4 => by cases h4)
          have hp2 := fin_k hp (f5 (all_bad hm (all_bad hs (by rw [hn]; rfl)))) (by decide)
          refine And.intro closed_nil (And.intro closed_nil (And.intro closed_nil ?_))
          exact hp2
      · have h3 := of_decide_eq_false h3
        have hjj : j = m.imps.length := by omega
        subst hjj
        rw [List.take_length] at hallj htl ⊢
        repeat' (first
          | refine Exists.intro _ (And.intro (lendD _ _) (And.intro (List.length_map _) (And.intro (closed_Target _) ?_)))
          | refine And.intro (closed_Target _) ?_
          | refine And.intro rfl (And.intro (List.length_map _) (And.intro (by simp; omega) (And.intro (by simp; omega) ?_)))
          | fail)
        refine Exists.intro [] ?_
        repeat' (first
          | refine Exists.intro _ (And.intro rfl (And.intro rfl (And.intro closed_nil ?_)))
          | refine And.intro (closed_app (closed_TargetS TG) (closed_TargetS [_])) ?_
          | fail)
        refine Exists.intro (ms.length - (i + 1)) (And.intro (by omega) ⟨i + 1, by omega, rfl, all_take hm hall hallj, ?_, ?_⟩)
        · rw [wrap_succ hlt (by omega), htk]
          simp
        · rw [htk]
          simp
          rfl
    have h2 := of_decide_eq_false h2
    rw [List.take_of_length_le (by omega)] at hall htn ⊢
    clear f5
    refine And.intro (fun h3 => ?_) (fun h3 => ?_)
    · have h3 := of_decide_eq_true h3
      have f6 : ms.all (bankB ⟨a, b, c, d⟩) = false → linkC ms ⟨a, b, c, d⟩ = 6 := fun h => by
        have hl : longB ms ⟨a, b, c, d⟩ = true := by simp only [longB, h, decide_eq_true (show 0 < a from h3), Bool.not_false, Bool.and_true]
        simp only [linkC, eS, hall, hl, ne_eq, not_true_eq_false, Bool.true_eq_false, if_true, if_false]
      generalize hTG : (ms.map fun m => tgsOf ms m.imps) = TG at *
      refine Exists.intro true (Exists.intro [0, 3, 4, 12, 104, 105, 106] (Exists.intro (fun n vs h => ∃ i : Nat, i ≤ ms.length ∧ n = ms.length - i ∧ (ms.take i).all (bankB ⟨a, b, c, d⟩) = true ∧ vs = [.imm t z 8 (ms.map moC), .ptr 0 0 0 4, .ptr 1 0 0 6, .slc 2 0 TG.length false, .imm t z 8 (ms.map moC), .v (.int .i64 ms.length), .v (.int .i64 i)] ∧
        h = [.box [.v (.int .i64 a), .v (.int .i64 b), .v (.int .i64 c), .v (.int .i64 d)], .box [.sl 4 [], .v (.int .i64 0), .sl 1 [], .v (.int .i64 0), .v (.int .i64 0), .sl 1 []], .lst 1 (TG.map tgsC)]) (And.intro ?_ ?_)))
      · refine Exists.intro [] ?_
        repeat' (first
          | refine Exists.intro _ (And.intro rfl (And.intro rfl (And.intro closed_nil ?_)))
          | refine And.intro (closed_TargetS _) ?_
          | fail)
        exact Exists.intro ms.length ⟨0, by omega, rfl, rfl, by rw [List.length_map]; rfl, rfl⟩
      intro n vs h hI
      obtain ⟨i, hi, rfl, hbk, rfl, rfl⟩ := hI
      refine And.intro (fun h4 => ?_) (fun h4 => ?_)
      · have h4 := of_decide_eq_true h4
        have hlt : i < ms.length := by omega
        obtain ⟨m, hm⟩ : ∃ m, ms[i]? = some m := ⟨_, List.getElem?_eq_getElem hlt⟩
        have g := hgm m (List.mem_of_getElem? hm)
        have gbl := g.bl
        refine Exists.intro i (And.intro rfl (Exists.intro (moC m) (And.intro (get_map hm) ?_)))
        refine Exists.intro true (Exists.intro [0, 3, 4, 12, 104, 105, 106, 111, 112, 113] (Exists.intro (fun n vs h => ∃ j : Nat, j ≤ m.banks.length ∧ n = m.banks.length - j ∧ (m.banks.take j).all (fun x => decide ((x.length : Int) ≤ b)) = true ∧ vs = [.imm t z 8 (ms.map moC), .ptr 0 0 0 4, .ptr 1 0 0 6, .slc 2 0 TG.length false, .imm t z 8 (ms.map moC), .v (.int .i64 ms.length), .v (.int .i64 i), .imm t false 1 (m.banks.map bankC), .v (.int .i64 m.banks.length), .v (.int .i64 j)] ∧
          h = [.box [.v (.int .i64 a), .v (.int .i64 b), .v (.int .i64 c), .v (.int .i64 d)], .box [.sl 4 [], .v (.int .i64 0), .sl 1 [], .v (.int .i64 0), .v (.int .i64 0), .sl 1 []], .lst 1 (TG.map tgsC)]) (And.intro ?_ ?_)))
        · refine Exists.intro [] ?_
          repeat' (first
            | refine Exists.intro _ (And.intro rfl (And.intro rfl (And.intro closed_nil ?_)))
            | refine And.intro (closed_TargetS _) ?_
            | fail)
          exact Exists.intro m.banks.length ⟨0, by omega, rfl, rfl, by rw [List.length_map]; rfl, rfl⟩
        intro n vs h hI
        obtain ⟨j, hj, rfl, hbj, rfl, rfl⟩ := hI
        refine And.intro (fun h5 => ?_) (fun h5 => ?_)
        · have h5 := of_decide_eq_true h5
          have hjl : j < m.banks.length := by omega
          obtain ⟨x, hx⟩ : ∃ x, m.banks[j]? = some x := ⟨_, List.getElem?_eq_getElem hjl⟩
          refine Exists.intro j (And.intro rfl (Exists.intro (bankC x) (And.intro (get_map hx) ?_)))
          refine And.intro (fun h6 => ?_) (fun h6 => ?_)
          · have h6 := of_decide_eq_true h6
            rw [List.length_map] at h6
            have hb2 : bankB ⟨a, b, c, d⟩ m = false := all_bad hx (decide_eq_false (show ¬ (x.length : Int) ≤ b by omega))
            have hp2 := fin_k hp (f6 (all_bad hm hb2)) (by decide)
            refine And.intro closed_nil (And.intro closed_nil (And.intro closed_nil ?_))
            exact hp2
          · have h6 := of_decide_eq_false h6
            rw [List.length_map] at h6
            refine Exists.intro [] ?_
            repeat' (first
              | refine Exists.intro _ (And.intro rfl (And.intro rfl (And.intro closed_nil ?_)))
              | refine And.intro (closed_TargetS _) ?_
              | fail)
            refine Exists.intro (m.banks.length - (j + 1)) (And.intro (by omega) ⟨j + 1, by omega, rfl, all_take hx hbj (decide_eq_true (by omega)), ?_, rfl⟩)
            rw [wrap_succ hjl (by omega)]
        · have h5 := of_decide_eq_false h5
          rw [List.take_of_length_le (by omega)] at hbj
          refine Exists.intro [] ?_
          repeat' (first
            | refine Exists.intro _ (And.intro rfl (And.intro rfl (And.intro closed_nil ?_)))
            | refine And.intro (closed_TargetS _) ?_
            | fail)
          refine Exists.intro (ms.length - (i + 1)) (And.intro (by omega) ⟨i + 1, by omega, rfl, all_take hm hbk hbj, ?_, rfl⟩)
          rw [wrap_succ hlt (by omega)]
      have h4 := of_decide_eq_false h4
      rw [List.take_of_length_le (by omega)] at hbk
      have hlo : longB ms ⟨a, b, c, d⟩ = false := by simp only [longB, hbk, Bool.not_true, Bool.and_false]
      subst hTG
      refine Exists.intro ms (And.intro rfl (And.intro hsm (And.intro hSo ?_)))
      have e : linkC ms ⟨a, b, c, d⟩ = if 16384 < (laP ms ⟨a, b, c, d⟩).flash then 7 else if 16384 < (laP ms ⟨a, b, c, d⟩).ram then 8 else 0 := by simp only [linkC, eS, hall, hlo, ne_eq, not_true_eq_false, Bool.true_eq_false, Bool.false_eq_true, if_true, if_false]; rfl
      refine And.intro (fun h4 => ?_) (fun h4 => ?_)
      · have h4 := of_decide_eq_true h4
        rw [if_pos h4] at e
        have hp2 := fin_k hp e (by decide)
        refine And.intro closed_nil (And.intro closed_nil (And.intro closed_nil ?_))
        exact hp2
      have h4 := of_decide_eq_false h4
      rw [if_neg h4] at e
      refine And.intro (fun h5 => ?_) (fun h5 => ?_)
      · have h5 := of_decide_eq_true h5
        rw [if_pos h5] at e
        have hp2 := fin_k hp e (by decide)
        refine And.intro closed_nil (And.intro closed_nil (And.intro closed_nil ?_))
        exact hp2
      have h5 := of_decide_eq_false h5
      rw [if_neg h5] at e
      have hp2 := fin_la hp e
      rw [laP_laF] at hp2
      refine And.intro (closed_Place _) (And.intro (closed_Int _) (And.intro (closed_TargetS _) ?_))
      exact hp2
    have h3 := of_decide_eq_false h3
    have hlo : longB ms ⟨a, b, c, d⟩ = false := by simp only [longB, decide_eq_false (show ¬ 0 < a from h3), Bool.false_and]
    refine Exists.intro ms (And.intro rfl (And.intro hsm (And.intro hSo ?_)))
    have e : linkC ms ⟨a, b, c, d⟩ = if 16384 < (laP ms ⟨a, b, c, d⟩).flash then 7 else if 16384 < (laP ms ⟨a, b, c, d⟩).ram then 8 else 0 := by simp only [linkC, eS, hall, hlo, ne_eq, not_true_eq_false, Bool.true_eq_false, Bool.false_eq_true, if_true, if_false]; rfl
    refine And.intro (fun h4 => ?_) (fun h4 => ?_)
    · have h4 := of_decide_eq_true h4
      rw [if_pos h4] at e
      have hp2 := fin_k hp e (by decide)
      refine And.intro closed_nil (And.intro closed_nil (And.intro closed_nil ?_))
      exact hp2
    have h4 := of_decide_eq_false h4
    rw [if_neg h4] at e
    refine And.intro (fun h5 => ?_) (fun h5 => ?_)
    · have h5 := of_decide_eq_true h5
      rw [if_pos h5] at e
      have hp2 := fin_k hp e (by decide)
      refine And.intro closed_nil (And.intro closed_nil (And.intro closed_nil ?_))
      exact hp2
    have h5 := of_decide_eq_false h5
    rw [if_neg h5] at e
    have hp2 := fin_la hp e
    rw [laP_laF] at hp2
    refine And.intro (closed_Place _) (And.intro (closed_Int _) (And.intro (closed_TargetS _) ?_))
    exact hp2
  · exact hp.elim
end Go.Proofs.YtbfjkjdbdejnmaaGreat.Ab

/- Memories: marked and found again. No condition. -/
namespace Go.Proofs.YtbfjkjdbdejnmaaGreat.Ab

/-! ### Byte: marked and found again (printed by gen/mark1.py) -/

def marksByte (k : Int) (n : Nat) : List Int := (List.range n).map fun i : Nat => IntKind.u8.wrap (k + (i : Int))
def hMarkByte : CH := fun args hl K => match args, hl with
  | [.slc 0 0 n _, .v (.int .i64 k)], [.lst 1 L] => ∃ bs : List Int, L = bs.map byteC ∧ n = bs.length ∧ bs.length ≤ 1048576 ∧ 0 ≤ k ∧ k ≤ 1099511627776 ∧ K (.v (.int .i64 (k + n))) [.lst 1 ((marksByte k n).map byteC)]
  | _, _ => False
theorem mark_stepByte (bs : List Int) (k : Int) (i : Nat) (h : i < bs.length) : ((marksByte k i ++ bs.drop i).map byteC).set i (byteC (IntKind.u8.wrap (k + (i : Int)))) = (marksByte k (i + 1) ++ bs.drop (i + 1)).map byteC := by
  have hl : ((marksByte k i).map byteC).length = i := by simp [marksByte]
  rw [List.map_append, List.set_append_right _ _ (by omega), hl, Nat.sub_self, List.drop_eq_getElem_cons h, List.map_cons, List.set_cons_zero]
  simp [marksByte, List.range_succ]
theorem closed_mByte (bs : List Int) : ClosedL (bs.map byteC) := by
  intro e he x hx
  obtain ⟨b, _, rfl⟩ := List.mem_map.1 he
  simp [byteC] at hx
  subst hx
  rfl
def cx_s_markByteS : Ctx := mkC []
theorem cx_s_markByteS_ok : CtxOk Tryz.prog cx_s_markByteS := cx0_ok
set_option maxRecDepth 100000 in
set_option pp.maxSteps 1500 in
set_option maxHeartbeats 4000000 in
theorem s_markByteS : HSound Tryz.prog 58 (callM [.rw] false hMarkByte) := by
  refine callM_sound cx_s_markByteS_ok mixed Tryz.func58 rfl fun args hl K hp => ?_
  unfold hMarkByte at hp
  split at hp
  · rename_i n z0 k _
    obtain ⟨bs, rfl, rfl, hb, hk0, hk1, hp⟩ := hp
    refine Exists.intro false (Exists.intro [0, 1, 5] (Exists.intro (fun m vs h => ∃ i : Nat, i ≤ bs.length ∧ m = bs.length - i ∧ (∃ z, vs = [.slc 0 0 bs.length z, .v (.int .i64 (k + i)), .v (.int .i64 i)]) ∧ h = [.lst 1 ((marksByte k i ++ bs.drop i).map byteC)]) (And.intro ?_ ?_)))
    · refine Exists.intro bs.length ?_
      exact ⟨0, by omega, rfl, ⟨z0, by simp⟩, rfl⟩
    · intro m vs h hI
      obtain ⟨i, hi, rfl, ⟨z, rfl⟩, rfl⟩ := hI
      refine And.intro (fun h1 => ?_) (fun h1 => ?_)
      · simp only [decide_eq_true_eq] at h1
        have hlt : i < bs.length := by omega
        have hst := mark_stepByte bs k i hlt
        have hg : ((marksByte k i ++ bs.drop i).map byteC)[0 + i]? = some (byteC bs[i]) := by
          rw [Nat.zero_add, List.getElem?_map, List.getElem?_append_right (by simp [marksByte]), show i - (marksByte k i).length = 0 by simp [marksByte], List.getElem?_drop, Nat.add_zero, List.getElem?_eq_getElem hlt]
          rfl
        generalize (marksByte k i ++ bs.drop i).map byteC = L at *
        generalize bs[i] = b0 at hg
        refine Exists.intro i (And.intro rfl (And.intro hlt ?_))
        refine Exists.intro _ (And.intro hg (And.intro (by decide) ?_))
        refine Exists.intro (bs.length - (i + 1)) (And.intro (by omega) ⟨i + 1, by omega, rfl, ⟨z, ?_⟩, ?_⟩)
        · rw [wrap_succ hlt (by omega), wrap64 (x := k + i + 1) (by omega), show k + (i : Int) + 1 = k + ((i + 1 : Nat) : Int) by omega]
        · rw [← hst, Nat.zero_add]
          rfl
      · simp only [decide_eq_false_iff_not] at h1
        have hil : i = bs.length := by omega
        subst hil
        rw [List.drop_length, List.append_nil]
        refine And.intro (closed_mByte _) ?_
        exact hp
  · exact hp.elim
def hHeldByte : CH := fun args hl K => match args, hl with
  | [.imm _ _ 1 L, .v (.int .i64 k)], [] => ∃ n : Nat, L = (marksByte k n).map byteC ∧ n ≤ 1048576 ∧ 0 ≤ k ∧ k ≤ 1099511627776 ∧ K (.v (.int .i64 (k + n))) []
  | _, _ => False
theorem marks_getByte {k : Int} {n i : Nat} (h : i < n) : ((marksByte k n).map byteC)[i]? = some (byteC (IntKind.u8.wrap (k + (i : Int)))) := by
  simp [marksByte, h]
def cx_s_heldByteS : Ctx := mkC []
theorem cx_s_heldByteS_ok : CtxOk Tryz.prog cx_s_heldByteS := cx0_ok
set_option maxRecDepth 100000 in
set_option pp.maxSteps 1500 in
set_option maxHeartbeats 4000000 in
theorem s_heldByteS : HSound Tryz.prog 63 (callM [] true hHeldByte) := by
  refine callM_sound cx_s_heldByteS_ok mixed Tryz.func63 rfl fun args hl K hp => ?_
  unfold hHeldByte at hp
  split at hp
  · rename_i t z L k
    obtain ⟨n, rfl, hb, hk0, hk1, hp⟩ := hp
    refine Exists.intro false (Exists.intro [0, 1, 5] (Exists.intro (fun m vs h => ∃ i : Nat, i ≤ n ∧ m = n - i ∧ vs = [.imm t z 1 ((marksByte k n).map byteC), .v (.int .i64 (k + i)), .v (.int .i64 i)] ∧ h = []) (And.intro ?_ ?_)))
    · refine Exists.intro n ?_
      exact ⟨0, by omega, rfl, by simp, rfl⟩
    · intro m vs h hI
      obtain ⟨i, hi, rfl, rfl, rfl⟩ := hI
      refine And.intro (fun h1 => ?_) (fun h1 => ?_)
      · have hlt : i < n := by simpa [marksByte] using h1
        have hg := marks_getByte (k := k) hlt
        clear h1
        refine Exists.intro i (And.intro rfl (Exists.intro _ (And.intro hg ?_)))
        refine And.intro (fun h1 => ?_) (fun h1 => ?_)
        · simp at h1
        refine Exists.intro (n - (i + 1)) (And.intro (by omega) ⟨i + 1, by omega, rfl, ?_, rfl⟩)
        rw [wrap_succ hlt (by omega), wrap64 (x := k + i + 1) (by omega), show k + (i : Int) + 1 = k + ((i + 1 : Nat) : Int) by omega]
      · have hil : i = n := by simp [marksByte] at h1; omega
        subst hil
        exact hp
  · exact hp.elim
theorem marks_lenByte (k : Int) (n : Nat) : ((marksByte k n).map byteC).length = n := by simp [marksByte]
theorem marks_lendByte (k : Int) (n : Nat) : List.take n (List.drop 0 ((marksByte k n).map byteC)) = (marksByte k n).map byteC := by rw [List.drop_zero, List.take_of_length_le (by rw [marks_lenByte]; exact Nat.le_refl _)]

def hMarkM : CH := fun args hl K => match args, hl with
  | [.agg [.slc 0 0 a _, .slc 1 0 b _, .slc 2 0 c _], .v (.int .i64 k)], [.lst 1 A, .lst 1 B, .lst 1 C] => ∃ x y z : List Int, A = x.map byteC ∧ B = y.map byteC ∧ C = z.map byteC ∧ a = x.length ∧ b = y.length ∧ c = z.length ∧ x.length ≤ 1048576 ∧ y.length ≤ 1048576 ∧ z.length ≤ 1048576 ∧
      0 ≤ k ∧ k ≤ 1073741824 ∧ K (.v (.int .i64 (k + a + b + c))) [.lst 1 ((marksByte k a).map byteC), .lst 1 ((marksByte (k + a) b).map byteC), .lst 1 ((marksByte (k + a + b) c).map byteC)]
  | _, _ => False
def cx_s_markMem : Ctx := mkC [(58, callM [.rw] false hMarkByte)]
theorem cx_s_markMem_ok : CtxOk Tryz.prog cx_s_markMem := mkC_ok (mem1 ⟨s_markByteS, fnOk Tryz.func58 rfl rfl⟩ mem0)
set_option maxRecDepth 100000 in
set_option pp.maxSteps 1500 in
set_option maxHeartbeats 4000000 in
theorem s_markMem : HSound Tryz.prog 20 (callM [.ag [.rw, .rw, .rw]] false hMarkM) := by
  refine callM_sound cx_s_markMem_ok mixed Tryz.func20 rfl fun args hl K hp => ?_
  unfold hMarkM at hp
  split at hp
  · obtain ⟨x, y, z, rfl, rfl, rfl, rfl, rfl, rfl, hx, hy, hz, hk0, hk1, hp⟩ := hp
    repeat' (first
      | refine Exists.intro x (And.intro rfl (And.intro rfl (And.intro hx (And.intro (by omega) (And.intro (by omega) ?_)))))
      | refine Exists.intro y (And.intro rfl (And.intro rfl (And.intro hy (And.intro (by omega) (And.intro (by omega) ?_)))))
      | refine Exists.intro z (And.intro rfl (And.intro rfl (And.intro hz (And.intro (by omega) (And.intro (by omega) ?_)))))
      | refine And.intro (closed_mByte _) ?_)
    exact hp
  · exact hp.elim
def hHeldM : CH := fun args hl K => match args, hl with
  | [.agg [.imm _ _ 1 A, .imm _ _ 1 B, .imm _ _ 1 C], .v (.int .i64 k)], [] => ∃ a b c : Nat, A = (marksByte k a).map byteC ∧ B = (marksByte (k + a) b).map byteC ∧ C = (marksByte (k + a + b) c).map byteC ∧ a ≤ 1048576 ∧ b ≤ 1048576 ∧ c ≤ 1048576 ∧
      0 ≤ k ∧ k ≤ 1073741824 ∧ K (.v (.int .i64 (k + a + b + c))) []
  | _, _ => False
def cx_s_heldMem : Ctx := mkC [(63, callM [] true hHeldByte)]
theorem cx_s_heldMem_ok : CtxOk Tryz.prog cx_s_heldMem := mkC_ok (mem1 ⟨s_heldByteS, fnOk Tryz.func63 rfl rfl⟩ mem0)
set_option maxRecDepth 100000 in
set_option pp.maxSteps 1500 in
set_option maxHeartbeats 4000000 in
theorem s_heldMem : HSound Tryz.prog 21 (callM [] true hHeldM) := by
  refine callM_sound cx_s_heldMem_ok mixed Tryz.func21 rfl fun args hl K hp => ?_
  unfold hHeldM at hp
  split at hp
  · obtain ⟨a, b, c, rfl, rfl, rfl, ha, hb, hc, hk0, hk1, hp⟩ := hp
    repeat' ((first
      | refine Exists.intro a (And.intro rfl (And.intro ha (And.intro (by omega) (And.intro (by omega) ?_))))
      | refine Exists.intro b (And.intro rfl (And.intro hb (And.intro (by omega) (And.intro (by omega) ?_))))
      | refine Exists.intro c (And.intro rfl (And.intro hc (And.intro (by omega) (And.intro (by omega) ?_))))
      | refine And.intro (fun h1 => ?_) (fun h1 => ?_)) <;> try (exfalso; simp at h1; omega))
    exact hp
  · exact hp.elim
end Go.Proofs.YtbfjkjdbdejnmaaGreat.Ab

/- Modules: marked. No condition. -/
namespace Go.Proofs.YtbfjkjdbdejnmaaGreat.Ab
set_option linter.unusedVariables false
set_option linter.unusedSimpArgs false

/-! ### The text of a mark -/

def digs (n : Nat) (out : ByteArray) : ByteArray := if n = 0 then out else digs (n / 10) (bytesS [IntKind.u8.wrap (IntKind.i64.wrap (48 + (n : Int).tmod 10))] ++ out)
def mkText (k : Int) : ByteArray := if k ≤ 0 then ⟨#[109, 48]⟩ else ⟨#[109]⟩ ++ digs k.toNat .empty
def hMkText : CH := fun args hl K => match args, hl with
  | [.v (.int .i64 k)], [] => 0 ≤ k ∧ k ≤ 1200000000000 ∧ K (.v (.string (mkText k))) []
  | _, _ => False
def cx_s_markText : Ctx := mkC []
theorem cx_s_markText_ok : CtxOk Tryz.prog cx_s_markText := cx0_ok
set_option maxRecDepth 100000 in
set_option pp.maxSteps 1500 in
set_option maxHeartbeats 4000000 in
theorem s_markText : HSound Tryz.prog 55 (callM [] false hMkText) := by
  refine callM_sound cx_s_markText_ok mixed Tryz.func55 rfl fun args hl K hp => ?_
  unfold hMkText at hp
  split at hp
  · rename_i k
    obtain ⟨h0, h1, hp⟩ := hp
    obtain ⟨n, rfl⟩ := Int.eq_ofNat_of_zero_le h0
    refine And.intro (fun h2 => ?_) (fun h2 => ?_)
    · have h2 := of_decide_eq_true h2
      rw [show mkText (n : Int) = ⟨#[109, 48]⟩ from if_pos h2] at hp
      exact hp
    have h2 := of_decide_eq_false h2
    rw [show mkText (n : Int) = ⟨#[109]⟩ ++ digs n .empty from if_neg h2] at hp
    refine Exists.intro true (Exists.intro [0, 3] (Exists.intro (fun m vs h => ∃ (q : Nat) (out : ByteArray), q = m ∧ out.size + q ≤ n ∧ digs q out = digs n .empty ∧ vs = [.v (.int .i64 q), .v (.string out)] ∧ h = []) (And.intro ?_ ?_)))
    · refine Exists.intro [] (Exists.intro n ?_)
      exact ⟨n, .empty, rfl, by simp, rfl, rfl, rfl⟩
    · intro m vs h hI
      obtain ⟨q, out, rfl, hs, hd, rfl, rfl⟩ := hI
      refine And.intro (fun h3 => ?_) (fun h3 => ?_)
      · have h3 := of_decide_eq_true h3
        refine And.intro (by decide) ?_
        refine Exists.intro _ (And.intro rfl (And.intro rfl (And.intro (by intro e he x hx; simp at he; subst he; simp at hx; subst hx; rfl) ?_)))
        refine Exists.intro [IntKind.u8.wrap (IntKind.i64.wrap (48 + (q : Int).tmod 10))] (And.intro rfl ?_)
        refine And.intro (show (bytesS [_]).size + out.size ≤ _ by rw [show (bytesS [IntKind.u8.wrap (IntKind.i64.wrap (48 + (q : Int).tmod 10))]).size = 1 from rfl]; omega) ?_
        refine And.intro (by decide) ?_
        refine Exists.intro [] (Exists.intro (q / 10) (And.intro (by omega) ⟨q / 10, bytesS [IntKind.u8.wrap (IntKind.i64.wrap (48 + (q : Int).tmod 10))] ++ out, rfl, ?_, ?_, ?_, rfl⟩))
        · rw [ByteArray.size_append, show (bytesS [IntKind.u8.wrap (IntKind.i64.wrap (48 + (q : Int).tmod 10))]).size = 1 from rfl]
          omega
        · rw [← hd]
          conv => rhs; rw [digs]
          rw [if_neg (by omega)]
        · have : IntKind.i64.wrap ((q : Int).tdiv 10) = ((q / 10 : Nat) : Int) := by
            rw [Int.tdiv_eq_ediv_of_nonneg (by omega), wrap64 (by omega)]
            omega
          rw [this]
      · have h3 := of_decide_eq_false h3
        have : q = 0 := by omega
        subst this
        rw [show digs 0 out = out by rw [digs]; rfl] at hd
        subst hd
        refine And.intro (by rw [show ({ data := #[109] } : ByteArray).size = 1 from rfl]; omega) ?_
        exact hp
  · exact hp.elim

/-! ### Strings -/

def marksString (k : Int) (n : Nat) : List ByteArray := (List.range n).map fun i : Nat => mkText (k + (i : Int))
theorem mark_stepString (bs : List ByteArray) (k : Int) (i : Nat) (h : i < bs.length) : ((marksString k i ++ bs.drop i).map strC).set i (strC (mkText (k + (i : Int)))) = (marksString k (i + 1) ++ bs.drop (i + 1)).map strC := by
  have hl : ((marksString k i).map strC).length = i := by simp [marksString]
  rw [List.map_append, List.set_append_right _ _ (by omega), hl, Nat.sub_self, List.drop_eq_getElem_cons h, List.map_cons, List.set_cons_zero]
  simp [marksString, List.range_succ]
def hMarkString : CH := fun args hl K => match args, hl with
  | [.slc 0 0 n _, .v (.int .i64 k)], [.lst 1 L] => ∃ bs : List ByteArray, L = bs.map strC ∧ n = bs.length ∧ bs.length ≤ 1048576 ∧ 0 ≤ k ∧ k ≤ 1099511627776 ∧ K (.v (.int .i64 (k + n))) [.lst 1 ((marksString k n).map strC)]
  | _, _ => False
def cx_s_markStringS : Ctx := mkC [(55, callM [] false hMkText)]
theorem cx_s_markStringS_ok : CtxOk Tryz.prog cx_s_markStringS := mkC_ok (mem1 ⟨s_markText, fnOk Tryz.func55 rfl rfl⟩ mem0)
set_option maxRecDepth 100000 in
set_option pp.maxSteps 1500 in
set_option maxHeartbeats 4000000 in
theorem s_markStringS : HSound Tryz.prog 59 (callM [.rw] false hMarkString) := by
  refine callM_sound cx_s_markStringS_ok mixed Tryz.func59 rfl fun args hl K hp => ?_
  unfold hMarkString at hp
  split at hp
  · rename_i n z0 k _
    obtain ⟨bs, rfl, rfl, hb, hk0, hk1, hp⟩ := hp
    refine Exists.intro false (Exists.intro [0, 1, 5] (Exists.intro (fun m vs h => ∃ i : Nat, i ≤ bs.length ∧ m = bs.length - i ∧ (∃ z, vs = [.slc 0 0 bs.length z, .v (.int .i64 (k + i)), .v (.int .i64 i)]) ∧ h = [.lst 1 ((marksString k i ++ bs.drop i).map strC)]) (And.intro ?_ ?_)))
    · refine Exists.intro bs.length ?_
      exact ⟨0, by omega, rfl, ⟨z0, by simp⟩, rfl⟩
    · intro m vs h hI
      obtain ⟨i, hi, rfl, ⟨z, rfl⟩, rfl⟩ := hI
      refine And.intro (fun h1 => ?_) (fun h1 => ?_)
      · simp only [decide_eq_true_eq] at h1
        have hlt : i < bs.length := by omega
        have hst := mark_stepString bs k i hlt
        have hg : ((marksString k i ++ bs.drop i).map strC)[0 + i]? = some (strC bs[i]) := by
          rw [Nat.zero_add, List.getElem?_map, List.getElem?_append_right (by simp [marksString]), show i - (marksString k i).length = 0 by simp [marksString], List.getElem?_drop, Nat.add_zero, List.getElem?_eq_getElem hlt]
          rfl
        generalize (marksString k i ++ bs.drop i).map strC = L at *
        generalize bs[i] = b0 at hg
        refine And.intro (by omega) (And.intro (by omega) ?_)
        refine Exists.intro i (And.intro rfl (And.intro hlt ?_))
        refine Exists.intro _ (And.intro hg (And.intro (by decide) ?_))
        refine Exists.intro (bs.length - (i + 1)) (And.intro (by omega) ⟨i + 1, by omega, rfl, ⟨z, ?_⟩, ?_⟩)
        · rw [wrap_succ hlt (by omega), wrap64 (x := k + i + 1) (by omega), show k + (i : Int) + 1 = k + ((i + 1 : Nat) : Int) by omega]
        · rw [← hst, Nat.zero_add]
          rfl
      · simp only [decide_eq_false_iff_not] at h1
        have hil : i = bs.length := by omega
        subst hil
        rw [List.drop_length, List.append_nil]
        refine And.intro (closed_String _) ?_
        exact hp
  · exact hp.elim

/-! ### Export: marked and found again -/

def mkExport (k : Int) : Ex := ⟨mkText k, k + 1, k + 1 + 1⟩
def marksExport (k : Int) (n : Nat) : List Ex := (List.range n).map fun i : Nat => mkExport (k + 3 * (i : Int))
def hMarkExport : CH := fun args hl K => match args, hl with
  | [.slc 0 0 n _, .v (.int .i64 k)], [.lst 3 L] => ∃ bs : List Ex, L = bs.map exC ∧ n = bs.length ∧ bs.length ≤ 1048576 ∧ 0 ≤ k ∧ k ≤ 1099511627776 ∧ K (.v (.int .i64 (k + 3 * n))) [.lst 3 ((marksExport k n).map exC)]
  | _, _ => False
theorem mark_stepExport (bs : List Ex) (k : Int) (i : Nat) (h : i < bs.length) : ((marksExport k i ++ bs.drop i).map exC).set i (exC (mkExport (k + 3 * i))) = (marksExport k (i + 1) ++ bs.drop (i + 1)).map exC := by
  have hl : ((marksExport k i).map exC).length = i := by simp [marksExport]
  rw [List.map_append, List.set_append_right _ _ (by omega), hl, Nat.sub_self, List.drop_eq_getElem_cons h, List.map_cons, List.set_cons_zero]
  simp [marksExport, List.range_succ]
def cx_s_markExportS : Ctx := mkC [(55, callM [] false hMkText)]
theorem cx_s_markExportS_ok : CtxOk Tryz.prog cx_s_markExportS := mkC_ok (mem1 ⟨s_markText, fnOk Tryz.func55 rfl rfl⟩ mem0)
set_option maxRecDepth 100000 in
set_option pp.maxSteps 1500 in
set_option maxHeartbeats 4000000 in
theorem s_markExportS : HSound Tryz.prog 60 (callM [.rw] false hMarkExport) := by
  refine callM_sound cx_s_markExportS_ok mixed Tryz.func60 rfl fun args hl K hp => ?_
  unfold hMarkExport at hp
  split at hp
  · rename_i n z0 k _
    obtain ⟨bs, rfl, rfl, hb, hk0, hk1, hp⟩ := hp
    refine Exists.intro false (Exists.intro [0, 1, 5] (Exists.intro (fun m vs h => ∃ i : Nat, i ≤ bs.length ∧ m = bs.length - i ∧ (∃ z, vs = [.slc 0 0 bs.length z, .v (.int .i64 (k + 3 * i)), .v (.int .i64 i)]) ∧ h = [.lst 3 ((marksExport k i ++ bs.drop i).map exC)]) (And.intro ?_ ?_)))
    · refine Exists.intro bs.length ?_
      exact ⟨0, by omega, rfl, ⟨z0, by simp⟩, rfl⟩
    · intro m vs h hI
      obtain ⟨i, hi, rfl, ⟨z, rfl⟩, rfl⟩ := hI
      refine And.intro (fun h1 => ?_) (fun h1 => ?_)
      · simp only [decide_eq_true_eq] at h1
        have hlt : i < bs.length := by omega
        have hst := mark_stepExport bs k i hlt
        have hL : ((marksExport k i ++ bs.drop i).map exC).length = bs.length := by simp [marksExport]; omega
        have hg : ((marksExport k i ++ bs.drop i).map exC)[0 + i]? = some (exC bs[i]) := by
          rw [Nat.zero_add, List.getElem?_map, List.getElem?_append_right (by simp [marksExport]), show i - (marksExport k i).length = 0 by simp [marksExport], List.getElem?_drop, Nat.add_zero, List.getElem?_eq_getElem hlt]
          rfl
        generalize (marksExport k i ++ bs.drop i).map exC = L at *
        generalize bs[i] = b0 at hg
        have hLi : 0 + i < L.length := by omega
        generalize hκ : k + 3 * (i : Int) = κ at *
        have hκ0 : 0 ≤ κ ∧ κ ≤ 1199511627776 := by omega
        have hw : ∀ x : Int, 0 ≤ x → x ≤ 1200000000000 → IntKind.i64.wrap (x + 1) = x + 1 := fun x _ _ => wrap64 (by omega)
        repeat' (first
          | refine Exists.intro i (And.intro rfl (And.intro hlt ?_))
          | refine Exists.intro _ (And.intro hg (And.intro (by decide) ?_))
          | refine Exists.intro _ (And.intro (get_set (by first | exact hLi | (simp only [List.length_set]; exact hLi))) (And.intro (by decide) ?_))
          | refine And.intro (by omega) (And.intro (by omega) ?_)
          | refine And.intro (by decide) ?_)
        refine Exists.intro (bs.length - (i + 1)) (And.intro (by omega) ⟨i + 1, by omega, rfl, ⟨z, ?_⟩, ?_⟩)
        · rw [wrap_succ hlt (by omega), show k + 3 * ((i + 1 : Nat) : Int) = κ + 3 by omega]
          have hw0 := hw (κ) (by omega) (by omega)
          have hw1 := hw (κ + 1) (by omega) (by omega)
          have hw2 := hw (κ + 1 + 1) (by omega) (by omega)
          try simp only [hw0, hw1, hw2]
          simp [Int.add_assoc]
        · rw [← hst]
          simp only [List.set_set, Nat.zero_add]
          have hw0 := hw (κ) (by omega) (by omega)
          have hw1 := hw (κ + 1) (by omega) (by omega)
          have hw2 := hw (κ + 1 + 1) (by omega) (by omega)
          try simp only [hw0, hw1, hw2]
          rfl
      · simp only [decide_eq_false_iff_not] at h1
        have hil : i = bs.length := by omega
        subst hil
        rw [List.drop_length, List.append_nil]
        refine And.intro (closed_Export _) ?_
        exact hp
  · exact hp.elim

/-! ### Banks -/

def lensB (bs : List (List Int)) : Nat := (bs.map List.length).sum
def markBk (k : Int) : List (List Int) → List (List Int)
  | [] => []
  | b :: bs => marksInt k b.length :: markBk (k + b.length) bs
theorem markBk_app (k : Int) : ∀ (l r : List (List Int)), markBk k (l ++ r) = markBk k l ++ markBk (k + lensB l) r
  | [], r => by simp [markBk, lensB]
  | b :: l, r => by
    simp only [List.cons_append, markBk]
    rw [markBk_app]
    simp only [List.cons.injEq, true_and, lensB, List.map_cons, List.sum_cons]
    rw [show k + (b.length : Int) + ((List.map List.length l).sum : Nat) = k + ((b.length + (List.map List.length l).sum : Nat) : Int) by omega]
theorem markBk_len (k : Int) : ∀ l, (markBk k l).length = l.length
  | [] => rfl
  | b :: l => by simp [markBk, markBk_len (k + b.length) l]
def hMarkIntSS : CH := fun args hl K => match args, hl with
  | [.slc 0 0 n _, .v (.int .i64 k)], [.lst 1 L] => ∃ bs : List (List Int), L = bs.map bankC ∧ n = bs.length ∧ bs.length ≤ 1048576 ∧ lensB bs ≤ 1048576 ∧ 0 ≤ k ∧ k ≤ 1073741824 ∧ K (.v (.int .i64 (k + lensB bs))) [.lst 1 ((markBk k bs).map bankC)]
  | _, _ => False
theorem bk_step {bs : List (List Int)} {k : Int} {i : Nat} {b : List Int} (h : bs[i]? = some b) : ((markBk k (bs.take i) ++ bs.drop i).map bankC).set i (bankC (marksInt (k + lensB (bs.take i)) b.length)) = (markBk k (bs.take (i + 1)) ++ bs.drop (i + 1)).map bankC := by
  obtain ⟨hi, hb⟩ := List.getElem?_eq_some_iff.1 h
  have hl : ((markBk k (bs.take i)).map bankC).length = i := by rw [List.length_map, markBk_len, List.length_take]; omega
  rw [List.map_append, List.set_append_right _ _ (by omega), hl, Nat.sub_self, List.drop_eq_getElem_cons hi, List.map_cons, List.set_cons_zero]
  rw [List.take_add_one, h]
  simp only [Option.toList]
  rw [markBk_app]
  simp [markBk]
def cx_s_markIntSS : Ctx := mkC [(56, callM [.rw] false hMarkInt)]
theorem cx_s_markIntSS_ok : CtxOk Tryz.prog cx_s_markIntSS := mkC_ok (mem1 ⟨s_markIntS, fnOk Tryz.func56 rfl rfl⟩ mem0)
set_option maxRecDepth 100000 in
set_option pp.maxSteps 1500 in
set_option maxHeartbeats 4000000 in
theorem s_markIntSS : HSound Tryz.prog 57 (callM [.rw] false hMarkIntSS) := by
  refine callM_sound cx_s_markIntSS_ok mixed Tryz.func57 rfl fun args hl K hp => ?_
  unfold hMarkIntSS at hp
  split at hp
  · rename_i n z0 k _
    obtain ⟨bs, rfl, rfl, hb, hw, hk0, hk1, hp⟩ := hp
    refine Exists.intro true (Exists.intro [0, 1, 5] (Exists.intro (fun m vs h => ∃ i : Nat, i ≤ bs.length ∧ m = bs.length - i ∧ vs = [.slc 0 0 bs.length false, .v (.int .i64 (k + lensB (bs.take i))), .v (.int .i64 i)] ∧ h = [.lst 1 ((markBk k (bs.take i) ++ bs.drop i).map bankC)]) (And.intro ?_ ?_)))
    · refine Exists.intro [] ?_
      refine And.intro (closed_IntS _) ?_
      refine Exists.intro bs.length ?_
      exact ⟨0, by omega, rfl, by simp [lensB], rfl⟩
    · intro m vs h hI
      obtain ⟨i, hi, rfl, rfl, rfl⟩ := hI
      refine And.intro (fun h1 => ?_) (fun h1 => ?_)
      · simp only [decide_eq_true_eq] at h1
        have hlt : i < bs.length := by omega
        obtain ⟨b, hbi⟩ : ∃ b, bs[i]? = some b := ⟨_, List.getElem?_eq_getElem hlt⟩
        have hst := bk_step (k := k) hbi
        have hcl := closed_IntS (markBk k (bs.take (i + 1)) ++ bs.drop (i + 1))
        have hle : lensB (bs.take i) ≤ 1048576 := by have := sum_take_le List.length bs i; simp only [lensB] at *; omega
        have hsum : lensB (bs.take (i + 1)) = lensB (bs.take i) + b.length := sum_take (f := List.length) hbi
        have hbl : b.length ≤ 1048576 := by have := le_sum (f := List.length) (List.mem_of_getElem? hbi); simp only [lensB] at hw; omega
        have hml := marksInt_len (k + lensB (bs.take i)) b.length
        have hg : ((markBk k (bs.take i) ++ bs.drop i).map bankC)[0 + i]? = some (bankC b) := by
          have e : (markBk k (bs.take i)).length = i := by rw [markBk_len, List.length_take]; omega
          rw [Nat.zero_add, List.getElem?_map, List.getElem?_append_right (by omega), e, Nat.sub_self, List.getElem?_drop, Nat.add_zero, hbi]
          rfl
        rw [← hst] at hcl
        have hlen : ((markBk k (bs.take i) ++ bs.drop i).map bankC).length = bs.length := by rw [List.length_map, List.length_append, markBk_len, List.length_take, List.length_drop]; omega
        generalize (markBk k (bs.take i) ++ bs.drop i).map bankC = L at *
        generalize hS : lensB (bs.take i) = S at *
        refine Exists.intro i (And.intro rfl (And.intro hlt ?_))
        refine Exists.intro _ (And.intro hg (And.intro (by decide) ?_))
        refine And.intro (closed_Int _) ?_
        refine Exists.intro b (And.intro rfl (And.intro (List.length_map _) (And.intro hbl (And.intro (by omega) (And.intro (by omega) ?_)))))
        refine Exists.intro [(0, 0 + i, 0)] ?_
        refine Exists.intro _ (And.intro (get_set (by omega)) ?_)
        refine Exists.intro _ (And.intro (List.take_of_length_le (by simp only [List.length_map, marksInt_len]; exact Nat.le_refl _)) (And.intro (by simp only [List.length_map, marksInt_len]) (And.intro (closed_Int _) ?_)))
        have e9 : (L.set (0 + i) [.slc 1 0 (List.map intC b).length false]).set (0 + i) [.sl 1 ((marksInt (k + S) (List.map intC b).length).map intC)] = L.set i (bankC (marksInt (k + S) b.length)) := by
          rw [List.set_set, Nat.zero_add, List.length_map]
          rfl
        refine And.intro (show ClosedL ((L.set (0 + i) _).set (0 + i) _) from e9 ▸ hcl) ?_
        refine Exists.intro (bs.length - (i + 1)) (And.intro (by omega) ⟨i + 1, by omega, rfl, ?_, ?_⟩)
        · rw [wrap_succ hlt (by omega), hsum, List.length_map, show k + (S : Int) + (b.length : Int) = k + ((S + b.length : Nat) : Int) by omega]
        · rw [← hst, ← e9]
      · simp only [decide_eq_false_iff_not] at h1
        have hil : i = bs.length := by omega
        subst hil
        rw [List.drop_length, List.append_nil, List.take_length]
        refine And.intro (closed_IntS _) ?_
        exact hp
  · exact hp.elim
end Go.Proofs.YtbfjkjdbdejnmaaGreat.Ab

/- Modules: a whole one, marked. No condition. -/
namespace Go.Proofs.YtbfjkjdbdejnmaaGreat.Ab
set_option linter.unusedVariables false
set_option linter.unusedSimpArgs false

def markMo (k : Int) (m : Mo) : Mo :=
  let k2 := k + m.text.length
  let k3 := k2 + lensB m.banks
  let k4 := k3 + m.data.length
  let k5 := k4 + m.rels.length
  let k6 := k5 + m.imps.length
  { m with text := marksInt k m.text.length, banks := markBk k2 m.banks, data := marksByte k3 m.data.length, rels := marksInt k4 m.rels.length, imps := marksString k5 m.imps.length, exps := marksExport k6 m.exps.length }
def markW (m : Mo) : Int := m.text.length + lensB m.banks + m.data.length + m.rels.length + m.imps.length + 3 * m.exps.length
def hMarkMo : CH := fun args hl K => match args, hl with
  | [.agg [.v _, .slc 0 0 a _, .slc 1 0 b _, .slc 2 0 c _, .v _, .slc 3 0 d _, .slc 4 0 e _, .slc 5 0 f _], .v (.int .i64 k)], [.lst 1 A, .lst 1 B, .lst 1 C, .lst 1 D, .lst 1 E, .lst 3 F] => ∃ m : Mo, A = m.text.map intC ∧ B = m.banks.map bankC ∧ C = m.data.map byteC ∧ D = m.rels.map intC ∧ E = m.imps.map strC ∧ F = m.exps.map exC ∧
      a = m.text.length ∧ b = m.banks.length ∧ c = m.data.length ∧ d = m.rels.length ∧ e = m.imps.length ∧ f = m.exps.length ∧ wtMo m ≤ 1048576 ∧ 0 ≤ k ∧ k ≤ 536870912 ∧ K (.v (.int .i64 (k + markW m))) (moH (markMo k m))
  | _, _ => False
end Go.Proofs.YtbfjkjdbdejnmaaGreat.Ab
