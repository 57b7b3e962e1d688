/- Link of impl, whole. No condition. -/
import Derived.Test.YtijjonafmmhhbaaTLink5
namespace Go.Proofs.Ytijjonafmmhhbaa.Ab
set_option linter.unusedVariables false
set_option linter.unusedSimpArgs false

theorem laP_laF (ms : List Mo) (c : Cf) : laF ms c = { laP ms c with tgts := ms.map fun m => tgsOf ms m.imps } := rfl
def cx_s_impl_Link : Ctx := mkC [(75, callM [] false hCfg), (10, callM [] true hModOk), (76, callM [] false hNames), (77, callM [] true hPlaced)]
theorem cx_s_impl_Link_ok : CtxOk Try.prog cx_s_impl_Link := mkC_ok (mem1 ⟨s_impl_ConfigOk, fnOk Try.func75 rfl rfl⟩ (mem1 ⟨s_impl_ModuleOk, fnOk Try.func10 rfl rfl⟩ (mem1 ⟨s_namesOf, fnOk Try.func76 rfl rfl⟩ (mem1 ⟨s_placed, fnOk Try.func77 rfl rfl⟩ mem0))))
set_option maxRecDepth 100000 in
set_option pp.maxSteps 1500 in
set_option maxHeartbeats 16000000 in
theorem s_impl_Link : HSound Try.prog 25 (callM [] true hLink) := by
  refine callM_sound cx_s_impl_Link_ok mixed Try.func25 rfl fun args hl K hp => ?_
  unfold hLink at hp
  split at hp
  · rename_i t z L a b c d
    obtain ⟨ms, rfl, hlen, hsm, hp⟩ := hp
    refine And.intro (fun h1 => ?_) (fun h1 => ?_)
    · have h1 : cfgB ⟨a, b, c, d⟩ = false := by simpa using h1
      have e : linkC ms ⟨a, b, c, d⟩ = 1 := by simp only [linkC, soundF, h1, if_true]; rfl
      have hp2 := fin_k hp e (by decide)
      refine And.intro closed_nil (And.intro closed_nil (And.intro closed_nil ?_))
      exact hp2
    have e1 : cfgB ⟨a, b, c, d⟩ = true := by simpa using h1
    clear h1
    have fS : ∀ n, soundF ms ⟨a, b, c, d⟩ = n → n ≠ 0 → linkC ms ⟨a, b, c, d⟩ = n := fun n h h0 => by rw [linkC, if_pos (by rw [h]; exact h0), h]
    have f2 : decide (1 ≤ ms.length ∧ ms.length ≤ 4) = false → soundF ms ⟨a, b, c, d⟩ = 2 := fun h => by simp only [soundF, e1, h, Bool.true_eq_false, if_true, if_false]
    repeat' ((first | refine And.intro (fun h1 => ?_) (fun h1 => ?_) | refine And.intro (by decide) ?_ | refine And.intro (show wfB _ = true from by kernel_rfl) ?_ | refine And.intro (And.intro rfl rfl) ?_ | exact And.intro rfl rfl | apply HeldC.intro | exact AV.top | (apply HeldF.intro; refine Exists.intro _ (And.intro (by assumption) ?_); refine And.intro (by decide) ?_; exact And.intro rfl rfl) | (refine And.intro (by (refine Exists.intro _ (And.intro (by assumption) ?_); refine And.intro (by decide) ?_; exact And.intro rfl rfl)) ?_) | refine Or.inl ?_) <;> try cases h1)
    · have h1 := of_decide_eq_true h1
      rw [List.length_map] at h1
      have hp2 := fin_k hp (fS 2 (f2 (decide_eq_false (by omega))) (by decide)) (by decide)
      refine And.intro closed_nil (And.intro closed_nil (And.intro closed_nil ?_))
      exact hp2
    · have h1 := of_decide_eq_true h1
      rw [List.length_map] at h1
      have hp2 := fin_k hp (fS 2 (f2 (decide_eq_false (by omega))) (by decide)) (by decide)
      refine And.intro closed_nil (And.intro closed_nil (And.intro closed_nil ?_))
      exact hp2
    rename_i h0
    have h0 := of_decide_eq_false h0
    have h1 := of_decide_eq_false h1
    rw [List.length_map] at h0 h1
    have e2 : decide (1 ≤ ms.length ∧ ms.length ≤ 4) = true := decide_eq_true (by omega)
    clear f2
    have f3 : ms.all (fun m => decide (modOk m = 0)) = false → soundF ms ⟨a, b, c, d⟩ = 3 := fun h => by simp only [soundF, e1, e2, h, Bool.true_eq_false, if_true, if_false]
    refine Exists.intro true (Exists.intro [0, 3, 4, 40, 41, 42] (Exists.intro (fun n vs h => ∃ i : Nat, i ≤ ms.length ∧ n = ms.length - i ∧ (ms.take i).all (fun m => decide (modOk m = 0)) = true ∧ vs = [.imm t z 8 (ms.map moC), .ptr 0 0 0 4, .ptr 1 0 0 6, .imm t z 8 (ms.map moC), .v (.int .i64 ms.length), .v (.int .i64 i)] ∧
      h = [.box [.v (.int .i64 a), .v (.int .i64 b), .v (.int .i64 c), .v (.int .i64 d)], .box [.sl 4 [], .v (.int .i64 0), .sl 1 [], .v (.int .i64 0), .v (.int .i64 0), .sl 1 []]]) (And.intro ?_ ?_)))
    · refine Exists.intro [] ?_
      repeat' (first
        | refine Exists.intro _ (And.intro rfl (And.intro rfl (And.intro closed_nil ?_)))
        | fail)
      exact Exists.intro ms.length ⟨0, by omega, rfl, rfl, by rw [List.length_map]; rfl, rfl⟩
    intro n vs h hI
    obtain ⟨i, hi, rfl, hall, rfl, rfl⟩ := hI
    refine And.intro (fun h2 => ?_) (fun h2 => ?_)
    · have h2 := of_decide_eq_true h2
      have hlt : i < ms.length := by omega
      obtain ⟨m, hm⟩ : ∃ m, ms[i]? = some m := ⟨_, List.getElem?_eq_getElem hlt⟩
      refine Exists.intro i (And.intro rfl (Exists.intro (moC m) (And.intro (get_map hm) ?_)))
      refine Exists.intro m (And.intro ⟨_, _, _, _, _, _, _, _, _, _, _, _, rfl⟩ (And.intro (hsm m (List.mem_of_getElem? hm)) ?_))
      refine And.intro (fun h3 => ?_) (fun h3 => ?_)
      · have h3 : ¬ modOk m = 0 := by simpa using h3
        have hp2 := fin_k hp (fS 3 (f3 (all_bad hm (decide_eq_false h3))) (by decide)) (by decide)
        refine And.intro closed_nil (And.intro closed_nil (And.intro closed_nil ?_))
        exact hp2
      · have h3 : modOk m = 0 := by simpa using h3
        refine Exists.intro [] ?_
        repeat' (first
          | refine Exists.intro _ (And.intro rfl (And.intro rfl (And.intro closed_nil ?_)))
          | fail)
        refine Exists.intro (ms.length - (i + 1)) (And.intro (by omega) ⟨i + 1, by omega, rfl, all_take hm hall (decide_eq_true h3), ?_, rfl⟩)
        rw [wrap_succ hlt (by omega)]
    have h2 := of_decide_eq_false h2
    rw [List.take_of_length_le (by omega)] at hall
    clear f3
    have f4 : (List.range ms.length).all (newB ms) = false → soundF ms ⟨a, b, c, d⟩ = 4 := fun h => by simp only [soundF, e1, e2, hall, h, Bool.true_eq_false, if_true, if_false]
    refine Exists.intro true (Exists.intro [0, 3, 4, 8, 52, 53, 54] (Exists.intro (fun n vs h => ∃ (i : Nat) (S : List (MK × Value)), i ≤ ms.length ∧ n = ms.length - i ∧ (∀ k < i, newB ms k = true) ∧ (∀ q, mapFind (.s q) S = match seenB ms i q with | true => some (.bool true) | false => none) ∧ vs = [.imm t z 8 (ms.map moC), .ptr 0 0 0 4, .ptr 1 0 0 6, .mapr 2, .imm t z 8 (ms.map moC), .v (.int .i64 ms.length), .v (.int .i64 i)] ∧
      h = [.box [.v (.int .i64 a), .v (.int .i64 b), .v (.int .i64 c), .v (.int .i64 d)], .box [.sl 4 [], .v (.int .i64 0), .sl 1 [], .v (.int .i64 0), .v (.int .i64 0), .sl 1 []], .mp 0 S]) (And.intro ?_ ?_)))
    · refine Exists.intro [] ?_
      repeat' (first
        | refine Exists.intro _ (And.intro rfl (And.intro rfl (And.intro closed_nil ?_)))
        | fail)
      exact Exists.intro ms.length ⟨0, [], by omega, rfl, fun k hk => by omega, fun q => rfl, by rw [List.length_map]; rfl, rfl⟩
    intro n vs h hI
    obtain ⟨i, S, hi, rfl, hnew, hS, rfl, rfl⟩ := hI
    refine And.intro (fun h2 => ?_) (fun h2 => ?_)
    · have h2 := of_decide_eq_true h2
      have hlt : i < ms.length := by omega
      obtain ⟨m, hm⟩ : ∃ m, ms[i]? = some m := ⟨_, List.getElem?_eq_getElem hlt⟩
      refine Exists.intro i (And.intro rfl (Exists.intro (moC m) (And.intro (get_map hm) ?_)))
      refine And.intro (fun v hv => ?_) (fun hv => ?_)
      · rw [hS] at hv
        have hsn : seenB ms i m.name = true := by
          cases hh : seenB ms i m.name with
          | true => rfl
          | false => rw [hh] at hv; cases hv
        rw [hsn] at hv
        cases hv
        refine And.intro (fun h3 => ?_) (fun h3 => by cases h3)
        have hp2 := fin_k hp (fS 4 (f4 (range_bad hlt (by rw [new_val hm, hsn]; rfl))) (by decide)) (by decide)
        refine And.intro closed_nil (And.intro closed_nil (And.intro closed_nil ?_))
        exact hp2
      · rw [hS] at hv
        have hsn : seenB ms i m.name = false := by
          cases hh : seenB ms i m.name with
          | false => rfl
          | true => rw [hh] at hv; cases hv
        clear hv
        refine And.intro (fun h3 => by cases h3) (fun h3 => ?_)
        have hS' : ∀ q, mapFind (.s q) (mapSet (.s m.name) (.bool true) S) = match seenB ms (i + 1) q with | true => some (.bool true) | false => none := by
          intro q
          rw [mapFind_set, hS, seen_step hm]
          by_cases hq : m.name = q
          · subst hq
            simp [hsn]
          · rw [if_neg (by simpa using hq), decide_eq_false hq, Bool.or_false]
        refine Exists.intro [] ?_
        repeat' (first
          | refine Exists.intro _ (And.intro rfl (And.intro rfl (And.intro closed_nil ?_)))
          | fail)
        refine Exists.intro (ms.length - (i + 1)) (And.intro (by omega) ⟨i + 1, _, by omega, rfl, lt_step hnew (by rw [new_val hm, hsn]; rfl), hS', ?_, rfl⟩)
        rw [wrap_succ hlt (by omega)]
    have h2 := of_decide_eq_false h2
    have hnn := range_all (n := ms.length) fun k hk => hnew k (by omega)
    have eS : soundF ms ⟨a, b, c, d⟩ = 0 := by simp only [soundF, e1, e2, hall, hnn, Bool.true_eq_false, if_false]
    have hSo := sound_of eS
    clear f4 fS hnew hS h2
    have f5 : ms.all (fun m => resB ms m.imps) = false → linkC ms ⟨a, b, c, d⟩ = 5 := fun h => by simp only [linkC, eS, h, ne_eq, not_true_eq_false, if_true, if_false]
    refine Exists.intro ms (And.intro rfl (And.intro hlen (And.intro hsm ?_)))
    intro M hM
    refine Or.inr ?_
    have hl4 := hSo.len
    have hgm := hSo.mo
    have hfu := hSo.full
    refine Exists.intro true (Exists.intro [0, 3, 4, 11, 12, 69, 70, 71] (Exists.intro (fun n vs h => ∃ i : Nat, i ≤ ms.length ∧ n = ms.length - i ∧ (ms.take i).all (fun m => resB ms m.imps) = true ∧ vs = [.imm t z 8 (ms.map moC), .ptr 0 0 0 4, .ptr 1 0 0 6, .mapr 2, .slc 3 0 ((ms.take i).map fun m => tgsOf ms m.imps).length false, .imm t z 8 (ms.map moC), .v (.int .i64 ms.length), .v (.int .i64 i)] ∧
      h = [.box [.v (.int .i64 a), .v (.int .i64 b), .v (.int .i64 c), .v (.int .i64 d)], .box [.sl 4 [], .v (.int .i64 0), .sl 1 [], .v (.int .i64 0), .v (.int .i64 0), .sl 1 []], .mp 0 M, .lst 1 (((ms.take i).map fun m => tgsOf ms m.imps).map tgsC)]) (And.intro ?_ ?_)))
    · refine Exists.intro [] ?_
      repeat' (first
        | refine Exists.intro _ (And.intro rfl (And.intro rfl (And.intro closed_nil ?_)))
        | refine And.intro closed_nil ?_
        | fail)
      exact Exists.intro ms.length ⟨0, by omega, rfl, rfl, by rw [List.length_map]; rfl, rfl⟩
    intro n vs h hI
    obtain ⟨i, hi, rfl, hall, rfl, rfl⟩ := hI
    have htn : ((ms.take i).map (fun m => tgsOf ms m.imps)).length = i := by rw [List.length_map, List.length_take]; omega
    refine And.intro (fun h2 => ?_) (fun h2 => ?_)
    · have h2 := of_decide_eq_true h2
      have hlt : i < ms.length := by omega
      obtain ⟨m, hm⟩ : ∃ m, ms[i]? = some m := ⟨_, List.getElem?_eq_getElem hlt⟩
      have hmem := List.mem_of_getElem? hm
      have hmm := hsm m hmem
      have g := hgm m hmem
      have gil := g.il
      have htk : (ms.take (i + 1)).map (fun m => tgsOf ms m.imps) = (ms.take i).map (fun m => tgsOf ms m.imps) ++ [tgsOf ms m.imps] := by
        rw [List.take_add_one, hm, List.map_append]
        rfl
      generalize (ms.take i).map (fun m => tgsOf ms m.imps) = TG at *
      refine Exists.intro i (And.intro rfl (Exists.intro (moC m) (And.intro (get_map hm) ?_)))
      refine Or.inr ?_
      refine Exists.intro true (Exists.intro [0, 3, 4, 11, 12, 15, 69, 70, 71, 76, 77, 78] (Exists.intro (fun n vs h => ∃ j : Nat, j ≤ m.imps.length ∧ n = m.imps.length - j ∧ (m.imps.take j).all (fun s => (resolveF ms s).isSome) = true ∧ vs = [.imm t z 8 (ms.map moC), .ptr 0 0 0 4, .ptr 1 0 0 6, .mapr 2, .slc 3 0 TG.length false, .slc 4 0 (tgsOf ms (m.imps.take j)).length false, .imm t z 8 (ms.map moC), .v (.int .i64 ms.length), .v (.int .i64 i), .imm t false 1 (m.imps.map strC), .v (.int .i64 m.imps.length), .v (.int .i64 j)] ∧
        h = [.box [.v (.int .i64 a), .v (.int .i64 b), .v (.int .i64 c), .v (.int .i64 d)], .box [.sl 4 [], .v (.int .i64 0), .sl 1 [], .v (.int .i64 0), .v (.int .i64 0), .sl 1 []], .mp 0 M, .lst 1 (TG.map tgsC), .lst 3 ((tgsOf ms (m.imps.take j)).map tgC)]) (And.intro ?_ ?_)))
      · refine Exists.intro [] ?_
        repeat' (first
          | refine Exists.intro _ (And.intro rfl (And.intro rfl (And.intro closed_nil ?_)))
          | refine And.intro closed_nil ?_
          | refine And.intro (closed_TargetS _) ?_
          | fail)
        exact Exists.intro m.imps.length ⟨0, by omega, rfl, rfl, by rw [List.length_map]; rfl, rfl⟩
      intro n vs h hI
      obtain ⟨j, hj, rfl, hallj, rfl, rfl⟩ := hI
      have htl : (tgsOf ms (m.imps.take j)).length ≤ 16 := by
        have := List.length_filterMap_le (fun s => (resolveF ms s).map tgOf) (m.imps.take j)
        simp only [tgsOf]
        have := List.length_take_le j m.imps
        omega
      refine And.intro (fun h3 => ?_) (fun h3 => ?_)
      · have h3 := of_decide_eq_true h3
        have hjl : j < m.imps.length := by omega
        obtain ⟨s, hs⟩ : ∃ s, m.imps[j]? = some s := ⟨_, List.getElem?_eq_getElem hjl⟩
        have hrs := res_eq hl4.2 hgm (hfu m hmem s (List.mem_of_getElem? hs))
        refine Exists.intro j (And.intro rfl (Exists.intro (strC s) (And.intro (get_map hs) ?_)))
        refine And.intro (fun v hv => ?_) (fun hv => ?_)
        · rw [hM, hrs] at hv
          obtain ⟨p, hp1, rfl⟩ := Option.map_eq_some_iff.1 hv
          have hst := tgs_at hs hp1
          refine And.intro (fun h4 => by cases h4) (fun h4 => ?_)
          generalize tgsOf ms (m.imps.take j) = T at *
          repeat' (first
            | refine Exists.intro [tgC (tgOf p)] (And.intro rfl (And.intro rfl (And.intro (tg_notSl _) ?_)))
            | refine And.intro (List.length_map _) ?_
            | refine And.intro (by simp; omega) ?_
            | fail)
          refine Exists.intro [] ?_
          repeat' (first
            | refine Exists.intro _ (And.intro rfl (And.intro rfl (And.intro closed_nil ?_)))
            | refine And.intro (closed_TargetS _) ?_
            | refine And.intro (closed_app (closed_Target T) (closed_Target [tgOf p])) ?_
            | fail)
          refine Exists.intro (m.imps.length - (j + 1)) (And.intro (by omega) ⟨j + 1, by omega, rfl, all_take hs hallj (by rw [hp1]; rfl), ?_, ?_⟩)
          · rw [wrap_succ hjl (by omega), hst]
            simp
          · rw [hst]
            simp
        · rw [hM, hrs] at hv
          have hn := Option.map_eq_none_iff.1 hv
          refine And.intro (fun h4 => ?_) (fun h4 => by cases h4)
          have hp2 := fin_k hp (f5 (all_bad hm (all_bad hs (by rw [hn]; rfl)))) (by decide)
          refine And.intro closed_nil (And.intro closed_nil (And.intro closed_nil ?_))
          exact hp2
      · have h3 := of_decide_eq_false h3
        have hjj : j = m.imps.length := by omega
        subst hjj
        rw [List.take_length] at hallj htl ⊢
        repeat' (first
          | refine Exists.intro _ (And.intro (lendD _ _) (And.intro (List.length_map _) (And.intro (closed_Target _) ?_)))
          | refine And.intro (closed_Target _) ?_
          | refine And.intro rfl (And.intro (List.length_map _) (And.intro (by simp; omega) (And.intro (by simp; omega) ?_)))
          | fail)
        refine Exists.intro [] ?_
        repeat' (first
          | refine Exists.intro _ (And.intro rfl (And.intro rfl (And.intro closed_nil ?_)))
          | refine And.intro (closed_app (closed_TargetS TG) (closed_TargetS [_])) ?_
          | fail)
        refine Exists.intro (ms.length - (i + 1)) (And.intro (by omega) ⟨i + 1, by omega, rfl, all_take hm hall hallj, ?_, ?_⟩)
        · rw [wrap_succ hlt (by omega), htk]
          simp
        · rw [htk]
          simp
          rfl
    have h2 := of_decide_eq_false h2
    rw [List.take_of_length_le (by omega)] at hall htn ⊢
    clear f5
    refine And.intro (fun h3 => ?_) (fun h3 => ?_)
    · have h3 := of_decide_eq_true h3
      have f6 : ms.all (bankB ⟨a, b, c, d⟩) = false → linkC ms ⟨a, b, c, d⟩ = 6 := fun h => by
        have hl : longB ms ⟨a, b, c, d⟩ = true := by simp only [longB, h, decide_eq_true (show 0 < a from h3), Bool.not_false, Bool.and_true]
        simp only [linkC, eS, hall, hl, ne_eq, not_true_eq_false, Bool.true_eq_false, if_true, if_false]
      generalize hTG : (ms.map fun m => tgsOf ms m.imps) = TG at *
      refine Exists.intro true (Exists.intro [0, 3, 4, 12, 104, 105, 106] (Exists.intro (fun n vs h => ∃ i : Nat, i ≤ ms.length ∧ n = ms.length - i ∧ (ms.take i).all (bankB ⟨a, b, c, d⟩) = true ∧ vs = [.imm t z 8 (ms.map moC), .ptr 0 0 0 4, .ptr 1 0 0 6, .slc 2 0 TG.length false, .imm t z 8 (ms.map moC), .v (.int .i64 ms.length), .v (.int .i64 i)] ∧
        h = [.box [.v (.int .i64 a), .v (.int .i64 b), .v (.int .i64 c), .v (.int .i64 d)], .box [.sl 4 [], .v (.int .i64 0), .sl 1 [], .v (.int .i64 0), .v (.int .i64 0), .sl 1 []], .lst 1 (TG.map tgsC)]) (And.intro ?_ ?_)))
      · refine Exists.intro [] ?_
        repeat' (first
          | refine Exists.intro _ (And.intro rfl (And.intro rfl (And.intro closed_nil ?_)))
          | refine And.intro (closed_TargetS _) ?_
          | fail)
        exact Exists.intro ms.length ⟨0, by omega, rfl, rfl, by rw [List.length_map]; rfl, rfl⟩
      intro n vs h hI
      obtain ⟨i, hi, rfl, hbk, rfl, rfl⟩ := hI
      refine And.intro (fun h4 => ?_) (fun h4 => ?_)
      · have h4 := of_decide_eq_true h4
        have hlt : i < ms.length := by omega
        obtain ⟨m, hm⟩ : ∃ m, ms[i]? = some m := ⟨_, List.getElem?_eq_getElem hlt⟩
        have g := hgm m (List.mem_of_getElem? hm)
        have gbl := g.bl
        refine Exists.intro i (And.intro rfl (Exists.intro (moC m) (And.intro (get_map hm) ?_)))
        refine Exists.intro true (Exists.intro [0, 3, 4, 12, 104, 105, 106, 111, 112, 113] (Exists.intro (fun n vs h => ∃ j : Nat, j ≤ m.banks.length ∧ n = m.banks.length - j ∧ (m.banks.take j).all (fun x => decide ((x.length : Int) ≤ b)) = true ∧ vs = [.imm t z 8 (ms.map moC), .ptr 0 0 0 4, .ptr 1 0 0 6, .slc 2 0 TG.length false, .imm t z 8 (ms.map moC), .v (.int .i64 ms.length), .v (.int .i64 i), .imm t false 1 (m.banks.map bankC), .v (.int .i64 m.banks.length), .v (.int .i64 j)] ∧
          h = [.box [.v (.int .i64 a), .v (.int .i64 b), .v (.int .i64 c), .v (.int .i64 d)], .box [.sl 4 [], .v (.int .i64 0), .sl 1 [], .v (.int .i64 0), .v (.int .i64 0), .sl 1 []], .lst 1 (TG.map tgsC)]) (And.intro ?_ ?_)))
        · refine Exists.intro [] ?_
          repeat' (first
            | refine Exists.intro _ (And.intro rfl (And.intro rfl (And.intro closed_nil ?_)))
            | refine And.intro (closed_TargetS _) ?_
            | fail)
          exact Exists.intro m.banks.length ⟨0, by omega, rfl, rfl, by rw [List.length_map]; rfl, rfl⟩
        intro n vs h hI
        obtain ⟨j, hj, rfl, hbj, rfl, rfl⟩ := hI
        refine And.intro (fun h5 => ?_) (fun h5 => ?_)
        · have h5 := of_decide_eq_true h5
          have hjl : j < m.banks.length := by omega
          obtain ⟨x, hx⟩ : ∃ x, m.banks[j]? = some x := ⟨_, List.getElem?_eq_getElem hjl⟩
          refine Exists.intro j (And.intro rfl (Exists.intro (bankC x) (And.intro (get_map hx) ?_)))
          refine And.intro (fun h6 => ?_) (fun h6 => ?_)
          · have h6 := of_decide_eq_true h6
            rw [List.length_map] at h6
            have hb2 : bankB ⟨a, b, c, d⟩ m = false := all_bad hx (decide_eq_false (show ¬ (x.length : Int) ≤ b by omega))
            have hp2 := fin_k hp (f6 (all_bad hm hb2)) (by decide)
            refine And.intro closed_nil (And.intro closed_nil (And.intro closed_nil ?_))
            exact hp2
          · have h6 := of_decide_eq_false h6
            rw [List.length_map] at h6
            refine Exists.intro [] ?_
            repeat' (first
              | refine Exists.intro _ (And.intro rfl (And.intro rfl (And.intro closed_nil ?_)))
              | refine And.intro (closed_TargetS _) ?_
              | fail)
            refine Exists.intro (m.banks.length - (j + 1)) (And.intro (by omega) ⟨j + 1, by omega, rfl, all_take hx hbj (decide_eq_true (by omega)), ?_, rfl⟩)
            rw [wrap_succ hjl (by omega)]
        · have h5 := of_decide_eq_false h5
          rw [List.take_of_length_le (by omega)] at hbj
          refine Exists.intro [] ?_
          repeat' (first
            | refine Exists.intro _ (And.intro rfl (And.intro rfl (And.intro closed_nil ?_)))
            | refine And.intro (closed_TargetS _) ?_
            | fail)
          refine Exists.intro (ms.length - (i + 1)) (And.intro (by omega) ⟨i + 1, by omega, rfl, all_take hm hbk hbj, ?_, rfl⟩)
          rw [wrap_succ hlt (by omega)]
      have h4 := of_decide_eq_false h4
      rw [List.take_of_length_le (by omega)] at hbk
      have hlo : longB ms ⟨a, b, c, d⟩ = false := by simp only [longB, hbk, Bool.not_true, Bool.and_false]
      subst hTG
      refine Exists.intro ms (And.intro rfl (And.intro hsm (And.intro hSo ?_)))
      have e : linkC ms ⟨a, b, c, d⟩ = if 16384 < (laP ms ⟨a, b, c, d⟩).flash then 7 else if 16384 < (laP ms ⟨a, b, c, d⟩).ram then 8 else 0 := by simp only [linkC, eS, hall, hlo, ne_eq, not_true_eq_false, Bool.true_eq_false, Bool.false_eq_true, if_true, if_false]; rfl
      refine And.intro (fun h4 => ?_) (fun h4 => ?_)
      · have h4 := of_decide_eq_true h4
        rw [if_pos h4] at e
        have hp2 := fin_k hp e (by decide)
        refine And.intro closed_nil (And.intro closed_nil (And.intro closed_nil ?_))
        exact hp2
      have h4 := of_decide_eq_false h4
      rw [if_neg h4] at e
      refine And.intro (fun h5 => ?_) (fun h5 => ?_)
      · have h5 := of_decide_eq_true h5
        rw [if_pos h5] at e
        have hp2 := fin_k hp e (by decide)
        refine And.intro closed_nil (And.intro closed_nil (And.intro closed_nil ?_))
        exact hp2
      have h5 := of_decide_eq_false h5
      rw [if_neg h5] at e
      have hp2 := fin_la hp e
      rw [laP_laF] at hp2
      refine And.intro (closed_Place _) (And.intro (closed_Int _) (And.intro (closed_TargetS _) ?_))
      exact hp2
    have h3 := of_decide_eq_false h3
    have hlo : longB ms ⟨a, b, c, d⟩ = false := by simp only [longB, decide_eq_false (show ¬ 0 < a from h3), Bool.false_and]
    refine Exists.intro ms (And.intro rfl (And.intro hsm (And.intro hSo ?_)))
    have e : linkC ms ⟨a, b, c, d⟩ = if 16384 < (laP ms ⟨a, b, c, d⟩).flash then 7 else if 16384 < (laP ms ⟨a, b, c, d⟩).ram then 8 else 0 := by simp only [linkC, eS, hall, hlo, ne_eq, not_true_eq_false, Bool.true_eq_false, Bool.false_eq_true, if_true, if_false]; rfl
    refine And.intro (fun h4 => ?_) (fun h4 => ?_)
    · have h4 := of_decide_eq_true h4
      rw [if_pos h4] at e
      have hp2 := fin_k hp e (by decide)
      refine And.intro closed_nil (And.intro closed_nil (And.intro closed_nil ?_))
      exact hp2
    have h4 := of_decide_eq_false h4
    rw [if_neg h4] at e
    refine And.intro (fun h5 => ?_) (fun h5 => ?_)
    · have h5 := of_decide_eq_true h5
      rw [if_pos h5] at e
      have hp2 := fin_k hp e (by decide)
      refine And.intro closed_nil (And.intro closed_nil (And.intro closed_nil ?_))
      exact hp2
    have h5 := of_decide_eq_false h5
    rw [if_neg h5] at e
    have hp2 := fin_la hp e
    rw [laP_laF] at hp2
    refine And.intro (closed_Place _) (And.intro (closed_Int _) (And.intro (closed_TargetS _) ?_))
    exact hp2
  · exact hp.elim
end Go.Proofs.Ytijjonafmmhhbaa.Ab
