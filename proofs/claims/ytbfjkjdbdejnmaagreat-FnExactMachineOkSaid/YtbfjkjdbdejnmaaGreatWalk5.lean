/- Functions walked, part 5. No condition. -/
import Derived.Test.YtbfjkjdbdejnmaaGreatWalk4
set_option linter.unusedVariables false
set_option linter.unusedSimpArgs false
/- Resolve: both programs' walks. No condition. -/
namespace Go.Proofs.YtbfjkjdbdejnmaaGreat.Ab
set_option linter.unusedVariables false
set_option linter.unusedSimpArgs false

def hRes : CH := fun args hl K => match args, hl with
  | [.imm _ _ 8 L, .v (.string s)], [] => ∃ ms : List Mo, L = ms.map moC ∧ ms.length ≤ 1048576 ∧ (∀ m ∈ ms, smMo m) ∧ s.size ≤ 1048576 ∧ K (resV (resolveF ms s)) []
  | _, _ => False
def cx_s_spec_Resolve : Ctx := mkC [(224, callM [] false hFull), (226, callM [] false hDot)]
theorem cx_s_spec_Resolve_ok : CtxOk Tryz.prog cx_s_spec_Resolve := mkC_ok (mem1 ⟨s_l4FullOk, fnOk Tryz.func224 rfl rfl⟩ (mem1 ⟨s_l4Dot, fnOk Tryz.func226 rfl rfl⟩ mem0))
set_option maxRecDepth 100000 in
set_option pp.maxSteps 1500 in
set_option maxHeartbeats 4000000 in
theorem s_spec_Resolve : HSound Tryz.prog 195 (callM [] true hRes) := by
  refine callM_sound cx_s_spec_Resolve_ok mixed Tryz.func195 rfl fun args hl K hp => ?_
  unfold hRes at hp
  split at hp
  · rename_i t z L s
    obtain ⟨ms, rfl, hlen, hsm, hs, hp⟩ := hp
    refine And.intro (fun h1 => ?_) (fun h1 => ?_)
    · refine And.intro (fun h2 => ?_) (fun h2 => by cases h2)
      refine And.intro (fun h3 => ?_) (fun h3 => by cases h3)
      have h1 := of_decide_eq_true h1
      rw [List.length_map] at h1
      have e : resolveF ms s = none := by
        simp only [resolveF, decide_eq_false (by omega : ¬ ms.length ≤ 4), Bool.false_and]
      rw [e] at hp
      exact hp
    have h1 := of_decide_eq_false h1
    rw [List.length_map] at h1
    have hl4 : ms.length ≤ 4 := by omega
    clear h1
    refine And.intro hs ?_
    refine And.intro (fun h2 => by cases h2) (fun h2 => ?_)
    refine And.intro (fun h3 => ?_) (fun h3 => ?_)
    · have h3 : fullOk s = false := by simpa using h3
      have e : resolveF ms s = none := by
        simp only [resolveF, h3, Bool.and_false, Bool.false_and]
      rw [e] at hp
      exact hp
    have hf : fullOk s = true := by simpa using h3
    clear h3 h2
    refine Exists.intro true (Exists.intro [0, 1, 4, 6] (Exists.intro (fun m vs h => ∃ i : Nat, i ≤ ms.length ∧ m = ms.length - i ∧ (∀ q ∈ ms.take i, q.exps.length ≤ 16) ∧ vs = [.imm t z 8 (ms.map moC), .v (.string s), .ptr 0 0 0 3, .v (.int .i64 i)] ∧ h = [.box [.v (.int .i64 0), .v (.int .i64 0), .v (.int .i64 0)]]) (And.intro ?_ ?_)))
    · refine Exists.intro [] (Exists.intro ms.length ?_)
      exact ⟨0, by omega, rfl, fun q hq => by simp at hq, rfl, rfl⟩
    intro m vs h hI
    obtain ⟨i, hi, rfl, hall, rfl, rfl⟩ := hI
    refine And.intro (fun h1 => ?_) (fun h1 => ?_)
    · have h1 := of_decide_eq_true h1
      rw [List.length_map] at h1
      have hlt : i < ms.length := by omega
      obtain ⟨m, hm⟩ : ∃ m, ms[i]? = some m := ⟨_, List.getElem?_eq_getElem hlt⟩
      refine Exists.intro i (And.intro rfl (Exists.intro (moC m) (And.intro (get_map hm) ?_)))
      refine And.intro (fun h2 => ?_) (fun h2 => ?_)
      · have h2 := of_decide_eq_true h2
        rw [List.length_map] at h2
        have e : resolveF ms s = none := by
          have : ms.all (fun m => decide (m.exps.length ≤ 16)) = false := by
            rw [List.all_eq_false]
            exact ⟨m, List.mem_of_getElem? hm, by simp; omega⟩
          simp only [resolveF, this, Bool.and_false]
        rw [e] at hp
        exact hp
      · have h2 := of_decide_eq_false h2
        rw [List.length_map] at h2
        refine Exists.intro [] (Exists.intro (ms.length - (i + 1)) (And.intro (by omega) ⟨i + 1, by omega, rfl, ?_, ?_, rfl⟩))
        · intro q hq
          rw [List.take_add_one, hm] at hq
          simp only [Option.toList, List.mem_append, List.mem_singleton] at hq
          rcases hq with hq | rfl
          · exact hall q hq
          · omega
        · rw [wrap_succ hlt (by omega)]
    have h1 := of_decide_eq_false h1
    rw [List.length_map] at h1
    rw [List.take_of_length_le (by omega)] at hall
    have eR : resolveF ms s = resG ms (headS s) (tailS s) := by
      have : ms.all (fun m => decide (m.exps.length ≤ 16)) = true := by
        rw [List.all_eq_true]
        intro q hq
        simpa using hall q hq
      simp only [resolveF, decide_eq_true hl4, hf, this, Bool.and_true]
    rw [eR] at hp
    clear eR
    obtain ⟨n1, n2, p, hpq, hps, _, _⟩ := full_split hf
    have e0 : (dotI s).toNat = p := by omega
    simp only [headS, tailS, e0] at hp n1 n2
    refine And.intro hs ?_
    refine Exists.intro true (Exists.intro [0, 1, 4, 7, 8] (Exists.intro (fun m vs h => ∃ i : Nat, i ≤ ms.length ∧ m = ms.length - i ∧ (∀ k < i, ∀ q, ms[k]? = some q → q.name ≠ s.extract 0 p) ∧ vs = [.imm t z 8 (ms.map moC), .v (.string s), .ptr 0 0 0 3, .v (.int .i64 p), .v (.int .i64 i)] ∧ h = [.box [.v (.int .i64 0), .v (.int .i64 0), .v (.int .i64 0)]]) (And.intro ?_ ?_)))
    · refine Exists.intro [] (Exists.intro ms.length ?_)
      exact ⟨0, by omega, rfl, fun k hk => by omega, by rw [hpq]; rfl, rfl⟩
    intro m vs h hI
    obtain ⟨i, hi, rfl, hno, rfl, rfl⟩ := hI
    refine And.intro (fun h1 => ?_) (fun h1 => ?_)
    · have h1 := of_decide_eq_true h1
      rw [List.length_map] at h1
      have hlt : i < ms.length := by omega
      obtain ⟨m, hm⟩ : ∃ m, ms[i]? = some m := ⟨_, List.getElem?_eq_getElem hlt⟩
      have hmm := hall m (List.mem_of_getElem? hm)
      refine And.intro (show Region.lexB _ _ = true from by kernel_rfl) ?_
      refine Exists.intro i (And.intro rfl (Exists.intro (moC m) (And.intro (get_map hm) ?_)))
      refine Exists.intro p (And.intro rfl (And.intro (by omega) (And.intro (by omega) ?_)))
      refine And.intro (fun h2 => ?_) (fun h2 => ?_)
      · have h2 : ¬ m.name = s.extract 0 p := by
          rw [ba_beq2] at h2
          simpa using h2
        refine Exists.intro [] (Exists.intro (ms.length - (i + 1)) (And.intro (by omega) ⟨i + 1, by omega, rfl, ?_, ?_, rfl⟩))
        · intro k hk q hq
          rcases Nat.lt_or_ge k i with r | r
          · exact hno k r q hq
          · have : k = i := by omega
            subst this
            rw [hm] at hq
            cases hq
            exact h2
        · rw [wrap_succ hlt (by omega)]
      have h2 : m.name = s.extract 0 p := by
        rw [ba_beq2] at h2
        simpa using h2
      have eG := resG_at (b := s.extract (p + 1) s.size) hm h2 hno
      rw [eG] at hp
      clear eG h2
      refine Exists.intro true (Exists.intro [0, 1, 4, 7, 8, 9] (Exists.intro (fun m' vs h => ∃ j : Nat, j ≤ m.exps.length ∧ m' = m.exps.length - j ∧ (∀ k < j, ∀ q, m.exps[k]? = some q → q.n ≠ s.extract (p + 1) s.size) ∧ vs = [.imm t z 8 (ms.map moC), .v (.string s), .ptr 0 0 0 3, .v (.int .i64 p), .v (.int .i64 i), .v (.int .i64 j)] ∧ h = [.box [.v (.int .i64 0), .v (.int .i64 0), .v (.int .i64 0)]]) (And.intro ?_ ?_)))
      · refine Exists.intro [] (Exists.intro m.exps.length ?_)
        exact ⟨0, by omega, rfl, fun k hk => by omega, rfl, rfl⟩
      intro m' vs h hI
      obtain ⟨j, hj, rfl, hnj, rfl, rfl⟩ := hI
      refine Exists.intro i (And.intro rfl (Exists.intro (moC m) (And.intro (get_map hm) ?_)))
      refine And.intro (fun h3 => ?_) (fun h3 => ?_)
      · have h3 := of_decide_eq_true h3
        rw [List.length_map] at h3
        have hjl : j < m.exps.length := by omega
        obtain ⟨e, he⟩ : ∃ e, m.exps[j]? = some e := ⟨_, List.getElem?_eq_getElem hjl⟩
        refine Exists.intro i (And.intro rfl (Exists.intro (moC m) (And.intro (get_map hm) ?_)))
        refine Exists.intro j (And.intro rfl (Exists.intro (exC e) (And.intro (get_map he) ?_)))
        refine And.intro (show Region.lexB _ _ = true from by kernel_rfl) ?_
        refine Exists.intro (p + 1) (And.intro (by rw [wrap64 (by omega)]; omega) (And.intro (by omega) (And.intro (by omega) ?_)))
        refine And.intro (fun h4 => ?_) (fun h4 => ?_)
        · have h4 : e.n = s.extract (p + 1) s.size := by
            rw [ba_beq2] at h4
            simpa using h4
          rw [findEx_at he h4 hnj] at hp
          exact hp
        · have h4 : ¬ e.n = s.extract (p + 1) s.size := by
            rw [ba_beq2] at h4
            simpa using h4
          refine Exists.intro [] (Exists.intro (m.exps.length - (j + 1)) (And.intro (by omega) ⟨j + 1, by omega, rfl, ?_, ?_, rfl⟩))
          · intro k hk q hq
            rcases Nat.lt_or_ge k j with r | r
            · exact hnj k r q hq
            · have : k = j := by omega
              subst this
              rw [he] at hq
              cases hq
              exact h4
          · rw [wrap_succ hjl (by omega)]
      · have h3 := of_decide_eq_false h3
        rw [List.length_map] at h3
        have : findEx (s.extract (p + 1) s.size) m.exps = none := findEx_none fun q hq => by
          obtain ⟨k, hk, rfl⟩ := List.mem_iff_getElem.1 hq
          exact hnj k (by omega) _ (List.getElem?_eq_getElem hk)
        rw [this] at hp
        exact hp
    · have h1 := of_decide_eq_false h1
      rw [List.length_map] at h1
      have : resG ms (s.extract 0 p) (s.extract (p + 1) s.size) = none := resG_none fun q hq => by
        obtain ⟨k, hk, rfl⟩ := List.mem_iff_getElem.1 hq
        exact hno k (by omega) _ (List.getElem?_eq_getElem hk)
      rw [this] at hp
      exact hp
  · exact hp.elim
end Go.Proofs.YtbfjkjdbdejnmaaGreat.Ab

/- Resolve of impl: the table of names. No condition. -/
namespace Go.Proofs.YtbfjkjdbdejnmaaGreat.Ab
set_option linter.unusedVariables false
set_option linter.unusedSimpArgs false

def hNames : CH := fun args hl K => match args, hl with
  | [.imm _ _ 8 L], [] => ∃ ms : List Mo, L = ms.map moC ∧ ms.length ≤ 1048576 ∧ (∀ m ∈ ms, smMo m) ∧ ∀ M, (∀ q, mapFind (.s q) M = (namesP ms ms.length q).map tgtV) → K (.mapr 0) [.mp 0 M]
  | _, _ => False
theorem seen_step {ms : List Mo} {i : Nat} {m : Mo} (hm : ms[i]? = some m) (q : ByteArray) : seenB ms (i + 1) q = (seenB ms i q || decide (m.name = q)) := by
  unfold seenB
  rw [List.take_add_one, hm]
  simp
def cx_s_namesOf : Ctx := mkC []
theorem cx_s_namesOf_ok : CtxOk Tryz.prog cx_s_namesOf := cx0_ok
set_option maxRecDepth 100000 in
set_option pp.maxSteps 1500 in
set_option maxHeartbeats 4000000 in
theorem s_namesOf : HSound Tryz.prog 147 (callM [] false hNames) := by
  refine callM_sound cx_s_namesOf_ok mixed Tryz.func147 rfl fun args hl K hp => ?_
  unfold hNames at hp
  split at hp
  · rename_i t z L
    obtain ⟨ms, rfl, hlen, hsm, hp⟩ := hp
    refine Exists.intro true (Exists.intro [3, 4, 14, 15, 16] (Exists.intro (fun m vs h => ∃ (i : Nat) (M S : List (MK × Value)), i ≤ ms.length ∧ m = ms.length - i ∧ (∀ q, mapFind (.s q) M = (namesP ms i q).map tgtV) ∧ (∀ q, mapFind (.s q) S = match seenB ms i q with | true => some (.bool true) | false => none) ∧ vs = [.mapr 0, .mapr 1, .imm t z 8 (ms.map moC), .v (.int .i64 ms.length), .v (.int .i64 i)] ∧ h = [.mp 0 M, .mp 0 S]) (And.intro ?_ ?_)))
    · refine Exists.intro [] (Exists.intro ms.length ?_)
      exact ⟨0, [], [], by omega, rfl, fun q => rfl, fun q => rfl, by rw [List.length_map]; rfl, rfl⟩
    intro m vs h hI
    obtain ⟨i, M, S, hi, rfl, hM, hS, rfl, rfl⟩ := hI
    refine And.intro (fun h1 => ?_) (fun h1 => ?_)
    · have h1 := of_decide_eq_true h1
      have hlt : i < ms.length := by omega
      obtain ⟨m, hm⟩ : ∃ m, ms[i]? = some m := ⟨_, List.getElem?_eq_getElem hlt⟩
      have hmm := hsm m (List.mem_of_getElem? hm)
      refine Exists.intro i (And.intro rfl (Exists.intro (moC m) (And.intro (get_map hm) ?_)))
      have hwi : IntKind.wrap .i64 ((i : Int) + 1) = ((i + 1 : Nat) : Int) := wrap_succ hlt (by omega)
      refine And.intro (fun v hv => ?_) (fun hv => ?_)
      · rw [hS] at hv
        have hsn : seenB ms i m.name = true := by
          cases hh : seenB ms i m.name with
          | true => rfl
          | false => rw [hh] at hv; cases hv
        rw [hsn] at hv
        cases hv
        refine And.intro (fun h2 => ?_) (fun h2 => by cases h2)
        refine Exists.intro [] (Exists.intro (ms.length - (i + 1)) (And.intro (by omega) ⟨i + 1, M, S, by omega, rfl, fun q => ?_, fun q => ?_, by rw [hwi], rfl⟩))
        · rw [hM, namesP, hm]
          simp only [hsn, Option.or_none]
        · rw [hS, seen_step hm]
          by_cases hq : m.name = q
          · subst hq
            rw [hsn]
            rfl
          · rw [decide_eq_false hq, Bool.or_false]
      · rw [hS] at hv
        have hsn : seenB ms i m.name = false := by
          cases hh : seenB ms i m.name with
          | false => rfl
          | true => rw [hh] at hv; cases hv
        clear hv
        refine And.intro (fun h2 => by cases h2) (fun h2 => ?_)
        have hS' : ∀ q, mapFind (.s q) (mapSet (.s m.name) (.bool true) S) = match seenB ms (i + 1) q with | true => some (.bool true) | false => none := by
          intro q
          rw [mapFind_set, hS, seen_step hm]
          by_cases hq : m.name = q
          · subst hq
            simp [hsn]
          · rw [if_neg (by simpa using hq), decide_eq_false hq, Bool.or_false]
        have hN : ∀ q, namesP ms (i + 1) q = (namesP ms i q).or ((findKey q m.name m.exps).map fun e => (i, e)) := by
          intro q
          rw [namesP, hm]
          simp only [hsn]
        refine Exists.intro true (Exists.intro [3, 4, 5, 6, 14, 15, 16, 29, 30, 31] (Exists.intro (fun m' vs h => ∃ (j : Nat) (M : List (MK × Value)), j ≤ m.exps.length ∧ m' = m.exps.length - j ∧ (∀ q, mapFind (.s q) M = ((namesP ms i q).or ((findKey q m.name (m.exps.take j)).map fun e => (i, e))).map tgtV) ∧ vs = [.mapr 0, .mapr 1, .v (.int .i64 i), .ptr 2 0 0 8, .imm t z 8 (ms.map moC), .v (.int .i64 ms.length), .v (.int .i64 i), .imm t false 3 (m.exps.map exC), .v (.int .i64 m.exps.length), .v (.int .i64 j)] ∧ h = [.mp 0 M, .mp 0 (mapSet (.s m.name) (.bool true) S), .box [.v (.string m.name), .imm t false 1 (m.text.map intC), .imm t false 1 (m.banks.map bankC), .imm t false 1 (m.data.map byteC), .v (.int .i64 m.bss), .imm t false 1 (m.rels.map intC), .imm t false 1 (m.imps.map strC), .imm t false 3 (m.exps.map exC)]]) (And.intro ?_ ?_)))
        · refine Exists.intro [] (Exists.intro m.exps.length ?_)
          refine ⟨0, M, by omega, rfl, fun q => ?_, by rw [List.length_map]; rfl, rfl⟩
          rw [hM]
          simp [findKey]
        intro m' vs h hI
        obtain ⟨j, M, hj, rfl, hM, rfl, rfl⟩ := hI
        refine And.intro (fun h3 => ?_) (fun h3 => ?_)
        · have h3 := of_decide_eq_true h3
          have hjl : j < m.exps.length := by omega
          obtain ⟨e, he⟩ : ∃ e, m.exps[j]? = some e := ⟨_, List.getElem?_eq_getElem hjl⟩
          have hee := hmm.exp e (List.mem_of_getElem? he)
          have hnn := hmm.name
          have hd1 : ({ data := #[46] } : ByteArray).size = 1 := rfl
          have hst := fun q => key_step (q := q) (nm := m.name) he
          have hwj : IntKind.wrap .i64 ((j : Int) + 1) = ((j + 1 : Nat) : Int) := wrap_succ hjl (by have := hmm.exps; omega)
          refine Exists.intro j (And.intro rfl (Exists.intro (exC e) (And.intro (get_map he) ?_)))
          refine And.intro (by omega) ?_
          refine And.intro (by rw [ByteArray.size_append]; omega) ?_
          refine And.intro (fun v hv => ?_) (fun hv => ?_)
          · have hv' : mapFind (.s (keyOf m.name e)) M = some v := hv
            rw [hM] at hv'
            obtain ⟨p, hp1, rfl⟩ := Option.map_eq_some_iff.1 hv'
            refine And.intro (fun h4 => by cases h4) (fun h4 => ?_)
            refine Exists.intro [] (Exists.intro (m.exps.length - (j + 1)) (And.intro (by omega) ⟨j + 1, M, by omega, rfl, fun q => ?_, by rw [hwj], rfl⟩))
            rw [hM, hst]
            by_cases hq : keyOf m.name e = q
            · subst hq
              rw [hp1]
              cases h5 : namesP ms i (keyOf m.name e) with
              | some x =>
                rw [h5] at hp1
                simp only [Option.some_or] at hp1 ⊢
                rw [hp1]
              | none =>
                rw [h5] at hp1
                simp only [Option.none_or] at hp1 ⊢
                obtain ⟨y, hy, hyp⟩ := Option.map_eq_some_iff.1 hp1
                rw [hy]
                simp only [Option.some_or, Option.map_some, hyp]
            · rw [decide_eq_false hq]
              simp only [Option.or_none]
          · have hv' : mapFind (.s (keyOf m.name e)) M = none := hv
            rw [hM] at hv'
            have hv2 := Option.map_eq_none_iff.1 hv'
            refine And.intro (fun h4 => ?_) (fun h4 => by cases h4)
            refine Exists.intro [] (Exists.intro (m.exps.length - (j + 1)) (And.intro (by omega) ⟨j + 1, mapSet (.s (keyOf m.name e)) (tgtV (i, e)) M, by omega, rfl, fun q => ?_, by rw [hwj], rfl⟩))
            rw [mapFind_set, hM, hst]
            by_cases hq : keyOf m.name e = q
            · subst hq
              rw [if_pos rfl]
              rw [Option.or_eq_none_iff, Option.map_eq_none_iff] at hv2
              rw [hv2.1, hv2.2]
              simp
            · rw [if_neg (by simpa using hq), decide_eq_false hq]
              simp only [Option.or_none]
        · have h3 := of_decide_eq_false h3
          rw [List.take_of_length_le (by omega)] at hM
          refine Exists.intro [] (Exists.intro (ms.length - (i + 1)) (And.intro (by omega) ⟨i + 1, M, mapSet (.s m.name) (.bool true) S, by omega, rfl, fun q => ?_, hS', by rw [hwi], rfl⟩))
          rw [hM, hN]
    · have h1 := of_decide_eq_false h1
      have : i = ms.length := by omega
      subst this
      exact hp M hM
  · exact hp.elim

end Go.Proofs.YtbfjkjdbdejnmaaGreat.Ab

/- ModuleOk: the parts of both programs. No condition. -/
namespace Go.Proofs.YtbfjkjdbdejnmaaGreat.Ab
set_option linter.unusedVariables false
set_option linter.unusedSimpArgs false

theorem sEq_iff (a b : ByteArray) : (a.toList == b.toList) = decide (a = b) := by
  rw [ByteArray.toList_eq, ByteArray.toList_eq, Bool.eq_iff_iff]
  simp only [beq_iff_eq, decide_eq_true_eq]
  refine ⟨fun h => ?_, fun h => by rw [h]⟩
  cases a; cases b
  simp only at h
  congr
  exact Array.toList_inj.1 h
def isW (v : Int) : Bool := decide (0 ≤ v ∧ v ≤ 4294967295)
def wordsB (l : List Int) : Bool := l.all isW
def codeB (m : Mo) : Bool := decide (m.text.length ≤ 200) && decide (m.banks.length ≤ 4) && wordsB m.text && m.banks.all fun b => decide (1 ≤ b.length ∧ b.length ≤ 64) && wordsB b
def relB (d : Nat) (rs : List Int) (i : Nat) : Bool := decide (0 ≤ rs.getD i 0 ∧ (rs.getD i 0).tmod 4 = 0 ∧ rs.getD i 0 ≤ (d : Int) - 4 ∧ (i = 0 ∨ rs.getD (i - 1) 0 < rs.getD i 0))
def relsB (d : Nat) (rs : List Int) : Bool := decide (rs.length ≤ 16) && (List.range rs.length).all (relB d rs)
def pieceOf (m : Mo) (b : Int) : Option (List Int) := if b = -1 then some m.text else if 0 ≤ b ∧ b < m.banks.length then m.banks[b.toNat]? else none
def goodE (m : Mo) (e : Ex) : Bool := nameOk e.n && match pieceOf m e.bank with | some ws => decide (0 ≤ e.pos ∧ e.pos < ws.length) | none => false
def expB (m : Mo) (i : Nat) : Bool := match m.exps[i]? with | some e => goodE m e && (m.exps.take i).all (fun q => decide (q.n ≠ e.n)) | none => true
def expsB (m : Mo) : Bool := decide (m.exps.length ≤ 16) && (List.range m.exps.length).all (expB m)
def impsB (m : Mo) : Bool := decide (m.imps.length ≤ 16) && m.imps.all fullOk
def restB (m : Mo) : Bool := decide (m.data.length ≤ 512) && decide (0 ≤ m.bss) && decide (m.bss ≤ 512)
def modOk (m : Mo) : Int := if nameOk m.name = false then 1 else if codeB m = false then 2 else if restB m = false then 3 else if relsB m.data.length m.rels = false then 4 else if impsB m = false then 5 else if expsB m = false then 6 else 0
abbrev cellsM (m : Mo) (b1 z1 b2 z2 b3 z3 b4 z4 b5 z5 b6 z6 : Bool) : List AV := [.v (.string m.name), .imm b1 z1 1 (m.text.map intC), .imm b2 z2 1 (m.banks.map bankC), .imm b3 z3 1 (m.data.map byteC), .v (.int .i64 m.bss), .imm b4 z4 1 (m.rels.map intC), .imm b5 z5 1 (m.imps.map strC), .imm b6 z6 3 (m.exps.map exC)]
theorem all_take {α : Type} {f : α → Bool} {l : List α} {i : Nat} {a : α} (h : l[i]? = some a) (hall : (l.take i).all f = true) (ha : f a = true) : (l.take (i + 1)).all f = true := by
  rw [List.take_add_one, h]
  simp only [Option.toList, List.all_append, hall, Bool.true_and, List.all_cons, List.all_nil, Bool.and_true, ha]
theorem all_bad {α : Type} {f : α → Bool} {l : List α} {i : Nat} {a : α} (h : l[i]? = some a) (ha : f a = false) : l.all f = false := by
  rw [List.all_eq_false]
  exact ⟨a, List.mem_of_getElem? h, by simp [ha]⟩
theorem range_all {f : Nat → Bool} {n : Nat} (h : ∀ k < n, f k = true) : (List.range n).all f = true := by
  rw [List.all_eq_true]
  intro k hk
  exact h k (by simpa using hk)
theorem range_bad {f : Nat → Bool} {n i : Nat} (hi : i < n) (h : f i = false) : (List.range n).all f = false := by
  rw [List.all_eq_false]
  exact ⟨i, by simpa using hi, by simp [h]⟩
theorem lt_step {f : Nat → Bool} {i : Nat} (h : ∀ k < i, f k = true) (hi : f i = true) : ∀ k < i + 1, f k = true := by
  intro k hk
  rcases Nat.lt_or_ge k i with r | r
  · exact h k r
  · have : k = i := by omega
    subst this
    exact hi

def hWords : CH := fun args hl K => match args, hl with
  | [.imm _ _ 1 L], [] => ∃ bs : List Int, L = bs.map intC ∧ bs.length ≤ 1048576 ∧ K (.v (.bool (wordsB bs))) []
  | _, _ => False
def cx_s_l4Words : Ctx := mkC []
theorem cx_s_l4Words_ok : CtxOk Tryz.prog cx_s_l4Words := cx0_ok
set_option maxRecDepth 100000 in
set_option pp.maxSteps 1500 in
theorem s_l4Words : HSound Tryz.prog 235 (callM [] true hWords) := by
  refine callM_sound cx_s_l4Words_ok mixed Tryz.func235 rfl fun args hl K hp => ?_
  unfold hWords at hp
  split at hp
  · rename_i t z L
    obtain ⟨bs, rfl, hb, hp⟩ := hp
    refine Exists.intro false (Exists.intro [0, 3] (Exists.intro (fun m vs h => ∃ i : Nat, i ≤ bs.length ∧ m = bs.length - i ∧ (bs.take i).all isW = true ∧ vs = [.imm t z 1 (bs.map intC), .v (.int .i64 i)] ∧ h = []) (And.intro ?_ ?_)))
    · refine Exists.intro bs.length ?_
      exact ⟨0, by omega, rfl, rfl, rfl, rfl⟩
    · intro m vs h hI
      obtain ⟨i, hi, rfl, hall, rfl, rfl⟩ := hI
      refine And.intro (fun h1 => ?_) (fun h1 => ?_)
      · simp only [decide_eq_true_eq, List.length_map] at h1
        have hlt : i < bs.length := by omega
        obtain ⟨b, hbi⟩ : ∃ b, bs[i]? = some b := ⟨_, List.getElem?_eq_getElem hlt⟩
        refine Exists.intro i (And.intro rfl (Exists.intro (intC b) (And.intro (get_map hbi) ?_)))
        refine And.intro (fun h2 => ?_) (fun h2 => ?_)
        · refine And.intro (fun h3 => ?_) (fun h3 => by cases h3)
          refine And.intro (fun h4 => ?_) (fun h4 => by cases h4)
          have h2 := of_decide_eq_true h2
          exact fin_b hp (all_bad hbi (decide_eq_false (by omega)))
        · have h2 := of_decide_eq_false h2
          refine Exists.intro i (And.intro rfl (Exists.intro (intC b) (And.intro (get_map hbi) ?_)))
          refine And.intro (fun h3 => by cases h3) (fun h3 => ?_)
          refine And.intro (fun h4 => ?_) (fun h4 => ?_)
          · have h4 := of_decide_eq_true h4
            exact fin_b hp (all_bad hbi (decide_eq_false (by omega)))
          · have h4 := of_decide_eq_false h4
            refine Exists.intro (bs.length - (i + 1)) (And.intro (by omega) ⟨i + 1, by omega, rfl, all_take hbi hall ?_, ?_, rfl⟩)
            · exact decide_eq_true (by omega)
            · rw [wrap_succ hlt (by omega)]
      · simp only [decide_eq_false_iff_not, List.length_map] at h1
        rw [List.take_of_length_le (by omega)] at hall
        exact fin_b hp hall
  · exact hp.elim
def hNotW : CH := fun args hl K => match args, hl with
  | [.v (.int .i64 v)], [] => K (.v (.bool (!isW v))) []
  | _, _ => False
def cx_s_words1 : Ctx := mkC [(162, callM [] false hWord)]
theorem cx_s_words1_ok : CtxOk Tryz.prog cx_s_words1 := mkC_ok (mem1 ⟨s_isWord, fnOk Tryz.func162 rfl rfl⟩ mem0)
set_option maxRecDepth 100000 in
set_option pp.maxSteps 1500 in
theorem s_words1 : HSound Tryz.prog 230 (callM [] false hNotW) := by
  refine callM_sound cx_s_words1_ok mixed Tryz.func230 rfl fun args hl K hp => ?_
  unfold hNotW at hp
  split at hp
  · exact hp
  · exact hp.elim
def hIdxF : CH := fun args hl K => match args, hl with
  | [.imm _ _ 1 L, .fn f []], [] => f = 230 ∧ ∃ bs : List Int, L = bs.map intC ∧ bs.length ≤ 1048576 ∧ (wordsB bs = true → K (.v (.int .i64 (-1))) []) ∧ (wordsB bs = false → ∀ i : Nat, K (.v (.int .i64 i)) [])
  | _, _ => False
def cx_s_IndexFunc : Ctx := mkC [(230, callM [] false hNotW)]
theorem cx_s_IndexFunc_ok : CtxOk Tryz.prog cx_s_IndexFunc := mkC_ok (mem1 ⟨s_words1, fnOk Tryz.func230 rfl rfl⟩ mem0)
set_option maxRecDepth 100000 in
set_option pp.maxSteps 1500 in
theorem s_IndexFunc : HSound Tryz.prog 236 (callM [] true hIdxF) := by
  refine callM_sound cx_s_IndexFunc_ok mixed Tryz.func236 rfl fun args hl K hp => ?_
  unfold hIdxF at hp
  split at hp
  · rename_i t z L f
    obtain ⟨rfl, bs, rfl, hb, hp1, hp2⟩ := hp
    refine Exists.intro false (Exists.intro [0, 1, 7, 8] (Exists.intro (fun m vs h => ∃ i : Nat, i ≤ bs.length ∧ m = bs.length - i ∧ (bs.take i).all isW = true ∧ vs = [.imm t z 1 (bs.map intC), .fn 230 [], .v (.int .i64 bs.length), .v (.int .i64 i)] ∧ h = []) (And.intro ?_ ?_)))
    · refine Exists.intro bs.length ?_
      exact ⟨0, by omega, rfl, rfl, by rw [List.length_map]; rfl, rfl⟩
    · intro m vs h hI
      obtain ⟨i, hi, rfl, hall, rfl, rfl⟩ := hI
      refine And.intro (fun h1 => ?_) (fun h1 => ?_)
      · simp only [decide_eq_true_eq] at h1
        have hlt : i < bs.length := by omega
        obtain ⟨b, hbi⟩ : ∃ b, bs[i]? = some b := ⟨_, List.getElem?_eq_getElem hlt⟩
        refine Exists.intro i (And.intro rfl (Exists.intro (intC b) (And.intro (get_map hbi) ?_)))
        refine And.intro (fun h2 => ?_) (fun h2 => ?_)
        · have h2 : isW b = false := by simpa using h2
          exact hp2 (all_bad hbi h2) i
        · have h2 : isW b = true := by simpa using h2
          refine Exists.intro (bs.length - (i + 1)) (And.intro (by omega) ⟨i + 1, by omega, rfl, all_take hbi hall h2, ?_, rfl⟩)
          rw [wrap_succ hlt (by omega)]
      · simp only [decide_eq_false_iff_not] at h1
        rw [List.take_of_length_le (by omega)] at hall
        exact hp1 hall
  · exact hp.elim
def hConF : CH := fun args hl K => match args, hl with
  | [.imm _ _ 1 L, .fn f []], [] => f = 230 ∧ ∃ bs : List Int, L = bs.map intC ∧ bs.length ≤ 1048576 ∧ K (.v (.bool (!wordsB bs))) []
  | _, _ => False
def cx_s_ContainsFunc : Ctx := mkC [(236, callM [] true hIdxF)]
theorem cx_s_ContainsFunc_ok : CtxOk Tryz.prog cx_s_ContainsFunc := mkC_ok (mem1 ⟨s_IndexFunc, fnOk Tryz.func236 rfl rfl⟩ mem0)
set_option maxRecDepth 100000 in
set_option pp.maxSteps 1500 in
theorem s_ContainsFunc : HSound Tryz.prog 229 (callM [] true hConF) := by
  refine callM_sound cx_s_ContainsFunc_ok mixed Tryz.func229 rfl fun args hl K hp => ?_
  unfold hConF at hp
  split at hp
  · rename_i t z L f
    obtain ⟨rfl, bs, rfl, hb, hp⟩ := hp
    refine And.intro rfl (Exists.intro bs (And.intro rfl (And.intro hb (And.intro (fun h => ?_) (fun h i => ?_)))))
    · rw [h] at hp
      exact hp
    · rw [h] at hp
      refine fin_b hp ?_
      exact (decide_eq_true (by omega : (i : Int) ≥ 0)).symm
  · exact hp.elim
def cx_s_words : Ctx := mkC [(229, callM [] true hConF), (230, callM [] false hNotW)]
theorem cx_s_words_ok : CtxOk Tryz.prog cx_s_words := mkC_ok (mem1 ⟨s_ContainsFunc, fnOk Tryz.func229 rfl rfl⟩ (mem1 ⟨s_words1, fnOk Tryz.func230 rfl rfl⟩ mem0))
set_option maxRecDepth 100000 in
set_option pp.maxSteps 1500 in
theorem s_words : HSound Tryz.prog 198 (callM [] true hWords) := by
  refine callM_sound cx_s_words_ok mixed Tryz.func198 rfl fun args hl K hp => ?_
  unfold hWords at hp
  split at hp
  · rename_i t z L
    obtain ⟨bs, rfl, hb, hp⟩ := hp
    refine And.intro rfl (Exists.intro bs (And.intro rfl (And.intro hb ?_)))
    refine fin_b hp (by simp)
  · exact hp.elim

def hCode : CH := fun args hl K => match args, hl with
  | [a], [] => ∃ m, MoV a m ∧ smMo m ∧ K (.v (.bool (codeB m))) []
  | _, _ => False
def cx_s_l4CodeOk : Ctx := mkC [(235, callM [] true hWords)]
theorem cx_s_l4CodeOk_ok : CtxOk Tryz.prog cx_s_l4CodeOk := mkC_ok (mem1 ⟨s_l4Words, fnOk Tryz.func235 rfl rfl⟩ mem0)
set_option maxRecDepth 100000 in
set_option pp.maxSteps 1500 in
set_option maxHeartbeats 4000000 in
theorem s_l4CodeOk : HSound Tryz.prog 222 (callM [] true hCode) := by
  refine callM_sound cx_s_l4CodeOk_ok mixed Tryz.func222 rfl fun args hl K hp => ?_
  unfold hCode at hp
  split at hp
  · rename_i a
    obtain ⟨m, ⟨b1, z1, b2, z2, b3, z3, b4, z4, b5, z5, b6, z6, rfl⟩, hb, hp⟩ := hp
    have g1 := hb.text
    repeat' ((first
      | refine And.intro (fun h1 => ?_) (fun h1 => ?_)
      | refine Exists.intro m.text (And.intro rfl (And.intro g1 ?_))
      | fail) <;> try cases h1)
    · have h1 := of_decide_eq_true h1
      rw [List.length_map] at h1
      refine fin_b hp ?_
      simp only [codeB, decide_eq_false (by omega : ¬ m.text.length ≤ 200), Bool.false_and]
    · have h1 := of_decide_eq_true h1
      rw [List.length_map] at h1
      refine fin_b hp ?_
      simp only [codeB, decide_eq_false (by omega : ¬ m.banks.length ≤ 4), Bool.false_and, Bool.and_false]
    · have h1 : wordsB m.text = false := by simpa using h1
      refine fin_b hp ?_
      simp only [codeB, h1, Bool.false_and, Bool.and_false]
    rename_i q1 q2
    have q1 := of_decide_eq_false q1
    have q2 := of_decide_eq_false q2
    rw [List.length_map] at q1 q2
    have q3 : wordsB m.text = true := by simpa using h1
    clear h1
    have e : codeB m = m.banks.all fun b => decide (1 ≤ b.length ∧ b.length ≤ 64) && wordsB b := by
      simp only [codeB, decide_eq_true (by omega : m.text.length ≤ 200), decide_eq_true (by omega : m.banks.length ≤ 4), q3, Bool.true_and]
    rw [e] at hp
    clear e
    refine Exists.intro true (Exists.intro [1, 3] (Exists.intro (fun n vs h => ∃ i : Nat, i ≤ m.banks.length ∧ n = m.banks.length - i ∧ (m.banks.take i).all (fun b => decide (1 ≤ b.length ∧ b.length ≤ 64) && wordsB b) = true ∧ vs = [.ptr 0 0 0 8, .v (.int .i64 i)] ∧ h = [.box (cellsM m b1 z1 b2 z2 b3 z3 b4 z4 b5 z5 b6 z6)]) (And.intro ?_ ?_)))
    · refine Exists.intro [] (Exists.intro m.banks.length ?_)
      exact ⟨0, by omega, rfl, rfl, rfl, rfl⟩
    · intro n vs h hI
      obtain ⟨i, hi, rfl, hall, rfl, rfl⟩ := hI
      refine And.intro (fun h1 => ?_) (fun h1 => ?_)
      · simp only [decide_eq_true_eq, List.length_map] at h1
        have hlt : i < m.banks.length := by omega
        obtain ⟨b, hbi⟩ : ∃ b, m.banks[i]? = some b := ⟨_, List.getElem?_eq_getElem hlt⟩
        have hbl := hb.bank b (List.mem_of_getElem? hbi)
        have hil : m.banks.length ≤ 1048576 := hb.banks
        refine Exists.intro i (And.intro rfl (Exists.intro (bankC b) (And.intro (get_map hbi) ?_)))
        repeat' ((first
          | refine And.intro (fun h2 => ?_) (fun h2 => ?_)
          | refine Exists.intro b (And.intro rfl (And.intro hbl ?_))
          | refine Exists.intro i (And.intro rfl (Exists.intro (bankC b) (And.intro (get_map hbi) ?_)))
          | fail) <;> try cases h2)
        · have h2 := of_decide_eq_true h2
          rw [List.length_map] at h2
          refine fin_b hp (all_bad hbi ?_)
          rw [decide_eq_false (by omega), Bool.false_and]
        · have h2 := of_decide_eq_true h2
          rw [List.length_map] at h2
          refine fin_b hp (all_bad hbi ?_)
          rw [decide_eq_false (by omega), Bool.false_and]
        · have h2 : wordsB b = false := by simpa using h2
          refine fin_b hp (all_bad hbi ?_)
          rw [h2, Bool.and_false]
        · rename_i r1 r2
          have r1 := of_decide_eq_false r1
          have r2 := of_decide_eq_false r2
          rw [List.length_map] at r1 r2
          have h2 : wordsB b = true := by simpa using h2
          refine Exists.intro [] (Exists.intro (m.banks.length - (i + 1)) (And.intro (by omega) ⟨i + 1, by omega, rfl, all_take hbi hall ?_, ?_, rfl⟩))
          · rw [h2, decide_eq_true (by omega)]
            rfl
          · rw [wrap_succ hlt (by omega)]
      · simp only [decide_eq_false_iff_not, List.length_map] at h1
        rw [List.take_of_length_le (by omega)] at hall
        exact fin_b hp hall
  · exact hp.elim

def hRelsOk : CH := fun args hl K => match args, hl with
  | [a], [] => ∃ m, MoV a m ∧ smMo m ∧ K (.v (.bool (relsB m.data.length m.rels))) []
  | _, _ => False
theorem relB_val {d i : Nat} {rs : List Int} {r : Int} (h : rs[i]? = some r) : relB d rs i = decide (0 ≤ r ∧ r.tmod 4 = 0 ∧ r ≤ (d : Int) - 4 ∧ (i = 0 ∨ rs.getD (i - 1) 0 < r)) := by
  simp only [relB, List.getD_eq_getElem?_getD, h, Option.getD_some]
def cx_s_l4RelocsOk : Ctx := mkC []
theorem cx_s_l4RelocsOk_ok : CtxOk Tryz.prog cx_s_l4RelocsOk := cx0_ok
set_option maxRecDepth 100000 in
set_option pp.maxSteps 1500 in
set_option maxHeartbeats 4000000 in
theorem s_l4RelocsOk : HSound Tryz.prog 223 (callM [] true hRelsOk) := by
  refine callM_sound cx_s_l4RelocsOk_ok mixed Tryz.func223 rfl fun args hl K hp => ?_
  unfold hRelsOk at hp
  split at hp
  · rename_i a
    obtain ⟨m, ⟨b1, z1, b2, z2, b3, z3, b4, z4, b5, z5, b6, z6, rfl⟩, hb, hp⟩ := hp
    have hd := hb.data
    have hrl := hb.rels
    refine And.intro (fun h1 => ?_) (fun h1 => ?_)
    · have h1 := of_decide_eq_true h1
      rw [List.length_map] at h1
      refine fin_b hp ?_
      simp only [relsB, decide_eq_false (by omega : ¬ m.rels.length ≤ 16), Bool.false_and]
    have h1 := of_decide_eq_false h1
    rw [List.length_map] at h1
    have e : relsB m.data.length m.rels = (List.range m.rels.length).all (relB m.data.length m.rels) := by
      simp only [relsB, decide_eq_true (by omega : m.rels.length ≤ 16), Bool.true_and]
    rw [e] at hp
    clear e
    refine Exists.intro true (Exists.intro [1, 3] (Exists.intro (fun n vs h => ∃ i : Nat, i ≤ m.rels.length ∧ n = m.rels.length - i ∧ (∀ k < i, relB m.data.length m.rels k = true) ∧ vs = [.ptr 0 0 0 8, .v (.int .i64 i)] ∧ h = [.box (cellsM m b1 z1 b2 z2 b3 z3 b4 z4 b5 z5 b6 z6)]) (And.intro ?_ ?_)))
    · refine Exists.intro [] (Exists.intro m.rels.length ?_)
      exact ⟨0, by omega, rfl, fun k hk => by omega, rfl, rfl⟩
    · intro n vs h hI
      obtain ⟨i, hi, rfl, hall, rfl, rfl⟩ := hI
      refine And.intro (fun h1 => ?_) (fun h1 => ?_)
      · simp only [decide_eq_true_eq, List.length_map] at h1
        have hlt : i < m.rels.length := by omega
        obtain ⟨r, hri⟩ : ∃ r, m.rels[i]? = some r := ⟨_, List.getElem?_eq_getElem hlt⟩
        have er := relB_val (d := m.data.length) hri
        have hw : IntKind.i64.wrap (((m.data.map byteC).length : Int) - 4) = (m.data.length : Int) - 4 := by rw [List.length_map]; exact wrap64 (by omega)
        refine Exists.intro i (And.intro rfl (Exists.intro (intC r) (And.intro (get_map hri) ?_)))
        have prev : 0 < i → ∃ q, m.rels[i - 1]? = some q ∧ m.rels.getD (i - 1) 0 = q := fun h0 => by
          obtain ⟨q, hq⟩ : ∃ q, m.rels[i - 1]? = some q := ⟨_, List.getElem?_eq_getElem (by omega)⟩
          exact ⟨q, hq, by simp [List.getD_eq_getElem?_getD, hq]⟩
        repeat' ((first
          | refine And.intro (fun h2 => ?_) (fun h2 => ?_)
          | refine And.intro (by decide) ?_
          | (obtain ⟨q, hq, hq2⟩ := prev (by simp only [decide_eq_true_eq] at *; omega)
             refine Exists.intro (i - 1) (And.intro (by rw [wrap64 (by omega)]; simp only [decide_eq_true_eq] at *; omega) (Exists.intro (intC q) (And.intro (get_map hq) ?_))))
          | fail) <;> try cases h2)
        all_goals clear prev
        all_goals rw [hw] at *
        all_goals simp only [decide_eq_true_eq, decide_eq_false_iff_not, bne_iff_ne, ne_eq, bne_eq_false_iff_eq, Decidable.not_not] at *
        all_goals first
          | (refine fin_b hp (range_bad hlt ?_)
             rw [er]
             refine decide_eq_false ?_
             omega)
          | (refine Exists.intro [] (Exists.intro (m.rels.length - (i + 1)) (And.intro (by omega) ⟨i + 1, by omega, rfl, lt_step hall ?_, ?_, rfl⟩))
             · rw [er]
               refine decide_eq_true ?_
               omega
             · rw [wrap_succ hlt (by omega)])
      · simp only [decide_eq_false_iff_not, List.length_map] at h1
        have : i = m.rels.length := by omega
        subst this
        exact fin_b hp (range_all hall)
  · exact hp.elim

/-! ### Pieces and exports -/

def hPiece : CH := fun args hl K => match args, hl with
  | [a, .v (.int .i64 b)], [] => ∃ m, MoV a m ∧ smMo m ∧ (match pieceOf m b with | some ws => ∀ t z, K (.tup [.imm t z 1 (ws.map intC), .v (.bool true)]) [] | none => K (.tup [.slc 0 0 0 false, .v (.bool false)]) [.lst 1 []])
  | _, _ => False
def cx_s_l4Piece : Ctx := mkC []
theorem cx_s_l4Piece_ok : CtxOk Tryz.prog cx_s_l4Piece := cx0_ok
set_option maxRecDepth 100000 in
set_option pp.maxSteps 1500 in
set_option maxHeartbeats 4000000 in
theorem s_l4Piece : HSound Tryz.prog 91 (callM [] false hPiece) := by
  refine callM_sound cx_s_l4Piece_ok mixed Tryz.func91 rfl fun args hl K hp => ?_
  unfold hPiece at hp
  split at hp
  · rename_i a b
    obtain ⟨m, ⟨b1, z1, b2, z2, b3, z3, b4, z4, b5, z5, b6, z6, rfl⟩, hb, hp⟩ := hp
    refine Or.inl ?_
    refine And.intro (fun h1 => ?_) (fun h1 => ?_)
    · have h1 : b = -1 := by simpa using h1
      rw [show pieceOf m b = some m.text from if_pos h1] at hp
      exact hp b1 z1
    · have h1 : ¬ b = -1 := by simpa using h1
      have e : pieceOf m b = if 0 ≤ b ∧ b < m.banks.length then m.banks[b.toNat]? else none := if_neg h1
      rw [e] at hp
      clear e
      have bad : ¬ (0 ≤ b ∧ b < m.banks.length) → K (.tup [.slc 0 0 0 false, .v (.bool false)]) [.lst 1 []] := fun h => by
        rw [if_neg h] at hp
        exact hp
      refine And.intro (fun h2 => ?_) (fun h2 => ?_)
      · refine And.intro (fun h3 => ?_) (fun h3 => by cases h3)
        refine And.intro (fun h4 => ?_) (fun h4 => by cases h4)
        have h2 := of_decide_eq_true h2
        refine And.intro closed_nil ?_
        exact bad (by omega)
      · have h2 := of_decide_eq_false h2
        refine And.intro (fun h3 => by cases h3) (fun h3 => ?_)
        refine And.intro (fun h4 => ?_) (fun h4 => ?_)
        · have h4 := of_decide_eq_true h4
          rw [List.length_map] at h4
          refine And.intro closed_nil ?_
          exact bad (by omega)
        · have h4 := of_decide_eq_false h4
          rw [List.length_map] at h4
          obtain ⟨j, rfl⟩ := Int.eq_ofNat_of_zero_le (by omega : 0 ≤ b)
          have hlt : j < m.banks.length := by omega
          have hg : m.banks[j]? = some m.banks[j] := List.getElem?_eq_getElem hlt
          rw [if_pos (by omega), Int.toNat_natCast, hg] at hp
          refine Exists.intro j (And.intro rfl (Exists.intro (bankC m.banks[j]) (And.intro (get_map hg) ?_)))
          exact hp b2 false
  · exact hp.elim

def hExpsOk : CH := fun args hl K => match args, hl with
  | [a], [] => ∃ m, MoV a m ∧ smMo m ∧ K (.v (.bool (expsB m))) []
  | _, _ => False
theorem expB_val {m : Mo} {i : Nat} {e : Ex} (h : m.exps[i]? = some e) : expB m i = (goodE m e && (m.exps.take i).all (fun q => decide (q.n ≠ e.n))) := by
  simp only [expB, h]
def cx_s_l4ExportsOk : Ctx := mkC [(91, callM [] false hPiece), (221, callM [] false hName)]
theorem cx_s_l4ExportsOk_ok : CtxOk Tryz.prog cx_s_l4ExportsOk := mkC_ok (mem1 ⟨s_l4Piece, fnOk Tryz.func91 rfl rfl⟩ (mem1 ⟨s_l4NameOk, fnOk Tryz.func221 rfl rfl⟩ mem0))
set_option maxRecDepth 100000 in
set_option pp.maxSteps 1500 in
set_option maxHeartbeats 8000000 in
theorem s_l4ExportsOk : HSound Tryz.prog 225 (callM [] true hExpsOk) := by
  refine callM_sound cx_s_l4ExportsOk_ok mixed Tryz.func225 rfl fun args hl K hp => ?_
  unfold hExpsOk at hp
  split at hp
  · rename_i a
    obtain ⟨m, ⟨b1, z1, b2, z2, b3, z3, b4, z4, b5, z5, b6, z6, rfl⟩, hb, hp⟩ := hp
    have hex := hb.exps
    refine And.intro (fun h1 => ?_) (fun h1 => ?_)
    · have h1 := of_decide_eq_true h1
      rw [List.length_map] at h1
      refine fin_b hp ?_
      simp only [expsB, decide_eq_false (by omega : ¬ m.exps.length ≤ 16), Bool.false_and]
    have h1 := of_decide_eq_false h1
    rw [List.length_map] at h1
    have e : expsB m = (List.range m.exps.length).all (expB m) := by
      simp only [expsB, decide_eq_true (by omega : m.exps.length ≤ 16), Bool.true_and]
    rw [e] at hp
    clear e
    refine Exists.intro true (Exists.intro [1, 3] (Exists.intro (fun n vs h => ∃ i : Nat, i ≤ m.exps.length ∧ n = m.exps.length - i ∧ (∀ k < i, expB m k = true) ∧ vs = [.ptr 0 0 0 8, .v (.int .i64 i)] ∧ h = [.box (cellsM m b1 z1 b2 z2 b3 z3 b4 z4 b5 z5 b6 z6)]) (And.intro ?_ ?_)))
    · refine Exists.intro [] (Exists.intro m.exps.length ?_)
      exact ⟨0, by omega, rfl, fun k hk => by omega, rfl, rfl⟩
    intro n vs h hI
    obtain ⟨i, hi, rfl, hall, rfl, rfl⟩ := hI
    refine And.intro (fun h1 => ?_) (fun h1 => ?_)
    · simp only [decide_eq_true_eq, List.length_map] at h1
      have hlt : i < m.exps.length := by omega
      obtain ⟨e, hei⟩ : ∃ e, m.exps[i]? = some e := ⟨_, List.getElem?_eq_getElem hlt⟩
      have ee := expB_val hei
      have hen := hb.exp e (List.mem_of_getElem? hei)
      refine Exists.intro i (And.intro rfl (Exists.intro (exC e) (And.intro (get_map hei) ?_)))
      refine Exists.intro m (And.intro ⟨_, _, _, _, _, _, _, _, _, _, _, _, rfl⟩ (And.intro hb ?_))
      have loop : goodE m e = true → ∀ (T : TS) (H : HP), True := fun _ _ _ => trivial
      clear loop
      cases hpc : pieceOf m e.bank with
      | none =>
        have bad : K (.v (.bool false)) [] := by
          refine fin_b hp (range_bad hlt ?_)
          rw [ee]
          simp only [goodE, hpc, Bool.and_false, Bool.false_and]
        clear hp
        refine And.intro hen ?_
        repeat' ((first
          | refine And.intro (fun h2 => ?_) (fun h2 => ?_)
          | fail) <;> try cases h2)
        all_goals exact bad
      | some ws =>
        have eg : goodE m e = (nameOk e.n && decide (0 ≤ e.pos ∧ e.pos < ws.length)) := by
          simp only [goodE, hpc]
        intro t z
        refine And.intro hen ?_
        repeat' ((first
          | refine And.intro (fun h2 => ?_) (fun h2 => ?_)
          | fail) <;> try cases h2)
        · have h2 : nameOk e.n = false := by simpa using h2
          refine fin_b hp (range_bad hlt ?_)
          rw [ee, eg, h2, Bool.false_and, Bool.false_and]
        · have h2 := of_decide_eq_true h2
          refine fin_b hp (range_bad hlt ?_)
          rw [ee, eg, decide_eq_false (by omega : ¬ (0 ≤ e.pos ∧ e.pos < ws.length)), Bool.and_false, Bool.false_and]
        · have h2 := of_decide_eq_true h2
          rw [List.length_map] at h2
          refine fin_b hp (range_bad hlt ?_)
          rw [ee, eg, decide_eq_false (by omega : ¬ (0 ≤ e.pos ∧ e.pos < ws.length)), Bool.and_false, Bool.false_and]
        rename_i q1 q2
        have q1 : nameOk e.n = true := by simpa using q1
        have q2 := of_decide_eq_false q2
        have h2 := of_decide_eq_false h2
        rw [List.length_map] at h2
        rw [q1, decide_eq_true (by omega), Bool.true_and] at eg
        rw [eg, Bool.true_and] at ee
        refine Exists.intro true (Exists.intro [1, 3, 4, 7] (Exists.intro (fun n vs h => ∃ k : Nat, k ≤ i ∧ n = i - k ∧ (m.exps.take k).all (fun q => decide (q.n ≠ e.n)) = true ∧ vs = [.ptr 0 0 0 8, .v (.int .i64 i), .ptr 1 0 0 3, .v (.int .i64 k)] ∧ h = [.box (cellsM m b1 z1 b2 z2 b3 z3 b4 z4 b5 z5 b6 z6), .box (exC e)]) (And.intro ?_ ?_)))
        · refine Exists.intro [] (Exists.intro i ?_)
          exact ⟨0, by omega, rfl, rfl, rfl, rfl⟩
        intro n vs h hI
        obtain ⟨k, hk, rfl, hak, rfl, rfl⟩ := hI
        refine And.intro (fun h3 => ?_) (fun h3 => ?_)
        · have h3 := of_decide_eq_true h3
          have hkl : k < m.exps.length := by omega
          obtain ⟨q, hqk⟩ : ∃ q, m.exps[k]? = some q := ⟨_, List.getElem?_eq_getElem hkl⟩
          have htk : (m.exps.take i)[k]? = some q := by rw [List.getElem?_take, if_pos (by omega), hqk]
          refine And.intro (show Region.lexB _ _ = true from by kernel_rfl) ?_
          refine Exists.intro k (And.intro rfl (Exists.intro (exC q) (And.intro (get_map hqk) ?_)))
          refine And.intro (fun h4 => ?_) (fun h4 => ?_)
          · have h4 : q.n = e.n := by
              rw [sEq_iff] at h4
              simpa using h4
            refine fin_b hp (range_bad hlt ?_)
            rw [ee]
            exact all_bad htk (by simp [h4])
          · have h4 : ¬ q.n = e.n := by
              rw [sEq_iff] at h4
              simpa using h4
            refine Exists.intro [] (Exists.intro (i - (k + 1)) (And.intro (by omega) ⟨k + 1, by omega, rfl, all_take hqk hak (by simp [h4]), ?_, rfl⟩))
            rw [wrap_succ hkl (by omega)]
        · have h3 := of_decide_eq_false h3
          have : k = i := by omega
          subst this
          refine Exists.intro [] (Exists.intro (m.exps.length - (k + 1)) (And.intro (by omega) ⟨k + 1, by omega, rfl, lt_step hall (by rw [ee]; exact hak), ?_, rfl⟩))
          rw [wrap_succ hlt (by omega)]
    · simp only [decide_eq_false_iff_not, List.length_map] at h1
      have : i = m.exps.length := by omega
      subst this
      exact fin_b hp (range_all hall)
  · exact hp.elim

/-! ### The whole -/

def hModOk : CH := fun args hl K => match args, hl with
  | [a], [] => ∃ m, MoV a m ∧ smMo m ∧ K (.v (.int .i64 (modOk m))) []
  | _, _ => False
def cx_s_spec_ModuleOk : Ctx := mkC [(221, callM [] false hName), (222, callM [] true hCode), (223, callM [] true hRelsOk), (224, callM [] false hFull), (225, callM [] true hExpsOk)]
theorem cx_s_spec_ModuleOk_ok : CtxOk Tryz.prog cx_s_spec_ModuleOk := mkC_ok (mem1 ⟨s_l4NameOk, fnOk Tryz.func221 rfl rfl⟩ (mem1 ⟨s_l4CodeOk, fnOk Tryz.func222 rfl rfl⟩ (mem1 ⟨s_l4RelocsOk, fnOk Tryz.func223 rfl rfl⟩ (mem1 ⟨s_l4FullOk, fnOk Tryz.func224 rfl rfl⟩ (mem1 ⟨s_l4ExportsOk, fnOk Tryz.func225 rfl rfl⟩ mem0)))))
set_option maxRecDepth 100000 in
set_option pp.maxSteps 1500 in
set_option maxHeartbeats 8000000 in
theorem s_spec_ModuleOk : HSound Tryz.prog 194 (callM [] true hModOk) := by
  refine callM_sound cx_s_spec_ModuleOk_ok mixed Tryz.func194 rfl fun args hl K hp => ?_
  unfold hModOk at hp
  split at hp
  · rename_i a
    obtain ⟨m, ⟨b1, z1, b2, z2, b3, z3, b4, z4, b5, z5, b6, z6, rfl⟩, hb, hp⟩ := hp
    have him := hb.imps
    refine And.intro hb.name ?_
    refine And.intro (fun h => ?_) (fun h => ?_)
    · have h : nameOk m.name = false := by simpa using h
      exact fin_i hp (by simp only [modOk, h, if_true])
    have e1 : nameOk m.name = true := by simpa using h
    clear h
    refine Exists.intro m (And.intro ⟨_, _, _, _, _, _, _, _, _, _, _, _, rfl⟩ (And.intro hb ?_))
    refine And.intro (fun h => ?_) (fun h => ?_)
    · have h : codeB m = false := by simpa using h
      exact fin_i hp (by simp only [modOk, e1, h, if_true, Bool.true_eq_false, if_false])
    have e2 : codeB m = true := by simpa using h
    clear h
    repeat' ((first
      | refine And.intro (fun h2 => ?_) (fun h2 => ?_)
      | fail) <;> try cases h2)
    · have h2 := of_decide_eq_true h2
      rw [List.length_map] at h2
      have : restB m = false := by simp only [restB, decide_eq_false (by omega : ¬ m.data.length ≤ 512), Bool.false_and]
      exact fin_i hp (by simp only [modOk, e1, e2, this, if_true, Bool.true_eq_false, if_false])
    · have h2 := of_decide_eq_true h2
      have : restB m = false := by simp only [restB, decide_eq_false (by omega : ¬ 0 ≤ m.bss), Bool.false_and, Bool.and_false]
      exact fin_i hp (by simp only [modOk, e1, e2, this, if_true, Bool.true_eq_false, if_false])
    · have h2 := of_decide_eq_true h2
      have : restB m = false := by simp only [restB, decide_eq_false (by omega : ¬ m.bss ≤ 512), Bool.false_and, Bool.and_false]
      exact fin_i hp (by simp only [modOk, e1, e2, this, if_true, Bool.true_eq_false, if_false])
    rename_i q1 q2
    have q1 := of_decide_eq_false q1
    have q2 := of_decide_eq_false q2
    have h2 := of_decide_eq_false h2
    rw [List.length_map] at q1
    have e3 : restB m = true := by simp only [restB, decide_eq_true (by omega : m.data.length ≤ 512), decide_eq_true (by omega : m.bss ≤ 512), decide_eq_true (by omega : 0 ≤ m.bss), Bool.and_true]
    refine Exists.intro m (And.intro ⟨_, _, _, _, _, _, _, _, _, _, _, _, rfl⟩ (And.intro hb ?_))
    refine And.intro (fun h => ?_) (fun h => ?_)
    · have h : relsB m.data.length m.rels = false := by simpa using h
      exact fin_i hp (by simp only [modOk, e1, e2, e3, h, if_true, Bool.true_eq_false, if_false])
    have e4 : relsB m.data.length m.rels = true := by simpa using h
    clear h
    have f5 : impsB m = false → modOk m = 5 := fun h => by simp only [modOk, e1, e2, e3, e4, h, if_true, Bool.true_eq_false, if_false]
    refine And.intro (fun h => ?_) (fun h => ?_)
    · have h := of_decide_eq_true h
      rw [List.length_map] at h
      exact fin_i hp (f5 (by simp only [impsB, decide_eq_false (by omega : ¬ m.imps.length ≤ 16), Bool.false_and]))
    have h := of_decide_eq_false h
    rw [List.length_map] at h
    have ei : impsB m = m.imps.all fullOk := by simp only [impsB, decide_eq_true (by omega : m.imps.length ≤ 16), Bool.true_and]
    rw [ei] at f5
    refine Exists.intro true (Exists.intro [1, 3] (Exists.intro (fun n vs h => ∃ i : Nat, i ≤ m.imps.length ∧ n = m.imps.length - i ∧ (m.imps.take i).all fullOk = true ∧ vs = [.ptr 0 0 0 8, .v (.int .i64 i)] ∧ h = [.box (cellsM m b1 z1 b2 z2 b3 z3 b4 z4 b5 z5 b6 z6)]) (And.intro ?_ ?_)))
    · refine Exists.intro [] (Exists.intro m.imps.length ?_)
      exact ⟨0, by omega, rfl, rfl, rfl, rfl⟩
    intro n vs h hI
    obtain ⟨i, hi, rfl, hall, rfl, rfl⟩ := hI
    refine And.intro (fun h1 => ?_) (fun h1 => ?_)
    · simp only [decide_eq_true_eq, List.length_map] at h1
      have hlt : i < m.imps.length := by omega
      obtain ⟨s, hsi⟩ : ∃ s, m.imps[i]? = some s := ⟨_, List.getElem?_eq_getElem hlt⟩
      have hss := hb.imp s (List.mem_of_getElem? hsi)
      refine Exists.intro i (And.intro rfl (Exists.intro (strC s) (And.intro (get_map hsi) ?_)))
      refine And.intro hss ?_
      refine And.intro (fun h3 => ?_) (fun h3 => ?_)
      · exact fin_i hp (f5 (all_bad hsi (by simpa using h3)))
      · refine Exists.intro [] (Exists.intro (m.imps.length - (i + 1)) (And.intro (by omega) ⟨i + 1, by omega, rfl, all_take hsi hall (by simpa using h3), ?_, rfl⟩))
        rw [wrap_succ hlt (by omega)]
    · simp only [decide_eq_false_iff_not, List.length_map] at h1
      rw [List.take_of_length_le (by omega)] at hall
      have e5 : impsB m = true := by rw [ei]; exact hall
      refine Exists.intro m (And.intro ⟨_, _, _, _, _, _, _, _, _, _, _, _, rfl⟩ (And.intro hb ?_))
      refine And.intro (fun h3 => ?_) (fun h3 => ?_)
      · have h3 : expsB m = false := by simpa using h3
        exact fin_i hp (by simp only [modOk, e1, e2, e3, e4, e5, h3, if_true, Bool.true_eq_false, if_false])
      · have h3 : expsB m = true := by simpa using h3
        exact fin_i hp (by simp only [modOk, e1, e2, e3, e4, e5, h3, Bool.true_eq_false, if_false])
  · exact hp.elim
end Go.Proofs.YtbfjkjdbdejnmaaGreat.Ab
