/- Resolve of impl: the table of names. No condition. -/
import Derived.Test.YtijjonafmmhhbaaTRes2
namespace Go.Proofs.Ytijjonafmmhhbaa.Ab
set_option linter.unusedVariables false
set_option linter.unusedSimpArgs false

def hNames : CH := fun args hl K => match args, hl with
  | [.imm _ _ 8 L], [] => ∃ ms : List Mo, L = ms.map moC ∧ ms.length ≤ 1048576 ∧ (∀ m ∈ ms, smMo m) ∧ ∀ M, (∀ q, mapFind (.s q) M = (namesP ms ms.length q).map tgtV) → K (.mapr 0) [.mp 0 M]
  | _, _ => False
theorem seen_step {ms : List Mo} {i : Nat} {m : Mo} (hm : ms[i]? = some m) (q : ByteArray) : seenB ms (i + 1) q = (seenB ms i q || decide (m.name = q)) := by
  unfold seenB
  rw [List.take_add_one, hm]
  simp
theorem or_none_of {α : Type} {o : Option α} (x : α) (h : o = none) : o.or (some x) = some x := by rw [h]; rfl
def cx_s_namesOf : Ctx := mkC []
theorem cx_s_namesOf_ok : CtxOk Try.prog cx_s_namesOf := cx0_ok
set_option maxRecDepth 100000 in
set_option pp.maxSteps 1500 in
set_option maxHeartbeats 4000000 in
theorem s_namesOf : HSound Try.prog 76 (callM [] false hNames) := by
  refine callM_sound cx_s_namesOf_ok mixed Try.func76 rfl fun args hl K hp => ?_
  unfold hNames at hp
  split at hp
  · rename_i t z L
    obtain ⟨ms, rfl, hlen, hsm, hp⟩ := hp
    refine Exists.intro true (Exists.intro [3, 4, 14, 15, 16] (Exists.intro (fun m vs h => ∃ (i : Nat) (M S : List (MK × Value)), i ≤ ms.length ∧ m = ms.length - i ∧ (∀ q, mapFind (.s q) M = (namesP ms i q).map tgtV) ∧ (∀ q, mapFind (.s q) S = match seenB ms i q with | true => some (.bool true) | false => none) ∧ vs = [.mapr 0, .mapr 1, .imm t z 8 (ms.map moC), .v (.int .i64 ms.length), .v (.int .i64 i)] ∧ h = [.mp 0 M, .mp 0 S]) (And.intro ?_ ?_)))
    · refine Exists.intro [] (Exists.intro ms.length ?_)
      exact ⟨0, [], [], by omega, rfl, fun q => rfl, fun q => rfl, by rw [List.length_map]; rfl, rfl⟩
    intro m vs h hI
    obtain ⟨i, M, S, hi, rfl, hM, hS, rfl, rfl⟩ := hI
    refine And.intro (fun h1 => ?_) (fun h1 => ?_)
    · have h1 := of_decide_eq_true h1
      have hlt : i < ms.length := by omega
      obtain ⟨m, hm⟩ : ∃ m, ms[i]? = some m := ⟨_, List.getElem?_eq_getElem hlt⟩
      have hmm := hsm m (List.mem_of_getElem? hm)
      refine Exists.intro i (And.intro rfl (Exists.intro (moC m) (And.intro (get_map hm) ?_)))
      have hwi : IntKind.wrap .i64 ((i : Int) + 1) = ((i + 1 : Nat) : Int) := wrap_succ hlt (by omega)
      refine And.intro (fun v hv => ?_) (fun hv => ?_)
      · rw [hS] at hv
        have hsn : seenB ms i m.name = true := by
          cases hh : seenB ms i m.name with
          | true => rfl
          | false => rw [hh] at hv; cases hv
        rw [hsn] at hv
        cases hv
        refine And.intro (fun h2 => ?_) (fun h2 => by cases h2)
        refine Exists.intro [] (Exists.intro (ms.length - (i + 1)) (And.intro (by omega) ⟨i + 1, M, S, by omega, rfl, fun q => ?_, fun q => ?_, by rw [hwi], rfl⟩))
        · rw [hM, namesP, hm]
          simp only [hsn, Option.or_none]
        · rw [hS, seen_step hm]
          by_cases hq : m.name = q
          · subst hq
            rw [hsn]
            rfl
          · rw [decide_eq_false hq, Bool.or_false]
      · rw [hS] at hv
        have hsn : seenB ms i m.name = false := by
          cases hh : seenB ms i m.name with
          | false => rfl
          | true => rw [hh] at hv; cases hv
        clear hv
        refine And.intro (fun h2 => by cases h2) (fun h2 => ?_)
        have hS' : ∀ q, mapFind (.s q) (mapSet (.s m.name) (.bool true) S) = match seenB ms (i + 1) q with | true => some (.bool true) | false => none := by
          intro q
          rw [mapFind_set, hS, seen_step hm]
          by_cases hq : m.name = q
          · subst hq
            simp [hsn]
          · rw [if_neg (by simpa using hq), decide_eq_false hq, Bool.or_false]
        have hN : ∀ q, namesP ms (i + 1) q = (namesP ms i q).or ((findKey q m.name m.exps).map fun e => (i, e)) := by
          intro q
          rw [namesP, hm]
          simp only [hsn]
        refine Exists.intro true (Exists.intro [3, 4, 5, 6, 14, 15, 16, 29, 30, 31] (Exists.intro (fun m' vs h => ∃ (j : Nat) (M : List (MK × Value)), j ≤ m.exps.length ∧ m' = m.exps.length - j ∧ (∀ q, mapFind (.s q) M = ((namesP ms i q).or ((findKey q m.name (m.exps.take j)).map fun e => (i, e))).map tgtV) ∧ vs = [.mapr 0, .mapr 1, .v (.int .i64 i), .ptr 2 0 0 8, .imm t z 8 (ms.map moC), .v (.int .i64 ms.length), .v (.int .i64 i), .imm t false 3 (m.exps.map exC), .v (.int .i64 m.exps.length), .v (.int .i64 j)] ∧ h = [.mp 0 M, .mp 0 (mapSet (.s m.name) (.bool true) S), .box [.v (.string m.name), .imm t false 1 (m.text.map intC), .imm t false 1 (m.banks.map bankC), .imm t false 1 (m.data.map byteC), .v (.int .i64 m.bss), .imm t false 1 (m.rels.map intC), .imm t false 1 (m.imps.map strC), .imm t false 3 (m.exps.map exC)]]) (And.intro ?_ ?_)))
        · refine Exists.intro [] (Exists.intro m.exps.length ?_)
          refine ⟨0, M, by omega, rfl, fun q => ?_, by rw [List.length_map]; rfl, rfl⟩
          rw [hM]
          simp [findKey]
        intro m' vs h hI
        obtain ⟨j, M, hj, rfl, hM, rfl, rfl⟩ := hI
        refine And.intro (fun h3 => ?_) (fun h3 => ?_)
        · have h3 := of_decide_eq_true h3
          have hjl : j < m.exps.length := by omega
          obtain ⟨e, he⟩ : ∃ e, m.exps[j]? = some e := ⟨_, List.getElem?_eq_getElem hjl⟩
          have hee := hmm.exp e (List.mem_of_getElem? he)
          have hnn := hmm.name
          have hd1 : ({ data := #[46] } : ByteArray).size = 1 := rfl
          have hst := fun q => key_step (q := q) (nm := m.name) he
          have hwj : IntKind.wrap .i64 ((j : Int) + 1) = ((j + 1 : Nat) : Int) := wrap_succ hjl (by have := hmm.exps; omega)
          refine Exists.intro j (And.intro rfl (Exists.intro (exC e) (And.intro (get_map he) ?_)))
          refine And.intro (by omega) ?_
          refine And.intro (by rw [ByteArray.size_append]; omega) ?_
          refine And.intro (fun v hv => ?_) (fun hv => ?_)
          · have hv' : mapFind (.s (keyOf m.name e)) M = some v := hv
            rw [hM] at hv'
            obtain ⟨p, hp1, rfl⟩ := Option.map_eq_some_iff.1 hv'
            refine And.intro (fun h4 => by cases h4) (fun h4 => ?_)
            refine Exists.intro [] (Exists.intro (m.exps.length - (j + 1)) (And.intro (by omega) ⟨j + 1, M, by omega, rfl, fun q => ?_, by rw [hwj], rfl⟩))
            rw [hM, hst]
            by_cases hq : keyOf m.name e = q
            · subst hq
              rw [hp1]
              cases h5 : namesP ms i (keyOf m.name e) with
              | some x =>
                rw [h5] at hp1
                simp only [Option.some_or] at hp1 ⊢
                rw [hp1]
              | none =>
                rw [h5] at hp1
                simp only [Option.none_or] at hp1 ⊢
                obtain ⟨y, hy, hyp⟩ := Option.map_eq_some_iff.1 hp1
                rw [hy]
                simp only [Option.some_or, Option.map_some, hyp]
            · rw [decide_eq_false hq]
              simp only [Option.or_none]
          · have hv' : mapFind (.s (keyOf m.name e)) M = none := hv
            rw [hM] at hv'
            have hv2 := Option.map_eq_none_iff.1 hv'
            refine And.intro (fun h4 => ?_) (fun h4 => by cases h4)
            refine Exists.intro [] (Exists.intro (m.exps.length - (j + 1)) (And.intro (by omega) ⟨j + 1, mapSet (.s (keyOf m.name e)) (tgtV (i, e)) M, by omega, rfl, fun q => ?_, by rw [hwj], rfl⟩))
            rw [mapFind_set, hM, hst]
            by_cases hq : keyOf m.name e = q
            · subst hq
              rw [if_pos rfl]
              rw [Option.or_eq_none_iff, Option.map_eq_none_iff] at hv2
              rw [hv2.1, hv2.2]
              simp
            · rw [if_neg (by simpa using hq), decide_eq_false hq]
              simp only [Option.or_none]
        · have h3 := of_decide_eq_false h3
          rw [List.take_of_length_le (by omega)] at hM
          refine Exists.intro [] (Exists.intro (ms.length - (i + 1)) (And.intro (by omega) ⟨i + 1, M, mapSet (.s m.name) (.bool true) S, by omega, rfl, fun q => ?_, hS', by rw [hwi], rfl⟩))
          rw [hM, hN]
    · have h1 := of_decide_eq_false h1
      have : i = ms.length := by omega
      subst this
      exact hp M hM
  · exact hp.elim

end Go.Proofs.Ytijjonafmmhhbaa.Ab
