/- EncodeModule of spec. No condition. -/
import Derived.Test.YtegcfogbdgmajaaTEnc1
namespace Go.Proofs.Ytegcfogbdgmajaa.Ab
set_option linter.unusedVariables false
set_option linter.unusedSimpArgs false

def hEncM : CH := fun args hl K => match args, hl with
  | [a], [] => ∃ m, MoV a m ∧ smMo m ∧ K (.slc 0 0 (encodeF m).length false) [.lst 1 ((encodeF m).map byteC)]
  | _, _ => False
theorem join_l {x : AV} {r n n' : Nat} {vs : List AV} (h : n = n') : (x :: .slc r 0 n false :: vs) = (x :: .slc r 0 n' false :: vs) := by rw [h]
theorem lendN (v : Int) (S : Nat) : List.take S (List.drop 0 ((numB v S).map byteC)) = (numB v S).map byteC := by rw [List.drop_zero, List.take_of_length_le (by rw [List.length_map, num_len]; exact Nat.le_refl _)]
def cx_s_spec_EncodeM : Ctx := mkCut [(58, callM [] true hModOk), (125, callM [] false hText), (126, callM [] true hList), (127, callM [] false hNumB)]
theorem cx_s_spec_EncodeM_ok : CtxOk Try.prog cx_s_spec_EncodeM := mkCut_ok (mem1 ⟨s_spec_ModuleOk, fnOk Try.func58 rfl rfl⟩ (mem1 ⟨s_l4Text, fnOk Try.func125 rfl rfl⟩ (mem1 ⟨s_l4List, fnOk Try.func126 rfl rfl⟩ (mem1 ⟨s_l4Num, fnOk Try.func127 rfl rfl⟩ mem0))))
set_option maxRecDepth 100000 in
set_option pp.maxSteps 1500 in
set_option maxHeartbeats 16000000 in
theorem s_spec_EncodeM : HSound Try.prog 62 (callM [] true hEncM) := by
  refine callM_sound cx_s_spec_EncodeM_ok mixed Try.func62 rfl fun args hl K hp => ?_
  unfold hEncM at hp
  split at hp
  · rename_i a
    obtain ⟨m, ⟨b1, z1, b2, z2, b3, z3, b4, z4, b5, z5, b6, z6, rfl⟩, hb, hp⟩ := hp
    refine Or.inl ?_
    refine Or.inl ?_
    refine Exists.intro m (And.intro ⟨_, _, _, _, _, _, _, _, _, _, _, _, rfl⟩ (And.intro hb ?_))
    refine And.intro (fun h => ?_) (fun h => ?_)
    · have h : ¬ modOk m = 0 := by simpa using h
      rw [show encodeF m = [] from if_neg h] at hp
      refine And.intro closed_nil ?_
      exact hp
    have h : modOk m = 0 := by simpa using h
    have g := good_of h
    rw [show encodeF m = encM m from if_pos h] at hp
    clear h
    obtain ⟨g1, g2, g3, g4, g5, g6, g7, g8, g9, g10, g11, g12, g13⟩ := g
    refine And.intro (by omega) ?_
    have lt := text_len m.name
    refine Exists.intro _ (And.intro (lendD byteC (textB m.name)) (And.intro (lenB _) (And.intro (bytes_notSl _) ?_)))
    refine And.intro rfl (And.intro (by rw [lenB]; simp only [List.length_cons, List.length_nil]; omega) (And.intro (by rw [lenB]; simp only [List.length_cons, List.length_nil]; omega) ?_))
    have ll := list_len m.text
    have hbl := g4
    refine Or.inr (Exists.intro true (Exists.intro [1, 3] (Exists.intro (fun vs h => vs = [.ptr 0 0 0 8, .slc 1 0 (enc1 m).length false] ∧ h = [.box (cellsM m b1 z1 b2 z2 b3 z3 b4 z4 b5 z5 b6 z6), .lst 1 ((enc1 m).map byteC)]) (And.intro ?_ ?_))))
    · refine Or.inr ?_
      have n1 : (numB (List.map bankC m.banks).length 1).length = 1 := num_len _ _
      repeat' (first
        | refine Exists.intro m.text (And.intro rfl (And.intro g3 (And.intro hb.text ?_)))
        | refine Exists.intro 1 (And.intro rfl (And.intro (Or.inl rfl) (And.intro (by omega) (And.intro (by rw [List.length_map]; omega) ?_))))
        | refine Exists.intro _ (And.intro (lendD byteC _) (And.intro (by simp only [List.length_map, num_len]; done) (And.intro (bytes_notSl _) (And.intro (by simp only [List.length_append, List.length_map, num_len]; first | done | rfl | omega) (And.intro (by simp only [List.length_append, List.length_map, num_len, List.length_cons, List.length_nil]; omega) (And.intro (by simp only [List.length_append, List.length_map, num_len, List.length_cons, List.length_nil]; omega) ?_))))))
        | refine Exists.intro _ (And.intro (lendN _ _) (And.intro (by simp only [List.length_map, num_len]; done) (And.intro (bytes_notSl _) (And.intro (by simp only [List.length_append, List.length_map, num_len]; first | done | rfl | omega) (And.intro (by simp only [List.length_append, List.length_map, num_len, List.length_cons, List.length_nil]; omega) (And.intro (by simp only [List.length_append, List.length_map, num_len, List.length_cons, List.length_nil]; omega) ?_))))))
        | refine And.intro ?_ ?_
        | fail)
      all_goals first
        | exact rfl
        | (refine Exists.intro [] ?_
           refine And.intro (closed_app (closed_app (closed_app (closed_bytes [88, 77]) (closed_bytes _)) (closed_bytes _)) (closed_bytes _)) ?_
           refine And.intro (join_l ?_) ?_
           · simp only [enc1, List.length_append, List.length_map, num_len]
             rfl
           · simp only [enc1, List.map_append, List.length_map]
             rfl)
    rintro vs h ⟨rfl, rfl⟩
    have hX : (enc1 m).length ≤ 1000 := by simp only [enc1, List.length_append, num_len, List.length_cons, List.length_nil]; omega
    rw [show encM m = enc1 m ++ (m.banks.flatMap listB ++ enc2 m) from rfl] at hp
    generalize enc1 m = X at *

    -- m.banks
    refine Exists.intro true (Exists.intro [1, 3, 4] (Exists.intro (fun n vs h => ∃ i : Nat, i ≤ m.banks.length ∧ n = m.banks.length - i ∧ vs = [.ptr 0 0 0 8, .slc 1 0 (X ++ (m.banks.take i).flatMap listB).length false, .v (.int .i64 i)] ∧ h = [.box (cellsM m b1 z1 b2 z2 b3 z3 b4 z4 b5 z5 b6 z6), .lst 1 ((X ++ (m.banks.take i).flatMap listB).map byteC)]) (And.intro ?_ ?_)))
    · refine Exists.intro [] ?_
      refine And.intro (closed_bytes _) ?_
      refine Exists.intro m.banks.length ?_
      exact ⟨0, by omega, rfl, by simp [num_len], by simp⟩
    intro n vs h hI
    obtain ⟨i, hi, rfl, rfl, rfl⟩ := hI
    have hfl := flatTk (f := listB) (c := 258) (l := m.banks) (fun b hb' => by rw [list_len]; have := (g5 b hb').1; omega) i
    refine Or.inl ?_
    refine And.intro (fun h1 => ?_) (fun h1 => ?_)
    · simp only [decide_eq_true_eq, List.length_map] at h1
      have hlt : i < m.banks.length := by omega
      obtain ⟨e, he⟩ : ∃ e, m.banks[i]? = some e := ⟨_, List.getElem?_eq_getElem hlt⟩
      have hmem := List.mem_of_getElem? he
      have hst : X ++ (m.banks.take (i + 1)).flatMap listB = (X ++ (m.banks.take i).flatMap listB) ++ listB e := by rw [flat_step he, List.append_assoc]
      have hY : (X ++ (m.banks.take i).flatMap listB).length ≤ 100000 := by rw [List.length_append]; omega
      generalize X ++ (m.banks.take i).flatMap listB = Y at *
      refine Exists.intro i (And.intro rfl (Exists.intro (bankC e) (And.intro (get_map he) ?_)))
      have lb := list_len e
      have hbe := (g5 e hmem).1
      refine Exists.intro e (And.intro rfl (And.intro (g5 e hmem).2 (And.intro (hb.bank e hmem) ?_)))
      refine Exists.intro _ (And.intro (lendD byteC _) (And.intro (by simp only [List.length_map]; done) (And.intro (bytes_notSl _) (And.intro (by simp only [List.length_append, List.length_map, num_len]; first | done | rfl | omega) (And.intro (by simp only [List.length_append, List.length_map, num_len, List.length_cons, List.length_nil]; omega) (And.intro (by simp only [List.length_append, List.length_map, num_len, List.length_cons, List.length_nil]; omega) ?_))))))
      refine Exists.intro [] ?_
      refine And.intro (closed_app (closed_bytes _) (closed_bytes _)) ?_
      refine Exists.intro (m.banks.length - (i + 1)) (And.intro (by omega) ⟨i + 1, by omega, rfl, ?_, ?_⟩)
      · rw [wrap_succ hlt (by omega), hst]
        simp only [List.length_append, List.length_map, num_len]
      · rw [hst, List.map_append]
    simp only [decide_eq_false_iff_not, List.length_map] at h1
    rw [List.take_of_length_le (by omega)] at hfl ⊢
    rw [← List.append_assoc X (m.banks.flatMap listB)] at hp
    have hX2 : (X ++ m.banks.flatMap listB).length ≤ 3000 := by simp only [List.length_append, num_len] at *; omega
    generalize X ++ m.banks.flatMap listB = X2 at *
    clear hX
    refine Or.inr (Exists.intro true (Exists.intro [1, 3] (Exists.intro (fun vs h => vs = [.ptr 0 0 0 8, .slc 1 0 (X2 ++ (numB m.data.length 2 ++ m.data)).length false] ∧ h = [.box (cellsM m b1 z1 b2 z2 b3 z3 b4 z4 b5 z5 b6 z6), .lst 1 ((X2 ++ (numB m.data.length 2 ++ m.data)).map byteC)]) (And.intro ?_ ?_))))
    · refine Or.inr ?_
      repeat' (first
        | refine Exists.intro 2 (And.intro rfl (And.intro (Or.inr (Or.inl rfl)) (And.intro (by first | omega | (rw [List.length_map]; omega) | (rw [wrap64 (by omega)]; omega)) (And.intro (by first | omega | (rw [List.length_map]; omega) | (rw [wrap64 (by omega)]; omega)) ?_))))
        | refine Exists.intro _ (And.intro (lendN _ _) (And.intro (by simp only [List.length_map, num_len]; done) (And.intro (bytes_notSl _) (And.intro (by simp only [List.length_append, List.length_map, num_len]; first | done | rfl | omega) (And.intro (by simp only [List.length_append, List.length_map, num_len, List.length_cons, List.length_nil]; omega) (And.intro (by simp only [List.length_append, List.length_map, num_len, List.length_cons, List.length_nil]; omega) ?_))))))
        | refine Exists.intro _ (And.intro (lendD byteC _) (And.intro (by simp only [List.length_map]; done) (And.intro (bytes_notSl _) (And.intro (by simp only [List.length_append, List.length_map, num_len]; first | done | rfl | omega) (And.intro (by simp only [List.length_append, List.length_map, num_len, List.length_cons, List.length_nil]; omega) (And.intro (by simp only [List.length_append, List.length_map, num_len, List.length_cons, List.length_nil]; omega) ?_))))))
        | refine (And.intro (bytes_notSl _) (And.intro (by simp only [List.length_append, List.length_map, num_len]; first | done | rfl | omega) (And.intro (by simp only [List.length_append, List.length_map, num_len, List.length_cons, List.length_nil]; omega) (And.intro (by simp only [List.length_append, List.length_map, num_len, List.length_cons, List.length_nil]; omega) ?_))))
        | refine And.intro ?_ ?_
        | fail)
      all_goals first
        | exact rfl
        | (refine Exists.intro [] ?_
           refine And.intro (closed_app (closed_app (closed_bytes _) (closed_bytes _)) (closed_bytes _)) ?_
           refine And.intro ?_ ?_
           · simp only [List.length_append, List.length_map, num_len, List.append_assoc, Nat.add_assoc]
             try rfl
           · simp only [List.map_append, List.length_map, List.append_assoc]
             try rfl)
    rintro vs h ⟨rfl, rfl⟩
    rw [show enc2 m = (numB m.data.length 2 ++ m.data) ++ enc3 m from rfl] at hp
    rw [← List.append_assoc X2 ((numB m.data.length 2 ++ m.data))] at hp
    have hX3 : (X2 ++ (numB m.data.length 2 ++ m.data)).length ≤ 4000 := by simp only [List.length_append, num_len] at *; omega
    generalize X2 ++ (numB m.data.length 2 ++ m.data) = X3 at *
    clear hX2
    refine Or.inr (Exists.intro true (Exists.intro [1, 3] (Exists.intro (fun vs h => vs = [.ptr 0 0 0 8, .slc 1 0 (X3 ++ (numB m.bss 2 ++ numB m.rels.length 1)).length false] ∧ h = [.box (cellsM m b1 z1 b2 z2 b3 z3 b4 z4 b5 z5 b6 z6), .lst 1 ((X3 ++ (numB m.bss 2 ++ numB m.rels.length 1)).map byteC)]) (And.intro ?_ ?_))))
    · refine Or.inr ?_
      repeat' (first
        | refine Exists.intro 2 (And.intro rfl (And.intro (Or.inr (Or.inl rfl)) (And.intro (by first | omega | (rw [List.length_map]; omega) | (rw [wrap64 (by omega)]; omega)) (And.intro (by first | omega | (rw [List.length_map]; omega) | (rw [wrap64 (by omega)]; omega)) ?_))))
        | refine Exists.intro 1 (And.intro rfl (And.intro (Or.inl rfl) (And.intro (by first | omega | (rw [List.length_map]; omega) | (rw [wrap64 (by omega)]; omega)) (And.intro (by first | omega | (rw [List.length_map]; omega) | (rw [wrap64 (by omega)]; omega)) ?_))))
        | refine Exists.intro _ (And.intro (lendN _ _) (And.intro (by simp only [List.length_map, num_len]; done) (And.intro (bytes_notSl _) (And.intro (by simp only [List.length_append, List.length_map, num_len]; first | done | rfl | omega) (And.intro (by simp only [List.length_append, List.length_map, num_len, List.length_cons, List.length_nil]; omega) (And.intro (by simp only [List.length_append, List.length_map, num_len, List.length_cons, List.length_nil]; omega) ?_))))))
        | refine Exists.intro _ (And.intro (lendD byteC _) (And.intro (by simp only [List.length_map]; done) (And.intro (bytes_notSl _) (And.intro (by simp only [List.length_append, List.length_map, num_len]; first | done | rfl | omega) (And.intro (by simp only [List.length_append, List.length_map, num_len, List.length_cons, List.length_nil]; omega) (And.intro (by simp only [List.length_append, List.length_map, num_len, List.length_cons, List.length_nil]; omega) ?_))))))
        | refine (And.intro (bytes_notSl _) (And.intro (by simp only [List.length_append, List.length_map, num_len]; first | done | rfl | omega) (And.intro (by simp only [List.length_append, List.length_map, num_len, List.length_cons, List.length_nil]; omega) (And.intro (by simp only [List.length_append, List.length_map, num_len, List.length_cons, List.length_nil]; omega) ?_))))
        | refine And.intro ?_ ?_
        | fail)
      all_goals first
        | exact rfl
        | (refine Exists.intro [] ?_
           refine And.intro (closed_app (closed_app (closed_bytes _) (closed_bytes _)) (closed_bytes _)) ?_
           refine And.intro ?_ ?_
           · simp only [List.length_append, List.length_map, num_len, List.append_assoc, Nat.add_assoc]
             try rfl
           · simp only [List.map_append, List.length_map, List.append_assoc]
             try rfl)
    rintro vs h ⟨rfl, rfl⟩
    rw [show enc3 m = (numB m.bss 2 ++ numB m.rels.length 1) ++ enc4 m from rfl] at hp
    rw [← List.append_assoc X3 ((numB m.bss 2 ++ numB m.rels.length 1))] at hp
    have hX4 : (X3 ++ (numB m.bss 2 ++ numB m.rels.length 1)).length ≤ 4010 := by simp only [List.length_append, num_len] at *; omega
    generalize X3 ++ (numB m.bss 2 ++ numB m.rels.length 1) = X4 at *
    clear hX3
    rw [show enc4 m = m.rels.flatMap (fun v => numB v 2) ++ enc5 m from rfl] at hp

    -- m.rels
    refine Exists.intro true (Exists.intro [1, 3, 5] (Exists.intro (fun n vs h => ∃ i : Nat, i ≤ m.rels.length ∧ n = m.rels.length - i ∧ vs = [.ptr 0 0 0 8, .slc 1 0 (X4 ++ (m.rels.take i).flatMap (fun v => numB v 2)).length false, .v (.int .i64 i)] ∧ h = [.box (cellsM m b1 z1 b2 z2 b3 z3 b4 z4 b5 z5 b6 z6), .lst 1 ((X4 ++ (m.rels.take i).flatMap (fun v => numB v 2)).map byteC)]) (And.intro ?_ ?_)))
    · refine Exists.intro [] ?_
      refine And.intro (closed_bytes _) ?_
      refine Exists.intro m.rels.length ?_
      exact ⟨0, by omega, rfl, by simp [num_len], by simp⟩
    intro n vs h hI
    obtain ⟨i, hi, rfl, rfl, rfl⟩ := hI
    have hfl := flatTk (f := (fun v => numB v 2)) (c := 2) (l := m.rels) (fun b _ => by rw [num_len]; exact Nat.le_refl _) i
    refine Or.inl ?_
    refine And.intro (fun h1 => ?_) (fun h1 => ?_)
    · simp only [decide_eq_true_eq, List.length_map] at h1
      have hlt : i < m.rels.length := by omega
      obtain ⟨e, he⟩ : ∃ e, m.rels[i]? = some e := ⟨_, List.getElem?_eq_getElem hlt⟩
      have hmem := List.mem_of_getElem? he
      have hst : X4 ++ (m.rels.take (i + 1)).flatMap (fun v => numB v 2) = (X4 ++ (m.rels.take i).flatMap (fun v => numB v 2)) ++ (fun v => numB v 2) e := by rw [flat_step he, List.append_assoc]
      have hY : (X4 ++ (m.rels.take i).flatMap (fun v => numB v 2)).length ≤ 100000 := by rw [List.length_append]; omega
      generalize X4 ++ (m.rels.take i).flatMap (fun v => numB v 2) = Y at *
      refine Exists.intro i (And.intro rfl (Exists.intro (intC e) (And.intro (get_map he) ?_)))
      have hv := g9 e hmem
      refine Exists.intro 2 (And.intro rfl (And.intro (Or.inr (Or.inl rfl)) (And.intro (by omega) (And.intro (by omega) ?_))))
      refine Exists.intro _ (And.intro (lendN _ _) (And.intro (by simp only [List.length_map, num_len]; done) (And.intro (bytes_notSl _) (And.intro (by simp only [List.length_append, List.length_map, num_len]; first | done | rfl | omega) (And.intro (by simp only [List.length_append, List.length_map, num_len, List.length_cons, List.length_nil]; omega) (And.intro (by simp only [List.length_append, List.length_map, num_len, List.length_cons, List.length_nil]; omega) ?_))))))
      refine Exists.intro [] ?_
      refine And.intro (closed_app (closed_bytes _) (closed_bytes _)) ?_
      refine Exists.intro (m.rels.length - (i + 1)) (And.intro (by omega) ⟨i + 1, by omega, rfl, ?_, ?_⟩)
      · rw [wrap_succ hlt (by omega), hst]
        simp only [List.length_append, List.length_map, num_len]
      · rw [hst, List.map_append]
    simp only [decide_eq_false_iff_not, List.length_map] at h1
    rw [List.take_of_length_le (by omega)] at hfl ⊢
    rw [← List.append_assoc X4 (m.rels.flatMap (fun v => numB v 2))] at hp
    have hX5 : (X4 ++ m.rels.flatMap (fun v => numB v 2)).length ≤ 5000 := by simp only [List.length_append, num_len] at *; omega
    generalize X4 ++ m.rels.flatMap (fun v => numB v 2) = X5 at *
    clear hX4
    rw [show enc5 m = numB m.imps.length 1 ++ (m.imps.flatMap textB ++ (numB m.exps.length 1 ++ m.exps.flatMap exB)) from rfl] at hp
    refine Exists.intro 1 (And.intro rfl (And.intro (Or.inl rfl) (And.intro (by omega) (And.intro (by rw [List.length_map]; omega) ?_))))
    refine Exists.intro _ (And.intro (lendN _ _) (And.intro (by simp only [List.length_map, num_len]; done) (And.intro (bytes_notSl _) (And.intro (by simp only [List.length_append, List.length_map, num_len]; first | done | rfl | omega) (And.intro (by simp only [List.length_append, List.length_map, num_len, List.length_cons, List.length_nil]; omega) (And.intro (by simp only [List.length_append, List.length_map, num_len, List.length_cons, List.length_nil]; omega) ?_))))))
    obtain ⟨X6, eX6⟩ : ∃ q, q = X5 ++ numB m.imps.length 1 := ⟨_, rfl⟩
    have hX6 : X6.length ≤ 40000 := by rw [eX6, List.length_append, num_len]; omega
    rw [← List.append_assoc X5 (numB m.imps.length 1), ← eX6] at hp

    -- m.imps
    refine Exists.intro true (Exists.intro [1, 3, 6] (Exists.intro (fun n vs h => ∃ i : Nat, i ≤ m.imps.length ∧ n = m.imps.length - i ∧ vs = [.ptr 0 0 0 8, .slc 1 0 (X6 ++ (m.imps.take i).flatMap textB).length false, .v (.int .i64 i)] ∧ h = [.box (cellsM m b1 z1 b2 z2 b3 z3 b4 z4 b5 z5 b6 z6), .lst 1 ((X6 ++ (m.imps.take i).flatMap textB).map byteC)]) (And.intro ?_ ?_)))
    · refine Exists.intro [] ?_
      refine And.intro (closed_app (closed_bytes _) (closed_bytes _)) ?_
      refine Exists.intro m.imps.length ?_
      exact ⟨0, by omega, rfl, by simp [eX6, num_len], by simp [eX6]⟩
    intro n vs h hI
    obtain ⟨i, hi, rfl, rfl, rfl⟩ := hI
    have hfl := flatTk (f := textB) (c := 26) (l := m.imps) (fun s hs' => by rw [text_len]; have := g11 s hs'; omega) i
    refine Or.inl ?_
    refine And.intro (fun h1 => ?_) (fun h1 => ?_)
    · simp only [decide_eq_true_eq, List.length_map] at h1
      have hlt : i < m.imps.length := by omega
      obtain ⟨e, he⟩ : ∃ e, m.imps[i]? = some e := ⟨_, List.getElem?_eq_getElem hlt⟩
      have hmem := List.mem_of_getElem? he
      have hst : X6 ++ (m.imps.take (i + 1)).flatMap textB = (X6 ++ (m.imps.take i).flatMap textB) ++ textB e := by rw [flat_step he, List.append_assoc]
      have hY : (X6 ++ (m.imps.take i).flatMap textB).length ≤ 100000 := by rw [List.length_append]; omega
      generalize X6 ++ (m.imps.take i).flatMap textB = Y at *
      refine Exists.intro i (And.intro rfl (Exists.intro (strC e) (And.intro (get_map he) ?_)))
      have hv := g11 e hmem
      have lb := text_len e
      refine And.intro (by omega) ?_
      refine Exists.intro _ (And.intro (lendD byteC _) (And.intro (by simp only [List.length_map]; done) (And.intro (bytes_notSl _) (And.intro (by simp only [List.length_append, List.length_map, num_len]; first | done | rfl | omega) (And.intro (by simp only [List.length_append, List.length_map, num_len, List.length_cons, List.length_nil]; omega) (And.intro (by simp only [List.length_append, List.length_map, num_len, List.length_cons, List.length_nil]; omega) ?_))))))
      refine Exists.intro [] ?_
      refine And.intro (closed_app (closed_bytes _) (closed_bytes _)) ?_
      refine Exists.intro (m.imps.length - (i + 1)) (And.intro (by omega) ⟨i + 1, by omega, rfl, ?_, ?_⟩)
      · rw [wrap_succ hlt (by omega), hst]
        simp only [List.length_append, List.length_map, num_len]
      · rw [hst, List.map_append]
    simp only [decide_eq_false_iff_not, List.length_map] at h1
    rw [List.take_of_length_le (by omega)] at hfl ⊢
    rw [← List.append_assoc X6 (m.imps.flatMap textB)] at hp
    have hX7 : (X6 ++ m.imps.flatMap textB).length ≤ 41000 := by simp only [List.length_append, num_len] at *; omega
    generalize X6 ++ m.imps.flatMap textB = X7 at *
    clear hX6 eX6 hX5
    refine Exists.intro 1 (And.intro rfl (And.intro (Or.inl rfl) (And.intro (by omega) (And.intro (by rw [List.length_map]; omega) ?_))))
    refine Exists.intro _ (And.intro (lendN _ _) (And.intro (by simp only [List.length_map, num_len]; done) (And.intro (bytes_notSl _) (And.intro (by simp only [List.length_append, List.length_map, num_len]; first | done | rfl | omega) (And.intro (by simp only [List.length_append, List.length_map, num_len, List.length_cons, List.length_nil]; omega) (And.intro (by simp only [List.length_append, List.length_map, num_len, List.length_cons, List.length_nil]; omega) ?_))))))
    obtain ⟨X8, eX8⟩ : ∃ q, q = X7 ++ numB m.exps.length 1 := ⟨_, rfl⟩
    have hX8 : X8.length ≤ 42000 := by rw [eX8, List.length_append, num_len]; omega
    rw [← List.append_assoc X7 (numB m.exps.length 1), ← eX8] at hp

    -- m.exps
    refine Exists.intro true (Exists.intro [1, 3, 7] (Exists.intro (fun n vs h => ∃ i : Nat, i ≤ m.exps.length ∧ n = m.exps.length - i ∧ vs = [.ptr 0 0 0 8, .slc 1 0 (X8 ++ (m.exps.take i).flatMap exB).length false, .v (.int .i64 i)] ∧ h = [.box (cellsM m b1 z1 b2 z2 b3 z3 b4 z4 b5 z5 b6 z6), .lst 1 ((X8 ++ (m.exps.take i).flatMap exB).map byteC)]) (And.intro ?_ ?_)))
    · refine Exists.intro [] ?_
      refine And.intro (closed_app (closed_bytes _) (closed_bytes _)) ?_
      refine Exists.intro m.exps.length ?_
      exact ⟨0, by omega, rfl, by simp [eX8, num_len], by simp [eX8]⟩
    intro n vs h hI
    obtain ⟨i, hi, rfl, rfl, rfl⟩ := hI
    have hfl := flatTk (f := exB) (c := 16) (l := m.exps) (fun e he' => by rw [ex_len]; have := (g13 e he').1; omega) i
    refine Or.inl ?_
    refine And.intro (fun h1 => ?_) (fun h1 => ?_)
    · simp only [decide_eq_true_eq, List.length_map] at h1
      have hlt : i < m.exps.length := by omega
      obtain ⟨e, he⟩ : ∃ e, m.exps[i]? = some e := ⟨_, List.getElem?_eq_getElem hlt⟩
      have hmem := List.mem_of_getElem? he
      have hst : X8 ++ (m.exps.take (i + 1)).flatMap exB = (X8 ++ (m.exps.take i).flatMap exB) ++ exB e := by rw [flat_step he, List.append_assoc]
      have hY : (X8 ++ (m.exps.take i).flatMap exB).length ≤ 100000 := by rw [List.length_append]; omega
      generalize X8 ++ (m.exps.take i).flatMap exB = Y at *
      refine Exists.intro i (And.intro rfl (Exists.intro (exC e) (And.intro (get_map he) ?_)))
      obtain ⟨v1, v2, v3, v4, v5⟩ := g13 e hmem
      have lb := text_len e.n
      refine Or.inr ?_
      repeat' (first
        | refine And.intro (show e.n.size ≤ 1048576 by omega) ?_
        | refine Exists.intro 1 (And.intro rfl (And.intro (Or.inl rfl) (And.intro (by first | omega | (rw [List.length_map]; omega) | (rw [wrap64 (by omega)]; omega)) (And.intro (by first | omega | (rw [List.length_map]; omega) | (rw [wrap64 (by omega)]; omega)) ?_))))
        | refine Exists.intro 2 (And.intro rfl (And.intro (Or.inr (Or.inl rfl)) (And.intro (by first | omega | (rw [List.length_map]; omega) | (rw [wrap64 (by omega)]; omega)) (And.intro (by first | omega | (rw [List.length_map]; omega) | (rw [wrap64 (by omega)]; omega)) ?_))))
        | refine Exists.intro _ (And.intro (lendN _ _) (And.intro (by simp only [List.length_map, num_len]; done) (And.intro (bytes_notSl _) (And.intro (by simp only [List.length_append, List.length_map, num_len]; first | done | rfl | omega) (And.intro (by simp only [List.length_append, List.length_map, num_len, List.length_cons, List.length_nil]; omega) (And.intro (by simp only [List.length_append, List.length_map, num_len, List.length_cons, List.length_nil]; omega) ?_))))))
        | refine Exists.intro _ (And.intro (lendD byteC _) (And.intro (by simp only [List.length_map]; done) (And.intro (bytes_notSl _) (And.intro (by simp only [List.length_append, List.length_map, num_len]; first | done | rfl | omega) (And.intro (by simp only [List.length_append, List.length_map, num_len, List.length_cons, List.length_nil]; omega) (And.intro (by simp only [List.length_append, List.length_map, num_len, List.length_cons, List.length_nil]; omega) ?_))))))
        | refine And.intro ?_ ?_
        | fail)
      all_goals first
        | exact rfl
        | (have w3 : IntKind.i64.wrap (e.bank + 1) = e.bank + 1 := wrap64 (by omega)
           refine Exists.intro [] ?_
           refine And.intro (closed_app (closed_app (closed_app (closed_bytes _) (closed_bytes _)) (closed_bytes _)) (closed_bytes _)) ?_
           refine Exists.intro (m.exps.length - (i + 1)) (And.intro (by omega) ⟨i + 1, by omega, rfl, ?_, ?_⟩)
           · rw [wrap_succ hlt (by omega), hst]
             simp only [exB, List.length_append, List.length_map, num_len, Nat.add_assoc]
           · rw [hst, w3]
             simp only [exB, List.map_append, List.append_assoc])
    simp only [decide_eq_false_iff_not, List.length_map] at h1
    rw [List.take_of_length_le (by omega)] at hfl ⊢
    refine And.intro (closed_bytes _) ?_
    exact hp
  · exact hp.elim
end Go.Proofs.Ytegcfogbdgmajaa.Ab
