/- EncodeModule of impl. No condition. -/
import Derived.Test.YtegcfogbdgmajaaTEnc2
import Derived.Test.YtegcfogbdgmajaaTMok2
namespace Go.Proofs.Ytegcfogbdgmajaa.Ab
set_option linter.unusedVariables false
set_option linter.unusedSimpArgs false

theorem num1 (v : Int) : [IntKind.u8.wrap v] = numB v 1 := by
  rw [u8_wrap]
  simp [numB, byteV, List.range_succ]
theorem shr8 (v : Int) : v.fdiv (2 ^ (min (8 : Int).toNat IntKind.i64.bits)) = v / 256 := by
  rw [Int.fdiv_eq_ediv_of_nonneg _ (by decide)]
  rfl
theorem shr16 (v : Int) : v.fdiv (2 ^ (min (16 : Int).toNat IntKind.i64.bits)) = v / 65536 := by
  rw [Int.fdiv_eq_ediv_of_nonneg _ (by decide)]
  rfl
theorem shr24 (v : Int) : v.fdiv (2 ^ (min (24 : Int).toNat IntKind.i64.bits)) = v / 16777216 := by
  rw [Int.fdiv_eq_ediv_of_nonneg _ (by decide)]
  rfl
theorem num2 (v : Int) : [IntKind.u8.wrap v, IntKind.u8.wrap (v.fdiv (2 ^ (min (8 : Int).toNat IntKind.i64.bits)))] = numB v 2 := by
  rw [u8_wrap, u8_wrap, shr8]
  simp [numB, byteV, List.range_succ]
theorem num4 (v : Int) : [IntKind.u8.wrap v, IntKind.u8.wrap (v.fdiv (2 ^ (min (8 : Int).toNat IntKind.i64.bits))), IntKind.u8.wrap (v.fdiv (2 ^ (min (16 : Int).toNat IntKind.i64.bits))), IntKind.u8.wrap (v.fdiv (2 ^ (min (24 : Int).toNat IntKind.i64.bits)))] = numB v 4 := by
  rw [u8_wrap, u8_wrap, u8_wrap, u8_wrap, shr8, shr16, shr24]
  simp [numB, byteV, List.range_succ]

def hWB : CH := fun args hl K => match args, hl with
  | [.ptr 0 0 0 _, .imm _ _ 1 L], [.box [.sl 1 l]] => ∃ xs ys : List Int, l = xs.map byteC ∧ L = ys.map byteC ∧ xs.length ≤ 1000000 ∧ ys.length ≤ 1000000 ∧ K (.tup []) [.box [.sl 1 ((xs ++ ys).map byteC)]]
  | _, _ => False
theorem fin_w {K : AV → HP → Prop} {L L' : List (List AV)} (hp : K (.tup []) [.box [.sl 1 L]]) (e : L = L') : K (.tup []) [.box [.sl 1 L']] := e ▸ hp
def cx_s_wBytes : Ctx := mkC []
theorem cx_s_wBytes_ok : CtxOk Try.prog cx_s_wBytes := cx0_ok
set_option maxRecDepth 100000 in
set_option pp.maxSteps 1500 in
theorem s_wBytes : HSound Try.prog 130 (callM [.rw] true hWB) := by
  refine callM_sound cx_s_wBytes_ok mixed Try.func130 rfl fun args hl K hp => ?_
  unfold hWB at hp
  split at hp
  · rename_i n t z L l
    obtain ⟨xs, ys, rfl, rfl, hx, hy, hp⟩ := hp
    refine And.intro (bytes_notSl _) ?_
    refine And.intro rfl ?_
    refine And.intro (by simp only [List.length_map]; omega) (And.intro (by simp only [List.length_map]; omega) ?_)
    refine Exists.intro _ (And.intro (List.take_of_length_le (by simp)) (And.intro (by simp) (And.intro (closed_app (closed_bytes _) (closed_bytes _)) ?_)))
    exact fin_w hp List.map_append
  · exact hp.elim
def hWC : CH := fun args hl K => match args, hl with
  | [.ptr 0 0 0 _, .v (.int .i64 v)], [.box [.sl 1 l]] => ∃ xs : List Int, l = xs.map byteC ∧ xs.length ≤ 500000 ∧ K (.tup []) [.box [.sl 1 ((xs ++ numB v 2).map byteC)]]
  | _, _ => False
def cx_s_wCount : Ctx := mkC [(130, callM [.rw] true hWB)]
theorem cx_s_wCount_ok : CtxOk Try.prog cx_s_wCount := mkC_ok (mem1 ⟨s_wBytes, fnOk Try.func130 rfl rfl⟩ mem0)
set_option maxRecDepth 100000 in
set_option pp.maxSteps 1500 in
theorem s_wCount : HSound Try.prog 131 (callM [.rw] true hWC) := by
  refine callM_sound cx_s_wCount_ok mixed Try.func131 rfl fun args hl K hp => ?_
  unfold hWC at hp
  split at hp
  · rename_i n v l
    obtain ⟨xs, rfl, hx, hp⟩ := hp
    rw [← num2 v] at hp
    refine And.intro (by decide) ?_
    refine Exists.intro _ (And.intro rfl (And.intro rfl (And.intro (closed_bytes [IntKind.u8.wrap v, IntKind.u8.wrap (v.fdiv (2 ^ (min (8 : Int).toNat IntKind.i64.bits)))]) ?_)))
    refine Exists.intro xs (Exists.intro [IntKind.u8.wrap v, IntKind.u8.wrap (v.fdiv (2 ^ (min (8 : Int).toNat IntKind.i64.bits)))] (And.intro rfl (And.intro rfl (And.intro (by omega) (And.intro (by simp) ?_)))))
    exact hp
  · exact hp.elim
def hWT : CH := fun args hl K => match args, hl with
  | [.ptr 0 0 0 _, .v (.string s)], [.box [.sl 1 l]] => ∃ xs : List Int, l = xs.map byteC ∧ xs.length ≤ 500000 ∧ s.size ≤ 1000 ∧ K (.tup []) [.box [.sl 1 ((xs ++ textB s).map byteC)]]
  | _, _ => False
def cx_s_wText : Ctx := mkC [(130, callM [.rw] true hWB)]
theorem cx_s_wText_ok : CtxOk Try.prog cx_s_wText := mkC_ok (mem1 ⟨s_wBytes, fnOk Try.func130 rfl rfl⟩ mem0)
set_option maxRecDepth 100000 in
set_option pp.maxSteps 1500 in
theorem s_wText : HSound Try.prog 128 (callM [.rw] true hWT) := by
  refine callM_sound cx_s_wText_ok mixed Try.func128 rfl fun args hl K hp => ?_
  unfold hWT at hp
  split at hp
  · rename_i n s l
    obtain ⟨xs, rfl, hx, hs, hp⟩ := hp
    refine Exists.intro _ (And.intro rfl (And.intro rfl (And.intro (closed_bytes [IntKind.u8.wrap (s.size : Int)]) ?_)))
    refine Exists.intro xs (Exists.intro [IntKind.u8.wrap (s.size : Int)] (And.intro rfl (And.intro rfl (And.intro (by omega) (And.intro (by simp) ?_)))))
    have e2 : (strB s).length = s.size := by rw [strB_eq, lenB, strL_len]
    refine And.intro rfl ?_
    refine And.intro (by rw [e2]; simp only [List.length_map, List.length_append, List.length_cons, List.length_nil]; omega) (And.intro (by rw [e2]; simp only [List.length_map, List.length_append, List.length_cons, List.length_nil]; omega) ?_)
    refine Exists.intro _ (And.intro (List.take_of_length_le (by simp; omega)) (And.intro (by simp; omega) (And.intro (closed_app (closed_bytes _) (by rw [strB_eq]; exact closed_bytes _)) ?_)))
    refine fin_w hp ?_
    rw [num1, textB, strB_eq, ← List.map_append, List.append_assoc]
  · exact hp.elim
def hWW : CH := fun args hl K => match args, hl with
  | [.ptr 0 0 0 _, .imm _ _ 1 L], [.box [.sl 1 l]] => ∃ xs ws : List Int, l = xs.map byteC ∧ L = ws.map intC ∧ xs.length ≤ 400000 ∧ ws.length ≤ 1000 ∧ K (.tup []) [.box [.sl 1 ((xs ++ listB ws).map byteC)]]
  | _, _ => False
def cx_s_wWords : Ctx := mkC [(131, callM [.rw] true hWC), (130, callM [.rw] true hWB)]
theorem cx_s_wWords_ok : CtxOk Try.prog cx_s_wWords := mkC_ok (mem1 ⟨s_wCount, fnOk Try.func131 rfl rfl⟩ (mem1 ⟨s_wBytes, fnOk Try.func130 rfl rfl⟩ mem0))
set_option maxRecDepth 100000 in
set_option pp.maxSteps 1500 in
set_option maxHeartbeats 4000000 in
theorem s_wWords : HSound Try.prog 129 (callM [.rw] true hWW) := by
  refine callM_sound cx_s_wWords_ok mixed Try.func129 rfl fun args hl K hp => ?_
  unfold hWW at hp
  split at hp
  · rename_i n t z L l
    obtain ⟨xs, ws, rfl, rfl, hx, hw, hp⟩ := hp
    refine Exists.intro xs (And.intro rfl (And.intro (by omega) ?_))
    rw [List.length_map]
    have hX : (xs ++ numB ws.length 2).length ≤ 400002 := by rw [List.length_append, num_len]; omega
    rw [listB, ← List.append_assoc] at hp
    generalize xs ++ numB ws.length 2 = X at *
    refine Exists.intro true (Exists.intro [0, 10, 11, 12] (Exists.intro (fun m vs h => ∃ i : Nat, i ≤ ws.length ∧ m = ws.length - i ∧ (∃ k, vs = [.ptr 0 0 0 k, .imm t z 1 (ws.map intC), .v (.int .i64 ws.length), .v (.int .i64 i)]) ∧ h = [.box [.sl 1 ((X ++ (ws.take i).flatMap fun v => numB v 4).map byteC)]]) (And.intro ?_ ?_)))
    · refine Exists.intro [] ?_
      refine Exists.intro ws.length ?_
      exact ⟨0, by omega, rfl, ⟨_, by rw [List.length_map]; rfl⟩, by simp⟩
    · intro m vs h hI
      obtain ⟨i, hi, rfl, ⟨k, rfl⟩, rfl⟩ := hI
      have hfl := flatTk (f := fun v => numB v 4) (c := 4) (l := ws) (fun b _ => by rw [num_len]; exact Nat.le_refl _) i
      refine And.intro (fun h1 => ?_) (fun h1 => ?_)
      · simp only [decide_eq_true_eq] at h1
        have hlt : i < ws.length := by omega
        obtain ⟨v, hv⟩ : ∃ v, ws[i]? = some v := ⟨_, List.getElem?_eq_getElem hlt⟩
        have hst : X ++ ((ws.take (i + 1)).flatMap fun v => numB v 4) = (X ++ (ws.take i).flatMap fun v => numB v 4) ++ numB v 4 := by rw [flat_step hv, List.append_assoc]
        have hY : (X ++ (ws.take i).flatMap fun v => numB v 4).length ≤ 500000 := by rw [List.length_append]; omega
        rw [← num4 v] at hst
        generalize (X ++ (ws.take i).flatMap fun v => numB v 4) = Y at *
        refine Exists.intro i (And.intro rfl (Exists.intro (intC v) (And.intro (get_map hv) ?_)))
        repeat' (first | refine And.intro (by decide) ?_ | fail)
        refine Exists.intro _ (And.intro rfl (And.intro rfl (And.intro (closed_bytes [IntKind.u8.wrap v, IntKind.u8.wrap (v.fdiv (2 ^ (min (8 : Int).toNat IntKind.i64.bits))), IntKind.u8.wrap (v.fdiv (2 ^ (min (16 : Int).toNat IntKind.i64.bits))), IntKind.u8.wrap (v.fdiv (2 ^ (min (24 : Int).toNat IntKind.i64.bits)))]) ?_)))
        refine Exists.intro Y (Exists.intro [IntKind.u8.wrap v, IntKind.u8.wrap (v.fdiv (2 ^ (min (8 : Int).toNat IntKind.i64.bits))), IntKind.u8.wrap (v.fdiv (2 ^ (min (16 : Int).toNat IntKind.i64.bits))), IntKind.u8.wrap (v.fdiv (2 ^ (min (24 : Int).toNat IntKind.i64.bits)))] (And.intro rfl (And.intro rfl (And.intro (by omega) (And.intro (by simp) ?_)))))
        refine Exists.intro [] ?_
        refine Exists.intro (ws.length - (i + 1)) (And.intro (by omega) ⟨i + 1, by omega, rfl, ⟨k, ?_⟩, ?_⟩)
        · rw [wrap_succ hlt (by omega)]
        · rw [hst]
      · simp only [decide_eq_false_iff_not] at h1
        rw [List.take_of_length_le (by omega)]
        exact hp
  · exact hp.elim
def cx_s_impl_EncodeM : Ctx := mkC [(60, callM [] true hModOk), (128, callM [.rw] true hWT), (129, callM [.rw] true hWW), (130, callM [.rw] true hWB), (131, callM [.rw] true hWC)]
theorem cx_s_impl_EncodeM_ok : CtxOk Try.prog cx_s_impl_EncodeM := mkC_ok (mem1 ⟨s_impl_ModuleOk, fnOk Try.func60 rfl rfl⟩ (mem1 ⟨s_wText, fnOk Try.func128 rfl rfl⟩ (mem1 ⟨s_wWords, fnOk Try.func129 rfl rfl⟩ (mem1 ⟨s_wBytes, fnOk Try.func130 rfl rfl⟩ (mem1 ⟨s_wCount, fnOk Try.func131 rfl rfl⟩ mem0)))))
set_option maxRecDepth 100000 in
set_option pp.maxSteps 1500 in
set_option maxHeartbeats 16000000 in
theorem s_impl_EncodeM : HSound Try.prog 63 (callM [] true hEncM) := by
  refine callM_sound cx_s_impl_EncodeM_ok mixed Try.func63 rfl fun args hl K hp => ?_
  unfold hEncM at hp
  split at hp
  · rename_i a
    obtain ⟨m, ⟨b1, z1, b2, z2, b3, z3, b4, z4, b5, z5, b6, z6, rfl⟩, hb, hp⟩ := hp
    refine Or.inl ?_
    refine Exists.intro m (And.intro ⟨_, _, _, _, _, _, _, _, _, _, _, _, rfl⟩ (And.intro hb ?_))
    refine And.intro (fun h => ?_) (fun h => ?_)
    · have h : ¬ modOk m = 0 := by simpa using h
      rw [show encodeF m = [] from if_neg h] at hp
      refine Or.inr ?_
      refine And.intro closed_nil ?_
      exact hp
    have h : modOk m = 0 := by simpa using h
    have g := good_of h
    rw [show encodeF m = encM m from if_pos h] at hp
    clear h
    obtain ⟨g1, g2, g3, g4, g5, g6, g7, g8, g9, g10, g11, g12, g13⟩ := g
    refine Exists.intro _ (And.intro rfl (And.intro rfl (And.intro (closed_bytes [88, 77]) ?_)))
    have lt := text_len m.name
    have ll := list_len m.text
    refine Exists.intro [88, 77] (And.intro rfl (And.intro (by decide) (And.intro (by omega) ?_)))
    refine Exists.intro ([88, 77] ++ textB m.name) (Exists.intro m.text (And.intro rfl (And.intro rfl (And.intro (by simp only [List.length_append, List.length_cons, List.length_nil]; omega) (And.intro (by omega) ?_)))))
    rw [show encM m = ([88, 77] ++ textB m.name ++ listB m.text) ++ (numB m.banks.length 1 ++ (m.banks.flatMap listB ++ enc2 m)) from by simp only [encM, enc1, List.append_assoc]] at hp
    have hX : ([88, 77] ++ textB m.name ++ listB m.text).length ≤ 1000 := by simp only [List.length_append, List.length_cons, List.length_nil]; omega
    generalize [88, 77] ++ textB m.name ++ listB m.text = X at *
    refine Exists.intro _ (And.intro rfl (And.intro rfl (And.intro (closed_bytes [IntKind.u8.wrap ((List.map bankC m.banks).length : Int)]) ?_)))
    refine Exists.intro X (Exists.intro [IntKind.u8.wrap ((List.map bankC m.banks).length : Int)] (And.intro rfl (And.intro rfl (And.intro (by omega) (And.intro (by simp) ?_)))))
    rw [num1, List.length_map]
    obtain ⟨XA, eXA⟩ : ∃ q, q = X ++ numB m.banks.length 1 := ⟨_, rfl⟩
    have hXA : XA.length ≤ X.length + 1 := by rw [eXA, List.length_append, num_len]; exact Nat.le_refl _
    rw [← eXA]
    rw [← List.append_assoc X (numB m.banks.length 1), ← eXA] at hp
    clear eXA

    -- m.banks
    refine Exists.intro true (Exists.intro [1, 3, 29, 30, 31] (Exists.intro (fun n vs h => ∃ i : Nat, i ≤ m.banks.length ∧ n = m.banks.length - i ∧ vs = [.ptr 0 0 0 8, .ptr 1 0 0 1, .imm b2 z2 1 (m.banks.map bankC), .v (.int .i64 m.banks.length), .v (.int .i64 i)] ∧ h = [.box (cellsM m b1 z1 b2 z2 b3 z3 b4 z4 b5 z5 b6 z6), .box [.sl 1 ((XA ++ (m.banks.take i).flatMap listB).map byteC)]]) (And.intro ?_ ?_)))
    · refine Exists.intro [] ?_
      refine Exists.intro m.banks.length ?_
      exact ⟨0, by omega, rfl, by rw [List.length_map]; rfl, by simp⟩
    intro n vs h hI
    obtain ⟨i, hi, rfl, rfl, rfl⟩ := hI
    have hfl := flatTk (f := listB) (c := 258) (l := m.banks) (fun b hb' => by rw [list_len]; have := (g5 b hb').1; omega) i
    refine And.intro (fun h1 => ?_) (fun h1 => ?_)
    · simp only [decide_eq_true_eq] at h1
      have hlt : i < m.banks.length := by omega
      obtain ⟨e, he⟩ : ∃ e, m.banks[i]? = some e := ⟨_, List.getElem?_eq_getElem hlt⟩
      have hmem := List.mem_of_getElem? he
      have hst : XA ++ (m.banks.take (i + 1)).flatMap listB = (XA ++ (m.banks.take i).flatMap listB) ++ listB e := by rw [flat_step he, List.append_assoc]
      have hY : (XA ++ (m.banks.take i).flatMap listB).length ≤ 100000 := by rw [List.length_append]; omega
      generalize XA ++ (m.banks.take i).flatMap listB = Y at *
      refine Exists.intro i (And.intro rfl (Exists.intro (bankC e) (And.intro (get_map he) ?_)))
      refine Exists.intro Y (Exists.intro e (And.intro rfl (And.intro rfl (And.intro (by omega) (And.intro (by have := (g5 e hmem).1; omega) ?_)))))
      refine Exists.intro [] ?_
      refine Exists.intro (m.banks.length - (i + 1)) (And.intro (by omega) ⟨i + 1, by omega, rfl, ?_, ?_⟩)
      · rw [wrap_succ hlt (by omega)]
      · rw [hst]
    simp only [decide_eq_false_iff_not] at h1
    rw [List.take_of_length_le (by omega)] at hfl ⊢
    rw [← List.append_assoc XA (m.banks.flatMap listB)] at hp
    have hX2 : (XA ++ m.banks.flatMap listB).length ≤ 3000 := by simp only [List.length_append, num_len] at *; omega
    generalize XA ++ m.banks.flatMap listB = X2 at *
    refine Exists.intro X2 (And.intro rfl (And.intro (by omega) ?_))
    rw [List.length_map]
    refine Exists.intro (X2 ++ numB m.data.length 2) (Exists.intro m.data (And.intro rfl (And.intro rfl (And.intro (by rw [List.length_append, num_len]; omega) (And.intro (by omega) ?_)))))
    rw [show enc2 m = (numB m.data.length 2 ++ m.data) ++ enc3 m from rfl] at hp
    rw [← List.append_assoc X2, ← List.append_assoc X2] at hp
    have hX3 : (X2 ++ numB m.data.length 2 ++ m.data).length ≤ 4000 := by simp only [List.length_append, num_len]; omega
    generalize X2 ++ numB m.data.length 2 ++ m.data = X3 at *
    refine Exists.intro X3 (And.intro rfl (And.intro (by omega) ?_))
    rw [show enc3 m = numB m.bss 2 ++ (numB m.rels.length 1 ++ enc4 m) from by simp only [enc3, List.append_assoc]] at hp
    rw [← List.append_assoc X3 (numB m.bss 2)] at hp
    have hX4 : (X3 ++ numB m.bss 2).length ≤ 4010 := by simp only [List.length_append, num_len] at *; omega
    generalize X3 ++ numB m.bss 2 = X4 at *
    refine Exists.intro _ (And.intro rfl (And.intro rfl (And.intro (closed_bytes [IntKind.u8.wrap ((List.map intC m.rels).length : Int)]) ?_)))
    refine Exists.intro X4 (Exists.intro [IntKind.u8.wrap ((List.map intC m.rels).length : Int)] (And.intro rfl (And.intro rfl (And.intro (by omega) (And.intro (by simp) ?_)))))
    rw [num1, List.length_map]
    obtain ⟨XB, eXB⟩ : ∃ q, q = X4 ++ numB m.rels.length 1 := ⟨_, rfl⟩
    have hXB : XB.length ≤ X4.length + 1 := by rw [eXB, List.length_append, num_len]; exact Nat.le_refl _
    rw [← eXB]
    rw [← List.append_assoc X4 (numB m.rels.length 1), ← eXB] at hp
    clear eXB
    rw [show enc4 m = m.rels.flatMap (fun v => numB v 2) ++ enc5 m from rfl] at hp

    -- m.rels
    refine Exists.intro true (Exists.intro [1, 3, 55, 56, 57] (Exists.intro (fun n vs h => ∃ i : Nat, i ≤ m.rels.length ∧ n = m.rels.length - i ∧ vs = [.ptr 0 0 0 8, .ptr 1 0 0 1, .imm b4 z4 1 (m.rels.map intC), .v (.int .i64 m.rels.length), .v (.int .i64 i)] ∧ h = [.box (cellsM m b1 z1 b2 z2 b3 z3 b4 z4 b5 z5 b6 z6), .box [.sl 1 ((XB ++ (m.rels.take i).flatMap (fun v => numB v 2)).map byteC)]]) (And.intro ?_ ?_)))
    · refine Exists.intro [] ?_
      refine Exists.intro m.rels.length ?_
      exact ⟨0, by omega, rfl, by rw [List.length_map]; rfl, by simp⟩
    intro n vs h hI
    obtain ⟨i, hi, rfl, rfl, rfl⟩ := hI
    have hfl := flatTk (f := (fun v => numB v 2)) (c := 2) (l := m.rels) (fun b _ => by rw [num_len]; exact Nat.le_refl _) i
    refine And.intro (fun h1 => ?_) (fun h1 => ?_)
    · simp only [decide_eq_true_eq] at h1
      have hlt : i < m.rels.length := by omega
      obtain ⟨e, he⟩ : ∃ e, m.rels[i]? = some e := ⟨_, List.getElem?_eq_getElem hlt⟩
      have hmem := List.mem_of_getElem? he
      have hst : XB ++ (m.rels.take (i + 1)).flatMap (fun v => numB v 2) = (XB ++ (m.rels.take i).flatMap (fun v => numB v 2)) ++ (fun v => numB v 2) e := by rw [flat_step he, List.append_assoc]
      have hY : (XB ++ (m.rels.take i).flatMap (fun v => numB v 2)).length ≤ 100000 := by rw [List.length_append]; omega
      generalize XB ++ (m.rels.take i).flatMap (fun v => numB v 2) = Y at *
      refine Exists.intro i (And.intro rfl (Exists.intro (intC e) (And.intro (get_map he) ?_)))
      refine Exists.intro Y (And.intro rfl (And.intro (by omega) ?_))
      refine Exists.intro [] ?_
      refine Exists.intro (m.rels.length - (i + 1)) (And.intro (by omega) ⟨i + 1, by omega, rfl, ?_, ?_⟩)
      · rw [wrap_succ hlt (by omega)]
      · rw [hst]
    simp only [decide_eq_false_iff_not] at h1
    rw [List.take_of_length_le (by omega)] at hfl ⊢
    rw [← List.append_assoc XB (m.rels.flatMap (fun v => numB v 2))] at hp
    have hX5 : (XB ++ m.rels.flatMap (fun v => numB v 2)).length ≤ 5000 := by simp only [List.length_append, num_len] at *; omega
    generalize XB ++ m.rels.flatMap (fun v => numB v 2) = X5 at *
    rw [show enc5 m = numB m.imps.length 1 ++ (m.imps.flatMap textB ++ (numB m.exps.length 1 ++ m.exps.flatMap exB)) from rfl] at hp
    refine Exists.intro _ (And.intro rfl (And.intro rfl (And.intro (closed_bytes [IntKind.u8.wrap ((List.map strC m.imps).length : Int)]) ?_)))
    refine Exists.intro X5 (Exists.intro [IntKind.u8.wrap ((List.map strC m.imps).length : Int)] (And.intro rfl (And.intro rfl (And.intro (by omega) (And.intro (by simp) ?_)))))
    rw [num1, List.length_map]
    obtain ⟨XC, eXC⟩ : ∃ q, q = X5 ++ numB m.imps.length 1 := ⟨_, rfl⟩
    have hXC : XC.length ≤ X5.length + 1 := by rw [eXC, List.length_append, num_len]; exact Nat.le_refl _
    rw [← eXC]
    rw [← List.append_assoc X5 (numB m.imps.length 1), ← eXC] at hp
    clear eXC

    -- m.imps
    refine Exists.intro true (Exists.intro [1, 3, 71, 72, 73] (Exists.intro (fun n vs h => ∃ i : Nat, i ≤ m.imps.length ∧ n = m.imps.length - i ∧ vs = [.ptr 0 0 0 8, .ptr 1 0 0 1, .imm b5 z5 1 (m.imps.map strC), .v (.int .i64 m.imps.length), .v (.int .i64 i)] ∧ h = [.box (cellsM m b1 z1 b2 z2 b3 z3 b4 z4 b5 z5 b6 z6), .box [.sl 1 ((XC ++ (m.imps.take i).flatMap textB).map byteC)]]) (And.intro ?_ ?_)))
    · refine Exists.intro [] ?_
      refine Exists.intro m.imps.length ?_
      exact ⟨0, by omega, rfl, by rw [List.length_map]; rfl, by simp⟩
    intro n vs h hI
    obtain ⟨i, hi, rfl, rfl, rfl⟩ := hI
    have hfl := flatTk (f := textB) (c := 26) (l := m.imps) (fun s hs' => by rw [text_len]; have := g11 s hs'; omega) i
    refine And.intro (fun h1 => ?_) (fun h1 => ?_)
    · simp only [decide_eq_true_eq] at h1
      have hlt : i < m.imps.length := by omega
      obtain ⟨e, he⟩ : ∃ e, m.imps[i]? = some e := ⟨_, List.getElem?_eq_getElem hlt⟩
      have hmem := List.mem_of_getElem? he
      have hst : XC ++ (m.imps.take (i + 1)).flatMap textB = (XC ++ (m.imps.take i).flatMap textB) ++ textB e := by rw [flat_step he, List.append_assoc]
      have hY : (XC ++ (m.imps.take i).flatMap textB).length ≤ 100000 := by rw [List.length_append]; omega
      generalize XC ++ (m.imps.take i).flatMap textB = Y at *
      refine Exists.intro i (And.intro rfl (Exists.intro (strC e) (And.intro (get_map he) ?_)))
      refine Exists.intro Y (And.intro rfl (And.intro (by omega) (And.intro (by have := g11 e hmem; omega) ?_)))
      refine Exists.intro [] ?_
      refine Exists.intro (m.imps.length - (i + 1)) (And.intro (by omega) ⟨i + 1, by omega, rfl, ?_, ?_⟩)
      · rw [wrap_succ hlt (by omega)]
      · rw [hst]
    simp only [decide_eq_false_iff_not] at h1
    rw [List.take_of_length_le (by omega)] at hfl ⊢
    rw [← List.append_assoc XC (m.imps.flatMap textB)] at hp
    have hX6 : (XC ++ m.imps.flatMap textB).length ≤ 7000 := by simp only [List.length_append, num_len] at *; omega
    generalize XC ++ m.imps.flatMap textB = X6 at *
    refine Exists.intro _ (And.intro rfl (And.intro rfl (And.intro (closed_bytes [IntKind.u8.wrap ((List.map exC m.exps).length : Int)]) ?_)))
    refine Exists.intro X6 (Exists.intro [IntKind.u8.wrap ((List.map exC m.exps).length : Int)] (And.intro rfl (And.intro rfl (And.intro (by omega) (And.intro (by simp) ?_)))))
    rw [num1, List.length_map]
    obtain ⟨XD, eXD⟩ : ∃ q, q = X6 ++ numB m.exps.length 1 := ⟨_, rfl⟩
    have hXD : XD.length ≤ X6.length + 1 := by rw [eXD, List.length_append, num_len]; exact Nat.le_refl _
    rw [← eXD]
    rw [← List.append_assoc X6 (numB m.exps.length 1), ← eXD] at hp
    clear eXD

    -- m.exps
    refine Exists.intro true (Exists.intro [1, 3, 87, 88, 89] (Exists.intro (fun n vs h => ∃ i : Nat, i ≤ m.exps.length ∧ n = m.exps.length - i ∧ vs = [.ptr 0 0 0 8, .ptr 1 0 0 1, .imm b6 z6 3 (m.exps.map exC), .v (.int .i64 m.exps.length), .v (.int .i64 i)] ∧ h = [.box (cellsM m b1 z1 b2 z2 b3 z3 b4 z4 b5 z5 b6 z6), .box [.sl 1 ((XD ++ (m.exps.take i).flatMap exB).map byteC)]]) (And.intro ?_ ?_)))
    · refine Exists.intro [] ?_
      refine Exists.intro m.exps.length ?_
      exact ⟨0, by omega, rfl, by rw [List.length_map]; rfl, by simp⟩
    intro n vs h hI
    obtain ⟨i, hi, rfl, rfl, rfl⟩ := hI
    have hfl := flatTk (f := exB) (c := 16) (l := m.exps) (fun e he' => by rw [ex_len]; have := (g13 e he').1; omega) i
    refine And.intro (fun h1 => ?_) (fun h1 => ?_)
    · simp only [decide_eq_true_eq] at h1
      have hlt : i < m.exps.length := by omega
      obtain ⟨e, he⟩ : ∃ e, m.exps[i]? = some e := ⟨_, List.getElem?_eq_getElem hlt⟩
      have hmem := List.mem_of_getElem? he
      have hst : XD ++ (m.exps.take (i + 1)).flatMap exB = (XD ++ (m.exps.take i).flatMap exB) ++ exB e := by rw [flat_step he, List.append_assoc]
      have hY : (XD ++ (m.exps.take i).flatMap exB).length ≤ 100000 := by rw [List.length_append]; omega
      generalize XD ++ (m.exps.take i).flatMap exB = Y at *
      refine Exists.intro i (And.intro rfl (Exists.intro (exC e) (And.intro (get_map he) ?_)))
      obtain ⟨v1, v2, v3, v4, v5⟩ := g13 e hmem
      have lb := text_len e.n
      refine Exists.intro Y (And.intro rfl (And.intro (by omega) (And.intro (by omega) ?_)))
      refine Exists.intro _ (And.intro rfl (And.intro rfl (And.intro (closed_bytes [IntKind.u8.wrap (IntKind.i64.wrap (e.bank + 1))]) ?_)))
      refine Exists.intro (Y ++ textB e.n) (Exists.intro [IntKind.u8.wrap (IntKind.i64.wrap (e.bank + 1))] (And.intro rfl (And.intro rfl (And.intro (by rw [List.length_append]; omega) (And.intro (by simp) ?_)))))
      refine Exists.intro (Y ++ textB e.n ++ [IntKind.u8.wrap (IntKind.i64.wrap (e.bank + 1))]) (And.intro rfl (And.intro (by simp only [List.length_append, List.length_cons, List.length_nil]; omega) ?_))
      have hex : Y ++ exB e = Y ++ textB e.n ++ [IntKind.u8.wrap (IntKind.i64.wrap (e.bank + 1))] ++ numB e.pos 2 := by
        rw [num1, show IntKind.i64.wrap (e.bank + 1) = e.bank + 1 from wrap64 (by omega)]
        simp only [exB, List.append_assoc]
      refine Exists.intro [] ?_
      refine Exists.intro (m.exps.length - (i + 1)) (And.intro (by omega) ⟨i + 1, by omega, rfl, ?_, ?_⟩)
      · rw [wrap_succ hlt (by omega)]
      · rw [hst, hex]
    simp only [decide_eq_false_iff_not] at h1
    rw [List.take_of_length_le (by omega)] at hfl ⊢
    refine And.intro (closed_bytes _) ?_
    exact fin_l hp (by rw [List.length_map]) rfl
  · exact hp.elim
end Go.Proofs.Ytegcfogbdgmajaa.Ab
