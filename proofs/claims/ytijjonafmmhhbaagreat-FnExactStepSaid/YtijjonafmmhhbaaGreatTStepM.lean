/- Step of impl: the memory behind its pointer. No condition. -/
import Derived.Test.YtijjonafmmhhbaaGreatTStepD
namespace Go.Proofs.YtijjonafmmhhbaaGreat.Ab
set_option linter.unusedVariables false
set_option linter.unusedSimpArgs false

def hMRd : CH := fun args hl K => match args, hl with
  | [.ptr 0 0 0 _, .v (.int .i64 a), .v (.int .i64 s)], [.box [.sl 1 x, .sl 1 y, .sl 1 z]] => ∃ f r o : List Int, x = f.map byteC ∧ y = r.map byteC ∧ z = o.map byteC ∧ BytesOk f ∧ BytesOk r ∧ memOk f.length r.length o.length = true ∧ widthB s = true ∧ I64 a ∧
      K (.tup [.v (.int .i64 (readR f r o a s).1), .v (.int .i64 (readR f r o a s).2)]) [.box [.sl 1 (f.map byteC), .sl 1 (r.map byteC), .sl 1 (o.map byteC)]]
  | _, _ => False
def cx_s_mRead : Ctx := mkC [(122, iAt), (123, callM [] true hNum)]
theorem cx_s_mRead_ok : CtxOk Tryz.prog cx_s_mRead := mkC_ok (mem1 ⟨s_bytesAt, fnOk Tryz.func122 rfl rfl⟩ (mem1 ⟨s_number, fnOk Tryz.func123 rfl rfl⟩ mem0))
set_option maxRecDepth 100000 in
set_option pp.maxSteps 1500 in
set_option maxHeartbeats 8000000 in
theorem s_mRead : HSound Tryz.prog 115 (callM [.rw] true hMRd) := by
  refine callM_sound cx_s_mRead_ok mixed Tryz.func115 rfl fun args hl K hp => ?_
  unfold hMRd at hp
  split at hp
  · rename_i _ a s x y z
    obtain ⟨f, r, o, rfl, rfl, rfl, hf, hr, m0, m1, ia, hp⟩ := hp
    have hs : s = 1 ∨ s = 2 ∨ s = 4 := by simpa [widthB] using m1
    have hfl : f.length ≤ 16384 ∧ r.length ≤ 16384 ∧ o.length ≤ 5000 := by simpa [memOk] using m0
    simp only [I64] at ia
    have hsne : s ≠ 0 := by omega
    have mw : (memOk f.length r.length o.length && widthB s) = true := by rw [m0, m1]; rfl
    have fin : ∀ p : Int × Int, readR f r o a s = p → K (.tup [.v (.int .i64 p.1), .v (.int .i64 p.2)]) [.box [.sl 1 (f.map byteC), .sl 1 (r.map byteC), .sl 1 (o.map byteC)]] := fun p h => h ▸ hp
    clear hp
    refine And.intro hsne ?_
    refine And.intro (fun h2 => ?_) (fun h2 => ?_)
    · exact fin (0, 1) (by simp only [bne_iff_ne, ne_eq] at h2; simp [readR, mw, h2])
    have h2 : a.tmod s = 0 := by simpa using h2
    refine And.intro (fun h3 => ?_) (fun h3 => ?_)
    · have h3 : a = 131072 := by simpa using h3
      exact fin (0, 4) (by subst h3; simp [readR, mw, h2])
    have h3 : ¬ a = 131072 := by simpa using h3
    have fold : ∀ (l : List Int) (n : Nat), n = (l.map byteC).length → List.take n (l.map byteC) = l.map byteC ∧ (l.map byteC).length = n ∧ ClosedL (l.map byteC) := fun l n h => ⟨by rw [h, List.take_length], h.symm, closed_bytes l⟩
    refine Or.inl ?_
    refine And.intro (by omega) (And.intro (by omega) (And.intro (by omega) (And.intro (by omega) (And.intro (by omega) (And.intro (by omega) (And.intro (by omega) (And.intro (by rw [List.length_map]; omega) ?_)))))))
    rw [List.length_map]
    refine And.intro (fun h4 => ?_) (fun h4 => ?_)
    · have hi : 0 ≤ a ∧ a ≤ 0 + f.length - s := of_decide_eq_true h4
      have e1 : IntKind.i64.wrap (a + s) = a + s := wrap64 (by omega)
      have hc : cutB f a s = (f.drop a.toNat).take ((a + s).toNat - a.toNat) := by rw [cutB]; congr 1; omega
      have hl : (cutB f a s).length = s.toNat := by simp [cutB]; omega
      refine Exists.intro a.toNat (And.intro (by omega) (Exists.intro (a + s).toNat (And.intro (by rw [e1]; omega) (And.intro (by omega) (And.intro (by simp; omega) ?_)))))
      refine And.intro (fun h5 => by omega) ?_
      refine And.intro (fun h5 => by cases h5) (fun h5 => ?_)
      refine Exists.intro ((cutB f a s).map byteC) (And.intro (by rw [hc, Nat.zero_add, List.map_take, List.map_drop]) (And.intro (by rw [List.length_map, hl]; omega) (And.intro (closed_bytes _) ?_)))
      refine Exists.intro (cutB f a s) (And.intro rfl (And.intro (fun b hb => hf b (List.mem_of_mem_drop (List.mem_of_mem_take hb))) (And.intro (by rw [hl]; omega) ?_)))
      refine Exists.intro _ (And.intro (lendL byteC f) (And.intro (lenB f) (And.intro (closed_bytes _) ?_)))
      exact fin (lowB (cutB f a s), 0) (by simp only [readR, mw, h2, h3, h4]; simp)
    · refine And.intro (by omega) (And.intro (by omega) (And.intro (by omega) (And.intro (by omega) (And.intro (by omega) (And.intro (by omega) (And.intro (by omega) (And.intro (by rw [List.length_map]; omega) ?_)))))))
      rw [List.length_map]
      refine And.intro (fun h6 => ?_) (fun h6 => ?_)
      · have hi : 65536 ≤ a ∧ a ≤ 65536 + r.length - s := of_decide_eq_true h6
        have e0 : IntKind.i64.wrap (a - 65536) = a - 65536 := wrap64 (by omega)
        have e1 : IntKind.i64.wrap (a - 65536 + s) = a - 65536 + s := wrap64 (by omega)
        have hc : cutB r (a - 65536) s = (r.drop (a - 65536).toNat).take ((a - 65536 + s).toNat - (a - 65536).toNat) := by rw [cutB]; congr 1; omega
        have hl : (cutB r (a - 65536) s).length = s.toNat := by simp [cutB]; omega
        refine Exists.intro (a - 65536).toNat (And.intro (by omega) (Exists.intro (a - 65536 + s).toNat (And.intro (by rw [e0, e1]; omega) (And.intro (by omega) (And.intro (by simp; omega) ?_)))))
        refine And.intro (fun h5 => by omega) ?_
        refine And.intro (fun h5 => by cases h5) (fun h5 => ?_)
        refine Exists.intro ((cutB r (a - 65536) s).map byteC) (And.intro (by rw [hc, Nat.zero_add, List.map_take, List.map_drop]) (And.intro (by rw [List.length_map, hl]; omega) (And.intro (closed_bytes _) ?_)))
        refine Exists.intro (cutB r (a - 65536) s) (And.intro rfl (And.intro (fun b hb => hr b (List.mem_of_mem_drop (List.mem_of_mem_take hb))) (And.intro (by rw [hl]; omega) ?_)))
        refine Exists.intro _ (And.intro (lendL byteC f) (And.intro (lenB f) (And.intro (closed_bytes _) ?_)))
        refine Exists.intro _ (And.intro (lendL byteC r) (And.intro (lenB r) (And.intro (closed_bytes _) ?_)))
        exact fin (lowB (cutB r (a - 65536) s), 0) (by simp only [readR, mw, h2, h3, h4, h6]; simp)
      · refine Or.inl ?_
        refine Or.inl ?_
        refine And.intro (fun h5 => ?_) (fun h5 => by cases h5)
        refine Exists.intro _ (And.intro (lendL byteC f) (And.intro (lenB f) (And.intro (closed_bytes _) ?_)))
        refine Exists.intro _ (And.intro (lendL byteC r) (And.intro (lenB r) (And.intro (closed_bytes _) ?_)))
        exact fin (0, 2) (by simp only [readR, mw, h2, h3, h4, h6]; simp)
  · exact hp.elim

def hMWr : CH := fun args hl K => match args, hl with
  | [.ptr 0 0 0 _, .v (.int .i64 a), .v (.int .i64 s), .v (.int .i64 v)], [.box [.sl 1 x, .sl 1 y, .sl 1 z]] => ∃ f r o : List Int, x = f.map byteC ∧ y = r.map byteC ∧ z = o.map byteC ∧ memOk f.length r.length o.length = true ∧ widthB s = true ∧ I64 a ∧ I64 v ∧
      K (.v (.int .i64 (writeF f r o a s v).2.2)) [.box [.sl 1 (f.map byteC), .sl 1 ((writeF f r o a s v).1.map byteC), .sl 1 ((writeF f r o a s v).2.1.map byteC)]]
  | _, _ => False
def cx_s_mWrite : Ctx := mkC [(125, callM [] true hInside), (122, iAt), (126, iPut)]
theorem cx_s_mWrite_ok : CtxOk Tryz.prog cx_s_mWrite := mkC_ok (mem1 ⟨s_within, fnOk Tryz.func125 rfl rfl⟩ (mem1 ⟨s_bytesAt, fnOk Tryz.func122 rfl rfl⟩ (mem1 ⟨s_iPut, fnOk Tryz.func126 rfl rfl⟩ mem0)))
set_option maxRecDepth 100000 in
set_option pp.maxSteps 1500 in
set_option maxHeartbeats 8000000 in
theorem s_mWrite : HSound Tryz.prog 117 (callM [.rw] true hMWr) := by
  refine callM_sound cx_s_mWrite_ok mixed Tryz.func117 rfl fun args hl K hp => ?_
  unfold hMWr at hp
  split at hp
  · rename_i _ a s v x y z
    obtain ⟨f, r, o, rfl, rfl, rfl, m0, m1, ia, iv, hp⟩ := hp
    have hs : s = 1 ∨ s = 2 ∨ s = 4 := by simpa [widthB] using m1
    have hfl : f.length ≤ 16384 ∧ r.length ≤ 16384 ∧ o.length ≤ 5000 := by simpa [memOk] using m0
    simp only [I64] at ia iv
    have hsne : s ≠ 0 := by omega
    have hres : ∀ q, writeF f r o a s v = q → K (.v (.int .i64 q.2.2)) [.box [.sl 1 (f.map byteC), .sl 1 (q.1.map byteC), .sl 1 (q.2.1.map byteC)]] := fun q h => h ▸ hp
    clear hp
    refine And.intro hsne ?_
    refine And.intro (fun h2 => ?_) (fun h2 => ?_)
    · exact hres (r, o, 1) (by simp only [bne_iff_ne, ne_eq] at h2; simp [writeF, m0, m1, h2])
    have h2 : a.tmod s = 0 := by simpa using h2
    refine And.intro (fun h3 => ?_) (fun h3 => ?_)
    · have hA : a = 131072 := by simpa using h3
      refine And.intro (fun h4 => ?_) (fun h4 => ?_)
      · have hO : 5000 ≤ o.length := by have := of_decide_eq_true h4; rw [List.length_map] at this; omega
        refine Exists.intro _ (And.intro List.take_length (And.intro rfl (And.intro (closed_bytes _) ?_)))
        exact hres (r, o, 4) (by subst hA; simp [writeF, m0, m1, h2, hO])
      · have hO : ¬ 5000 ≤ o.length := by have := of_decide_eq_false h4; rw [List.length_map] at this; omega
        have e0 := (shB_eq v).1.symm
        refine Exists.intro [byteC (IntKind.u8.wrap v)] (And.intro rfl (And.intro rfl (And.intro (bytes_notSl [_]) ?_)))
        refine And.intro rfl ?_
        refine And.intro (by simp only [List.length_map, List.length_cons, List.length_nil]; omega) ?_
        refine And.intro (by simp only [List.length_map, List.length_cons, List.length_nil]; omega) ?_
        refine Exists.intro _ (And.intro (List.take_of_length_le (by simp)) (And.intro (by simp) (And.intro (closed_bytesA o [_]) ?_)))
        have key := hres (r, o ++ [byteV v 0], 0) (by subst hA; simp [writeF, m0, m1, h2, hO])
        rw [e0, List.map_append] at key
        exact key
    have h3 : ¬ a = 131072 := by simpa using h3
    refine And.intro (by omega) (And.intro (by omega) (And.intro (by omega) (And.intro (by omega) (And.intro (by omega) (And.intro (by omega) (And.intro (by omega) (And.intro (by rw [List.length_map]; omega) ?_)))))))
    rw [List.length_map]
    refine And.intro (fun h4 => ?_) (fun h4 => ?_)
    · refine Exists.intro _ (And.intro (lendL byteC f) (And.intro (lenB f) (And.intro (closed_bytes _) ?_)))
      exact hres (r, o, 3) (by simp [writeF, m0, m1, h2, h3, h4])
    refine And.intro (by omega) (And.intro (by omega) (And.intro (by omega) (And.intro (by omega) (And.intro (by omega) (And.intro (by omega) (And.intro (by omega) (And.intro (by rw [List.length_map]; omega) ?_)))))))
    rw [List.length_map]
    refine And.intro (fun h6 => ?_) (fun h6 => ?_)
    · have h6 : insideB a s 65536 r.length = false := by simpa using h6
      refine Exists.intro _ (And.intro (lendL byteC f) (And.intro (lenB f) (And.intro (closed_bytes _) ?_)))
      refine Exists.intro _ (And.intro (lendL byteC r) (And.intro (lenB r) (And.intro (closed_bytes _) ?_)))
      exact hres (r, o, 2) (by simp [writeF, m0, m1, h2, h3, h4, h6])
    have h6 : insideB a s 65536 r.length = true := by simpa using h6
    refine Or.inl ?_
    refine And.intro (by omega) (And.intro (by omega) (And.intro (by omega) (And.intro (by omega) (And.intro (by omega) (And.intro (by omega) (And.intro (by omega) (And.intro (by omega) ?_)))))))
    refine And.intro (fun h7 => absurd h7 (by rw [h4]; simp)) (fun h7 => ?_)
    refine And.intro (by omega) (And.intro (by omega) (And.intro (by omega) (And.intro (by omega) (And.intro (by omega) (And.intro (by omega) (And.intro (by omega) (And.intro (by omega) ?_)))))))
    refine And.intro (fun h8 => ?_) (fun h8 => absurd h8 (by rw [h6]; simp))
    have hin : 65536 ≤ a ∧ a ≤ 65536 + r.length - s := of_decide_eq_true h6
    have key := hres (putY r (a - 65536).toNat v s.toNat, o, 0) (by simp [writeF, m0, m1, h2, h3, h4, h6])
    obtain ⟨p, rfl⟩ : ∃ p : Nat, a = 65536 + p := ⟨(a - 65536).toNat, by omega⟩
    have hp0 : ((65536 + (p : Int)) - 65536).toNat = p := by omega
    simp only [hp0] at key
    have hw0 : IntKind.i64.wrap (65536 + (p : Int) - 65536) = (p : Int) := by rw [wrap64 (by omega)]; omega
    obtain ⟨e0, e1, e2, e3⟩ := shB_eq v
    clear hres
    rcases hs with rfl | rfl | rfl
    · refine Exists.intro p (And.intro hw0 (Exists.intro (p + 1) (And.intro (by rw [hw0, wrap64 (by omega)]; simp) (And.intro (by omega) (And.intro (by omega) ?_)))))
      repeat' ((first | refine And.intro (by decide) ?_ | refine And.intro (fun h9 => ?_) (fun h9 => ?_)) <;> try (exfalso; simp at h9; done))
      repeat' (refine And.intro (by decide) ?_)
      refine Exists.intro 0 (And.intro rfl (And.intro (by omega) ?_))
      obtain ⟨b0, g0⟩ := allB_get (allB_map r) (0 + p + 0) (by simp; omega)
      refine Exists.intro _ (And.intro g0 (And.intro (by decide) ?_))
      have eq : (putY r p v 1).map byteC = ((r.map byteC).set (0 + p + 0) (byteC (IntKind.u8.wrap v))) := by simp [putY, List.map_set, e0, e1, e2, e3]
      have hc := closed_bytes (putY r p v 1)
      rw [eq] at hc
      rw [show ((1 : Int).toNat) = 1 from rfl, eq] at key
      refine Exists.intro _ (And.intro (lendL byteC f) (And.intro (lenB f) (And.intro (closed_bytes _) ?_)))
      refine Exists.intro _ (And.intro (List.take_of_length_le (by simp)) (And.intro (by simp) (And.intro hc ?_)))
      exact key
    · refine Exists.intro p (And.intro hw0 (Exists.intro (p + 2) (And.intro (by rw [hw0, wrap64 (by omega)]; simp) (And.intro (by omega) (And.intro (by omega) ?_)))))
      repeat' ((first | refine And.intro (by decide) ?_ | refine And.intro (fun h9 => ?_) (fun h9 => ?_)) <;> try (exfalso; simp at h9; done))
      repeat' (refine And.intro (by decide) ?_)
      refine Exists.intro 1 (And.intro rfl (And.intro (by omega) ?_))
      obtain ⟨b1, g1⟩ := allB_get (allB_map r) (0 + p + 1) (by simp; omega)
      refine Exists.intro _ (And.intro g1 (And.intro (by decide) ?_))
      repeat' (refine And.intro (by decide) ?_)
      refine Exists.intro 0 (And.intro rfl (And.intro (by omega) ?_))
      obtain ⟨b0, g0⟩ := allB_get (allB_set (allB_map r) (0 + p + 1) (shB v 8)) (0 + p + 0) (by simp; omega)
      refine Exists.intro _ (And.intro g0 (And.intro (by decide) ?_))
      have eq : (putY r p v 2).map byteC = (((r.map byteC).set (0 + p + 1) (byteC (shB v 8))).set (0 + p + 0) (byteC (IntKind.u8.wrap v))) := by rw [← put_ord2]; simp [putY, List.map_set, e0, e1, e2, e3]
      have hc := closed_bytes (putY r p v 2)
      rw [eq] at hc
      rw [show ((2 : Int).toNat) = 2 from rfl, eq] at key
      refine Exists.intro _ (And.intro (lendL byteC f) (And.intro (lenB f) (And.intro (closed_bytes _) ?_)))
      refine Exists.intro _ (And.intro (List.take_of_length_le (by simp)) (And.intro (by simp) (And.intro hc ?_)))
      exact key
    · refine Exists.intro p (And.intro hw0 (Exists.intro (p + 4) (And.intro (by rw [hw0, wrap64 (by omega)]; simp) (And.intro (by omega) (And.intro (by omega) ?_)))))
      repeat' ((first | refine And.intro (by decide) ?_ | refine And.intro (fun h9 => ?_) (fun h9 => ?_)) <;> try (exfalso; simp at h9; done))
      repeat' (refine And.intro (by decide) ?_)
      refine Exists.intro 3 (And.intro rfl (And.intro (by omega) ?_))
      obtain ⟨b3, g3⟩ := allB_get (allB_map r) (0 + p + 3) (by simp; omega)
      refine Exists.intro _ (And.intro g3 (And.intro (by decide) ?_))
      repeat' (refine And.intro (by decide) ?_)
      refine Exists.intro 2 (And.intro rfl (And.intro (by omega) ?_))
      obtain ⟨b2, g2⟩ := allB_get (allB_set (allB_map r) (0 + p + 3) (shB v 24)) (0 + p + 2) (by simp; omega)
      refine Exists.intro _ (And.intro g2 (And.intro (by decide) ?_))
      repeat' (refine And.intro (by decide) ?_)
      refine Exists.intro 1 (And.intro rfl (And.intro (by omega) ?_))
      obtain ⟨b1, g1⟩ := allB_get (allB_set (allB_set (allB_map r) (0 + p + 3) (shB v 24)) (0 + p + 2) (shB v 16)) (0 + p + 1) (by simp; omega)
      refine Exists.intro _ (And.intro g1 (And.intro (by decide) ?_))
      repeat' (refine And.intro (by decide) ?_)
      refine Exists.intro 0 (And.intro rfl (And.intro (by omega) ?_))
      obtain ⟨b0, g0⟩ := allB_get (allB_set (allB_set (allB_set (allB_map r) (0 + p + 3) (shB v 24)) (0 + p + 2) (shB v 16)) (0 + p + 1) (shB v 8)) (0 + p + 0) (by simp; omega)
      refine Exists.intro _ (And.intro g0 (And.intro (by decide) ?_))
      have eq : (putY r p v 4).map byteC = (((((r.map byteC).set (0 + p + 3) (byteC (shB v 24))).set (0 + p + 2) (byteC (shB v 16))).set (0 + p + 1) (byteC (shB v 8))).set (0 + p + 0) (byteC (IntKind.u8.wrap v))) := by rw [← put_ord]; simp [putY, List.map_set, e0, e1, e2, e3]
      have hc := closed_bytes (putY r p v 4)
      rw [eq] at hc
      rw [show ((4 : Int).toNat) = 4 from rfl, eq] at key
      refine Exists.intro _ (And.intro (lendL byteC f) (And.intro (lenB f) (And.intro (closed_bytes _) ?_)))
      refine Exists.intro _ (And.intro (List.take_of_length_le (by simp)) (And.intro (by simp) (And.intro hc ?_)))
      exact key
  · exact hp.elim
end Go.Proofs.YtijjonafmmhhbaaGreat.Ab
