/- Read: both programs answer alike. No condition. -/
import Derived.Test.YtijjonafmmhhbaaGreatTMem2
import Derived.Test.YtijjonafmmhhbaaGreatTArgs
namespace Go.Proofs.YtijjonafmmhhbaaGreat.Ab

def widthB (s : Int) : Bool := decide (s = 1 ∨ s = 2 ∨ s = 4)
def hSize : CH := fun args hl K => match args, hl with
  | [.v (.int .i64 s)], [] => K (.v (.bool (widthB s))) []
  | _, _ => False
set_option maxRecDepth 100000 in
theorem s_l1Size : HSound Tryz.prog 68 (callM [] true hSize) := by
  refine callM_sound cx0_ok mixed Tryz.func68 rfl fun args hl K hp => ?_
  unfold hSize at hp
  split at hp
  · repeat' ((first | refine And.intro (fun h1 => ?_) (fun h1 => ?_) | refine And.intro (by decide) ?_ | refine And.intro (show wfB _ = true from by kernel_rfl) ?_ | refine And.intro (And.intro rfl rfl) ?_ | exact And.intro rfl rfl | apply HeldC.intro | exact AV.top | (apply HeldF.intro; refine Exists.intro _ (And.intro (by assumption) ?_); refine And.intro (by decide) ?_; exact And.intro rfl rfl) | (refine And.intro (by (refine Exists.intro _ (And.intro (by assumption) ?_); refine And.intro (by decide) ?_; exact And.intro rfl rfl)) ?_) | refine Or.inl ?_) <;> try cases h1)
    all_goals refine fin_b hp ?_
    all_goals clear hp
    all_goals rw [Bool.eq_iff_iff]
    all_goals simp [widthB] at *
    all_goals omega
  · exact hp.elim
set_option maxRecDepth 100000 in
theorem s_goodSize : HSound Tryz.prog 118 (callM [] true hSize) := by
  refine callM_sound cx0_ok mixed Tryz.func118 rfl fun args hl K hp => ?_
  unfold hSize at hp
  split at hp
  · repeat' ((first | refine And.intro (fun h1 => ?_) (fun h1 => ?_) | refine And.intro (by decide) ?_ | refine And.intro (show wfB _ = true from by kernel_rfl) ?_ | refine And.intro (And.intro rfl rfl) ?_ | exact And.intro rfl rfl | apply HeldC.intro | exact AV.top | (apply HeldF.intro; refine Exists.intro _ (And.intro (by assumption) ?_); refine And.intro (by decide) ?_; exact And.intro rfl rfl) | (refine And.intro (by (refine Exists.intro _ (And.intro (by assumption) ?_); refine And.intro (by decide) ?_; exact And.intro rfl rfl)) ?_) | refine Or.inl ?_) <;> try cases h1)
    all_goals refine fin_b hp ?_
    all_goals clear hp
    all_goals rw [Bool.eq_iff_iff]
    all_goals simp [widthB] at *
    all_goals omega
  · exact hp.elim

def insideB (at' size fr n : Int) : Bool := decide (fr ≤ at' ∧ at' ≤ fr + n - size)
def hInside : CH := fun args hl K => match args, hl with
  | [.v (.int .i64 a), .v (.int .i64 s), .v (.int .i64 f), .v (.int .i64 n)], [] => -9223372036854775808 ≤ a ∧ a ≤ 9223372036854775807 ∧ 1 ≤ s ∧ s ≤ 4 ∧ 0 ≤ f ∧ f ≤ 65536 ∧ 0 ≤ n ∧ n ≤ 16384 ∧ K (.v (.bool (insideB a s f n))) []
  | _, _ => False
set_option maxRecDepth 100000 in
theorem s_l1Inside : HSound Tryz.prog 71 (callM [] true hInside) := by
  refine callM_sound cx0_ok mixed Tryz.func71 rfl fun args hl K hp => ?_
  unfold hInside at hp
  split at hp
  · rename_i a s f n
    obtain ⟨b1, b2, b3, b4, b5, b6, b7, b8, hp⟩ := hp
    have w1 : IntKind.i64.wrap (f + n) = f + n := wrap64 (by omega)
    have w2 : IntKind.i64.wrap (f + n - s) = f + n - s := wrap64 (by omega)
    repeat' ((first | refine And.intro (fun h1 => ?_) (fun h1 => ?_) | refine And.intro (by decide) ?_ | refine And.intro (show wfB _ = true from by kernel_rfl) ?_ | refine And.intro (And.intro rfl rfl) ?_ | exact And.intro rfl rfl | apply HeldC.intro | exact AV.top | (apply HeldF.intro; refine Exists.intro _ (And.intro (by assumption) ?_); refine And.intro (by decide) ?_; exact And.intro rfl rfl) | (refine And.intro (by (refine Exists.intro _ (And.intro (by assumption) ?_); refine And.intro (by decide) ?_; exact And.intro rfl rfl)) ?_) | refine Or.inl ?_) <;> try cases h1)
    all_goals refine fin_b hp ?_
    all_goals clear hp
    all_goals rw [Bool.eq_iff_iff]
    all_goals simp only [w1, w2, insideB, decide_eq_true_eq, decide_eq_false_iff_not, reduceCtorEq, iff_false, iff_true] at *
    all_goals omega
  · exact hp.elim
set_option maxRecDepth 100000 in
theorem s_within : HSound Tryz.prog 125 (callM [] true hInside) := by
  refine callM_sound cx0_ok mixed Tryz.func125 rfl fun args hl K hp => ?_
  unfold hInside at hp
  split at hp
  · rename_i a s f n
    obtain ⟨b1, b2, b3, b4, b5, b6, b7, b8, hp⟩ := hp
    have w2 : IntKind.i64.wrap (n - s) = n - s := wrap64 (by omega)
    repeat' ((first | refine And.intro (fun h1 => ?_) (fun h1 => ?_) | refine And.intro (by decide) ?_ | refine And.intro (show wfB _ = true from by kernel_rfl) ?_ | refine And.intro (And.intro rfl rfl) ?_ | exact And.intro rfl rfl | apply HeldC.intro | exact AV.top | (apply HeldF.intro; refine Exists.intro _ (And.intro (by assumption) ?_); refine And.intro (by decide) ?_; exact And.intro rfl rfl) | (refine And.intro (by (refine Exists.intro _ (And.intro (by assumption) ?_); refine And.intro (by decide) ?_; exact And.intro rfl rfl)) ?_) | refine Or.inl ?_) <;> try cases h1)
    all_goals refine fin_b hp ?_
    all_goals clear hp
    all_goals rw [Bool.eq_iff_iff]
    all_goals simp only [w2, insideB, decide_eq_true_eq, decide_eq_false_iff_not, reduceCtorEq, iff_false, iff_true] at *
    all_goals first
      | omega
      | (have w1 : IntKind.i64.wrap (a - f) = a - f := wrap64 (by omega)
         rw [w1] at *
         omega)
  · exact hp.elim

def lowB : List Int → Int
  | [] => 0
  | b :: bs => lowB bs * 256 + b
def hLow : CH := fun args hl K => match args, hl with
  | [.imm _ _ 1 l], [] => ∃ bs, l = bs.map byteC ∧ BytesOk bs ∧ bs.length ≤ 4 ∧ K (.v (.int .i64 (lowB bs))) []
  | _, _ => False
theorem lowB_bound : ∀ {bs : List Int}, BytesOk bs → 0 ≤ lowB bs ∧ lowB bs < 256 ^ bs.length
  | [], _ => by simp [lowB]
  | b :: bs, h => by
    have h1 := lowB_bound (bs := bs) fun x hx => h x (List.mem_cons_of_mem _ hx)
    have h2 := h b List.mem_cons_self
    simp only [lowB, List.length_cons, Int.pow_succ]
    omega
set_option maxRecDepth 100000 in
theorem s_l1Low : HSound Tryz.prog 72 (callM [] true hLow) := by
  refine callM_sound cx0_ok mixed Tryz.func72 rfl fun args hl K hp => ?_
  unfold hLow at hp
  split at hp
  · rename_i t z l
    obtain ⟨bs, rfl, hb, hn, hp⟩ := hp
    have hw : IntKind.i64.wrap (((bs.map byteC).length : Int) - 1) = bs.length - 1 := by rw [List.length_map]; exact wrap64 (by omega)
    refine Exists.intro false (Exists.intro [0, 3, 4] (Exists.intro (fun m vs h => m ≤ bs.length ∧ vs = [.imm t z 1 (bs.map byteC), .v (.int .i64 (lowB (bs.drop m))), .v (.int .i64 ((m : Int) - 1))] ∧ h = []) (And.intro ?_ ?_)))
    · refine Exists.intro bs.length ?_
      refine ⟨by omega, ?_, rfl⟩
      rw [← hw]
      simp [lowB]
    · intro m vs h hI
      obtain ⟨hm, rfl, rfl⟩ := hI
      refine And.intro (fun h1 => ?_) (fun h1 => ?_)
      · simp only [ge_iff_le, decide_eq_true_eq] at h1
        obtain ⟨i, rfl⟩ : ∃ i, m = i + 1 := ⟨m - 1, by omega⟩
        have hlt : i < bs.length := by omega
        have hbi : bs[i]? = some bs[i] := List.getElem?_eq_getElem hlt
        refine Exists.intro i (And.intro (by omega) (Exists.intro (byteC bs[i]) (And.intro (by simp [hbi]) ?_)))
        have hd : bs.drop i = bs[i] :: bs.drop (i + 1) := (List.drop_eq_getElem_cons hlt)
        have hb' := hb bs[i] (List.getElem_mem hlt)
        have hlow := lowB_bound (bs := bs.drop (i + 1)) fun x hx => hb x (List.mem_of_mem_drop hx)
        have hpow : (256 : Int) ^ (bs.drop (i + 1)).length ≤ 16777216 := by
          have : (bs.drop (i + 1)).length = 0 ∨ (bs.drop (i + 1)).length = 1 ∨ (bs.drop (i + 1)).length = 2 ∨ (bs.drop (i + 1)).length = 3 := by
            rw [List.length_drop]; omega
          rcases this with e | e | e | e <;> rw [e] <;> decide
        refine Exists.intro i (And.intro (by omega) ?_)
        refine ⟨by omega, ?_, rfl⟩
        have e1 : IntKind.i64.wrap (IntKind.i64.wrap (lowB (List.drop (i + 1) bs) * 256) + IntKind.i64.wrap bs[i]) = lowB (bs.drop i) := by
          rw [wrap64 (x := lowB (List.drop (i + 1) bs) * 256) (by omega), wrap64 (x := bs[i]) (by omega), wrap64 (by omega), hd]
          rfl
        have e2 : IntKind.i64.wrap (((i + 1 : Nat) : Int) - 1 - 1) = (i : Int) - 1 := by
          rw [wrap64 (by omega)]; omega
        rw [← e1, ← e2]
      · simp only [ge_iff_le, decide_eq_false_iff_not] at h1
        have : m = 0 := by omega
        subst this
        exact hp
  · exact hp.elim
def hNum : CH := fun args hl K => match args, hl with
  | [.imm _ _ 1 l], [] => ∃ bs, l = bs.map byteC ∧ BytesOk bs ∧ (bs.length = 1 ∨ bs.length = 2 ∨ bs.length = 4) ∧ K (.v (.int .i64 (lowB bs))) []
  | _, _ => False
set_option maxRecDepth 100000 in
theorem s_number : HSound Tryz.prog 123 (callM [] true hNum) := by
  refine callM_sound cx0_ok mixed Tryz.func123 rfl fun args hl K hp => ?_
  unfold hNum at hp
  split at hp
  · rename_i t z l
    obtain ⟨bs, rfl, hb, hn, hp⟩ := hp
    rcases hn with hn | hn | hn
    · obtain ⟨a, rfl⟩ := List.length_eq_one_iff.1 hn
      repeat' ((first | refine And.intro (fun h1 => ?_) (fun h1 => ?_) | refine And.intro (by first | decide | omega | (omega)) ?_ | refine And.intro (show Region.lexB _ _ = true from by kernel_rfl) ?_ | refine And.intro (show wfB _ = true from by kernel_rfl) ?_ | refine And.intro (And.intro rfl rfl) ?_ | exact And.intro rfl rfl | apply HeldC.intro | exact AV.top | (apply HeldF.intro; refine Exists.intro _ (And.intro (by assumption) ?_); refine And.intro (by decide) ?_; exact And.intro rfl rfl) | (refine And.intro (by (refine Exists.intro _ (And.intro (by assumption) ?_); refine And.intro (by decide) ?_; exact And.intro rfl rfl)) ?_) | refine Or.inl ?_ | refine Exists.intro _ (And.intro (int_nat (by first | decide | omega | (omega))) (Exists.intro _ (And.intro rfl ?_)))) <;> try first | cases h1 | exact absurd h1 (by decide))
      refine fin_i hp ?_
      have ha := hb a (by simp)
      rw [wrap64 (x := a) (by omega), orI 8 ⟨0, by simp⟩ (by omega) (by omega) (by omega)]
      simp [lowB]
    · obtain ⟨a, b, rfl⟩ : ∃ a b, bs = [a, b] := by
        match bs, hn with
        | [a, b], _ => exact ⟨a, b, rfl⟩
      repeat' ((first | refine And.intro (fun h1 => ?_) (fun h1 => ?_) | refine And.intro (by first | decide | omega | (omega)) ?_ | refine And.intro (show Region.lexB _ _ = true from by kernel_rfl) ?_ | refine And.intro (show wfB _ = true from by kernel_rfl) ?_ | refine And.intro (And.intro rfl rfl) ?_ | exact And.intro rfl rfl | apply HeldC.intro | exact AV.top | (apply HeldF.intro; refine Exists.intro _ (And.intro (by assumption) ?_); refine And.intro (by decide) ?_; exact And.intro rfl rfl) | (refine And.intro (by (refine Exists.intro _ (And.intro (by assumption) ?_); refine And.intro (by decide) ?_; exact And.intro rfl rfl)) ?_) | refine Or.inl ?_ | refine Exists.intro _ (And.intro (int_nat (by first | decide | omega | (omega))) (Exists.intro _ (And.intro rfl ?_)))) <;> try first | cases h1 | exact absurd h1 (by decide))
      refine fin_i hp ?_
      have ha := hb a (by simp)
      have hb' := hb b (by simp)
      have g8 : (2 : Int) ^ min (Int.toNat 8) IntKind.i64.bits = 256 := by decide
      rw [wrap64 (x := a) (by omega), wrap64 (x := b) (by omega), g8, wrap64 (x := b * 256) (by omega), orI (x := 0) (y := b * 256) 16 ⟨0, by simp⟩ (by omega) (by omega) (by omega), orI (x := 0 + b * 256) (y := a) 8 ⟨b.toNat, by omega⟩ (by omega) (by omega) (by omega)]
      simp [lowB]
    · obtain ⟨a, b, c, d, rfl⟩ : ∃ a b c d, bs = [a, b, c, d] := by
        match bs, hn with
        | [a, b, c, d], _ => exact ⟨a, b, c, d, rfl⟩
      repeat' ((first | refine And.intro (fun h1 => ?_) (fun h1 => ?_) | refine And.intro (by first | decide | omega | (omega)) ?_ | refine And.intro (show Region.lexB _ _ = true from by kernel_rfl) ?_ | refine And.intro (show wfB _ = true from by kernel_rfl) ?_ | refine And.intro (And.intro rfl rfl) ?_ | exact And.intro rfl rfl | apply HeldC.intro | exact AV.top | (apply HeldF.intro; refine Exists.intro _ (And.intro (by assumption) ?_); refine And.intro (by decide) ?_; exact And.intro rfl rfl) | (refine And.intro (by (refine Exists.intro _ (And.intro (by assumption) ?_); refine And.intro (by decide) ?_; exact And.intro rfl rfl)) ?_) | refine Or.inl ?_ | refine Exists.intro _ (And.intro (int_nat (by first | decide | omega | (omega))) (Exists.intro _ (And.intro rfl ?_)))) <;> try first | cases h1 | exact absurd h1 (by decide))
      refine fin_i hp ?_
      have ha := hb a (by simp)
      have hb' := hb b (by simp)
      have hc := hb c (by simp)
      have hd := hb d (by simp)
      have g8 : (2 : Int) ^ min (Int.toNat 8) IntKind.i64.bits = 256 := by decide
      have g16 : (2 : Int) ^ min (Int.toNat 16) IntKind.i64.bits = 65536 := by decide
      have g24 : (2 : Int) ^ min (Int.toNat 24) IntKind.i64.bits = 16777216 := by decide
      rw [wrap64 (x := a) (by omega), wrap64 (x := b) (by omega), wrap64 (x := c) (by omega), wrap64 (x := d) (by omega), g8, g16, g24, wrap64 (x := b * 256) (by omega), wrap64 (x := c * 65536) (by omega), wrap64 (x := d * 16777216) (by omega),
        orI (x := d * 16777216) (y := c * 65536) 24 ⟨d.toNat, by omega⟩ (by omega) (by omega) (by omega), orI (x := d * 16777216 + c * 65536) (y := b * 256) 16 ⟨d.toNat * 256 + c.toNat, by omega⟩ (by omega) (by omega) (by omega), orI (x := d * 16777216 + c * 65536 + b * 256) (y := a) 8 ⟨d.toNat * 65536 + c.toNat * 256 + b.toNat, by omega⟩ (by omega) (by omega) (by omega)]
      simp only [lowB]
      omega
  · exact hp.elim

def cutB (l : List Int) (a n : Int) : List Int := (l.drop a.toNat).take n.toNat
def readR (f r o : List Int) (a s : Int) : Int × Int :=
  if (memOk f.length r.length o.length && widthB s) = false then (0, 2) else if a.tmod s ≠ 0 then (0, 1) else if a = 131072 then (0, 4)
  else if insideB a s 0 f.length = true then (lowB (cutB f a s), 0) else if insideB a s 65536 r.length = true then (lowB (cutB r (a - 65536) s), 0) else (0, 2)
def hRead : CH := fun args hl K => match args, hl with
  | [.agg [.imm _ _ 1 x, .imm _ _ 1 y, .imm _ _ 1 z], .v (.int .i64 a), .v (.int .i64 s)], [] => ∃ f r o : List Int, x = f.map byteC ∧ y = r.map byteC ∧ z = o.map byteC ∧ BytesOk f ∧ BytesOk r ∧ -9223372036854775808 ≤ a ∧ a ≤ 9223372036854775807 ∧
      K (.tup [.v (.int .i64 (readR f r o a s).1), .v (.int .i64 (readR f r o a s).2)]) []
  | _, _ => False
theorem fin_ii {K : AV → HP → Prop} {h : HP} {x y : Int} {p : Int × Int} (hp : K (.tup [.v (.int .i64 p.1), .v (.int .i64 p.2)]) h) (e : p = (x, y)) : K (.tup [.v (.int .i64 x), .v (.int .i64 y)]) h := by subst e; exact hp
def cxSRead : Ctx := mkC [(33, callM [] true hMemOk), (68, callM [] true hSize), (71, callM [] true hInside), (72, callM [] true hLow)]
theorem cxSRead_ok : CtxOk Tryz.prog cxSRead := mkC_ok (mem1 ⟨s_spec_MemOk, fnOk Tryz.func33 rfl rfl⟩ (mem1 ⟨s_l1Size, fnOk Tryz.func68 rfl rfl⟩
  (mem1 ⟨s_l1Inside, fnOk Tryz.func71 rfl rfl⟩ (mem1 ⟨s_l1Low, fnOk Tryz.func72 rfl rfl⟩ mem0))))
set_option maxRecDepth 100000 in
set_option pp.maxSteps 1500 in
theorem s_spec_Read : HSound Tryz.prog 35 (callM [] true hRead) := by
  refine callM_sound cxSRead_ok mixed Tryz.func35 rfl fun args hl K hp => ?_
  unfold hRead at hp
  split at hp
  · rename_i x y z a s
    obtain ⟨f, r, o, rfl, rfl, rfl, hf, hr, ha0, ha1, hp⟩ := hp
    repeat' ((first | refine And.intro (fun h1 => ?_) (fun h1 => ?_) | refine And.intro (by first | decide | omega | (simp [widthB, memOk, insideB] at *; omega)) ?_ | refine And.intro (show Region.lexB _ _ = true from by kernel_rfl) ?_ | refine And.intro (show wfB _ = true from by kernel_rfl) ?_ | refine And.intro (And.intro rfl rfl) ?_ | exact And.intro rfl rfl | apply HeldC.intro | exact AV.top | (apply HeldF.intro; refine Exists.intro _ (And.intro (by assumption) ?_); refine And.intro (by decide) ?_; exact And.intro rfl rfl) | (refine And.intro (by (refine Exists.intro _ (And.intro (by assumption) ?_); refine And.intro (by decide) ?_; exact And.intro rfl rfl)) ?_) | refine Or.inl ?_ | refine Exists.intro _ (And.intro (int_nat (by first | decide | omega | (simp [widthB, memOk, insideB] at *; omega))) (Exists.intro _ (And.intro rfl ?_)))) <;> try first | cases h1 | exact absurd h1 (by decide))
    all_goals try (refine fin_ii hp ?_; clear hp; simp at *; first | (simp [readR, *]; done) | (simp_all [readR]; done))
    · have m0 : (!memOk (List.map byteC f).length (List.map byteC r).length (List.map byteC o).length) = false := by assumption
      have m1 : (!widthB s) = false := by assumption
      have hs : s = 1 ∨ s = 2 ∨ s = 4 := by simp [widthB] at m1; omega
      have hi : 0 ≤ a ∧ a ≤ f.length - s := by simp [insideB] at h1; omega
      have hl : f.length ≤ 16384 := by simp [memOk] at m0; omega
      have e1 : IntKind.i64.wrap (a + s) = a + s := wrap64 (by omega)
      have hc : cutB f a s = (f.drop a.toNat).take ((a + s).toNat - a.toNat) := by rw [cutB]; congr 1; omega
      refine Exists.intro a.toNat (And.intro (by omega) (Exists.intro (a + s).toNat (And.intro (by rw [e1]; omega) (And.intro (by omega) (And.intro (by simp; omega) ?_)))))
      refine Exists.intro (cutB f a s) (And.intro ?_ (And.intro ?_ (And.intro ?_ ?_)))
      · rw [hc]; simp
      · exact fun b hb => hf b (List.mem_of_mem_drop (List.mem_of_mem_take hb))
      · simp [cutB]; omega
      · refine fin_ii hp ?_
        simp at *
        simp [readR, *]
    · have m0 : (!memOk (List.map byteC f).length (List.map byteC r).length (List.map byteC o).length) = false := by assumption
      have m1 : (!widthB s) = false := by assumption
      have hs : s = 1 ∨ s = 2 ∨ s = 4 := by simp [widthB] at m1; omega
      have hi : 65536 ≤ a ∧ a ≤ 65536 + r.length - s := by simp [insideB] at h1; omega
      have hl : r.length ≤ 16384 := by simp [memOk] at m0; omega
      have e0 : IntKind.i64.wrap (a - 65536) = a - 65536 := wrap64 (by omega)
      have e1 : IntKind.i64.wrap (a - 65536 + s) = a - 65536 + s := wrap64 (by omega)
      have hc : cutB r (a - 65536) s = (r.drop (a - 65536).toNat).take ((a - 65536 + s).toNat - (a - 65536).toNat) := by rw [cutB]; congr 1; omega
      refine Exists.intro (a - 65536).toNat (And.intro (by omega) (Exists.intro (a - 65536 + s).toNat (And.intro (by rw [e0, e1]; omega) (And.intro (by omega) (And.intro (by simp; omega) ?_)))))
      refine Exists.intro (cutB r (a - 65536) s) (And.intro ?_ (And.intro ?_ (And.intro ?_ ?_)))
      · rw [hc]; simp
      · exact fun b hb => hr b (List.mem_of_mem_drop (List.mem_of_mem_take hb))
      · simp [cutB]; omega
      · refine fin_ii hp ?_
        simp at *
        simp [readR, *]
  · exact hp.elim

def cxAt : Ctx := mkC [(125, callM [] true hInside)]
theorem cxAt_ok : CtxOk Tryz.prog cxAt := mkC_ok (mem1 ⟨s_within, fnOk Tryz.func125 rfl rfl⟩ mem0)
def iAt : Handler := inlH cxAt Tryz.f122.ntmps Tryz.f122.results.toList (Tryz.f122.body.getD .skip)
theorem s_bytesAt : HSound Tryz.prog 122 iAt := inlF cxAt_ok mixed Tryz.func122 rfl
def cxrd : Ctx := mkC [(122, iAt), (123, callM [] true hNum)]
theorem cxrd_ok : CtxOk Tryz.prog cxrd := mkC_ok (mem1 ⟨s_bytesAt, fnOk Tryz.func122 rfl rfl⟩ (mem1 ⟨s_number, fnOk Tryz.func123 rfl rfl⟩ mem0))
def ird : Handler := inlH cxrd Tryz.f115.ntmps Tryz.f115.results.toList (Tryz.f115.body.getD .skip)
theorem s_rd : HSound Tryz.prog 115 ird := inlF cxrd_ok mixed Tryz.func115 rfl
def cxIRead : Ctx := mkC [(45, callM [] true hMemOk), (118, callM [] true hSize), (115, ird)]
theorem cxIRead_ok : CtxOk Tryz.prog cxIRead := mkC_ok (mem1 ⟨s_impl_MemOk, fnOk Tryz.func45 rfl rfl⟩ (mem1 ⟨s_goodSize, fnOk Tryz.func118 rfl rfl⟩
  (mem1 ⟨s_rd, fnOk Tryz.func115 rfl rfl⟩ mem0)))
end Go.Proofs.YtijjonafmmhhbaaGreat.Ab
