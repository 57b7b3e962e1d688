/- Functions walked, part 16. No condition. -/
import Derived.Test.YtbfjkjdbdejnmaaGreatWalk15
import Derived.Test.YtbfjkjdbdejnmaaGreatWalk10
set_option linter.unusedVariables false
set_option linter.unusedSimpArgs false
/- Machines of the reference: frames, all slots. No condition. -/
namespace Go.Proofs.YtbfjkjdbdejnmaaGreat.Ab
set_option linter.unusedVariables false
set_option linter.unusedSimpArgs false
set_option maxRecDepth 100000

def hFrames : CH := fun args hl K => match args, hl with
  | [a], [] => ∃ m : Mc, McV a m ∧ smMc m ∧ (∀ x ∈ m.mods, GoodM x) ∧ K (.v (.bool (framesB m))) []
  | _, _ => False
theorem there_spec {ms : List Mo} {i b : Int} (h : thereB ms i b = true) : ∃ (I : Nat) (x : Mo) (ws : List Int), i = I ∧ ms[I]? = some x ∧ pieceOf x b = some ws := by
  unfold thereB at h
  rw [Bool.and_eq_true, decide_eq_true_eq] at h
  obtain ⟨I, rfl⟩ := Int.eq_ofNat_of_zero_le h.1
  have h2 := h.2
  rw [Int.toNat_natCast] at h2
  split at h2
  · rename_i x hx
    obtain ⟨ws, hws⟩ := Option.isSome_iff_exists.1 h2
    exact ⟨I, x, ws, rfl, hx, hws⟩
  · cases h2
theorem frame_at {ms : List Mo} {f : Fr} {I : Nat} {x : Mo} {ws : List Int} (hi : f.mod = I) (hx : ms[I]? = some x) (hw : pieceOf x f.bank = some ws) : frameB ms f = decide (0 ≤ f.base ∧ f.base ≤ 4294967295 ∧ 0 ≤ f.pos ∧ f.pos ≤ ws.length) := by
  have ht : thereB ms f.mod f.bank = true := by rw [hi, there_at hx, hw]; rfl
  rw [frameB, ht, Bool.true_and, hi, Int.toNat_natCast, hx]
  simp only [pieceLen, hw]
def cx_s_l7FramesOk : Ctx := mkCut [(64, callM [] true hThere), (91, callM [] false hPiece)]
theorem cx_s_l7FramesOk_ok : CtxOk Tryz.prog cx_s_l7FramesOk := mkCut_ok (mem1 ⟨s_l6There, fnOk Tryz.func64 rfl rfl⟩ (mem1 ⟨s_l4Piece, fnOk Tryz.func91 rfl rfl⟩ mem0))
set_option maxRecDepth 100000 in
set_option pp.maxSteps 1500 in
set_option maxHeartbeats 8000000 in
theorem s_l7FramesOk : HSound Tryz.prog 124 (callM [] true hFrames) := by
  refine callM_sound cx_s_l7FramesOk_ok mixed Tryz.func124 rfl fun args hl K hp => ?_
  unfold hFrames at hp
  split at hp
  · rename_i a
    obtain ⟨m, ⟨b1, z1, b2, z2, b3, z3, b4, z4, b5, z5, b6, z6, b7, z7, rfl⟩, hsm, hgm, hp⟩ := hp
    have e0 : (m.shadow.map frC).length = m.shadow.length := List.length_map _
    have hsl := hsm.shadow
    rw [framesB] at hp
    refine Or.inl ?_
    refine And.intro (fun h1 => ?_) (fun h1 => ?_)
    · have h1 := of_decide_eq_true h1
      rw [e0] at h1
      rw [decide_eq_false (by omega), Bool.false_and] at hp
      exact hp
    have h1 := of_decide_eq_false h1
    rw [e0] at h1
    rw [decide_eq_true (by omega), Bool.true_and] at hp
    refine Exists.intro true (Exists.intro [1, 3] (Exists.intro (fun n vs h => ∃ k : Nat, k ≤ m.shadow.length ∧ n = m.shadow.length - k ∧ (m.shadow.take k).all (frameB m.mods) = true ∧ vs = [.ptr 0 0 0 15, .v (.int .i64 k)] ∧ h = [.box (mcI m b1 z1 b2 z2 b3 z3 b4 z4 b5 z5 b6 z6 b7 z7)]) (And.intro ?_ ?_)))
    · refine Exists.intro [] ?_
      exact Exists.intro m.shadow.length ⟨0, by omega, rfl, rfl, rfl, rfl⟩
    intro n vs h hJ
    obtain ⟨k, hk, rfl, hcl, rfl, rfl⟩ := hJ
    refine Or.inl ?_
    refine And.intro (fun h2 => ?_) (fun h2 => ?_)
    · have h2 := of_decide_eq_true h2
      rw [e0] at h2
      have hlt : k < m.shadow.length := by omega
      obtain ⟨f, hf⟩ : ∃ f, m.shadow[k]? = some f := ⟨_, List.getElem?_eq_getElem hlt⟩
      have hbad : frameB m.mods f = false → K (.v (.bool false)) [] := fun h => by rw [all_bad hf h] at hp; exact hp
      have hgood : frameB m.mods f = true → (m.shadow.take (k + 1)).all (frameB m.mods) = true := fun h => all_take hf hcl h
      refine Exists.intro k (And.intro rfl (Exists.intro (frC f) (And.intro (get_map hf) ?_)))
      refine Or.inl ?_
      refine Exists.intro m.mods (And.intro rfl (And.intro hsm.mo ?_))
      cases hT : thereB m.mods f.mod f.bank with
      | false =>
        repeat' ((first
          | refine And.intro (fun h5 => ?_) (fun h5 => ?_)
          | fail) <;> try first | (cases h5; done))
        exact hbad (by rw [frameB, hT]; rfl)
      | true =>
        obtain ⟨I, x, ws, hi, hx, hw⟩ := there_spec hT
        have hxg := hgm x (List.mem_of_getElem? hx)
        have hwl := piece_len hxg hw
        rw [frame_at hi hx hw] at hbad hgood
        repeat' ((first
          | refine And.intro (fun h5 => ?_) (fun h5 => ?_)
          | fail) <;> try first | (cases h5; done))
        · exact hbad (decide_eq_false (by clear hbad hgood hp hsm hgm; simp only [decide_eq_true_eq, decide_eq_false_iff_not, gt_iff_lt] at *; omega))
        · exact hbad (decide_eq_false (by clear hbad hgood hp hsm hgm; simp only [decide_eq_true_eq, decide_eq_false_iff_not, gt_iff_lt] at *; omega))
        rename_i u0 _ 
        have u0 : ¬ f.base < 0 := by
          have : decide (f.base < 0) = false := by assumption
          simpa using this
        have u1 : ¬ f.base > 4294967295 := of_decide_eq_false h5
        first | refine Or.inl (Or.inl ?_) | refine Or.inl ?_
        refine And.intro (show wfB _ = true from by kernel_rfl) ?_
        rw [hi]
        refine Exists.intro I (And.intro rfl (Exists.intro (moC x) (And.intro (get_map hx) ?_)))
        apply HeldC.all (fun y h2 => ∃ t' z', y = .tup [.imm t' z' 1 (ws.map intC), .v (.bool true)] ∧ h2 = [.box (mcI m b1 z1 b2 z2 b3 z3 b4 z4 b5 z5 b6 z6 b7 z7), .box [.v (.int .i64 I), .v (.int .i64 f.bank), .v (.int .i64 f.pos), .v (.int .i64 f.base)]])
        · refine Exists.intro x (And.intro ⟨_, _, _, _, _, _, _, _, _, _, _, _, rfl⟩ (And.intro (hsm.mo x (List.mem_of_getElem? hx)) ?_))
          rw [hw]
          intro t' z'
          exact ⟨_, _, ⟨t', z', rfl, rfl⟩, rfl, rfl⟩
        rintro y h2 ⟨t', z', rfl, rfl⟩
        repeat' ((first
          | refine And.intro (fun h5 => ?_) (fun h5 => ?_)
          | fail) <;> try first | (cases h5; done))
        · exact hbad (decide_eq_false (by clear hbad hgood hp hsm hgm; simp only [decide_eq_true_eq, decide_eq_false_iff_not, gt_iff_lt, List.length_map] at *; omega))
        · exact hbad (decide_eq_false (by clear hbad hgood hp hsm hgm; simp only [decide_eq_true_eq, decide_eq_false_iff_not, gt_iff_lt, List.length_map] at *; omega))
        refine Exists.intro [] (Exists.intro (m.shadow.length - (k + 1)) (And.intro (by omega) ⟨k + 1, by omega, rfl, hgood (decide_eq_true (by clear hbad hgood hp hsm hgm; simp only [decide_eq_true_eq, decide_eq_false_iff_not, gt_iff_lt, List.length_map] at *; omega)), ?_, rfl⟩))
        rw [wrap_succ hlt (by omega)]
    · have h2 := of_decide_eq_false h2
      rw [e0] at h2
      have hke : k = m.shadow.length := by omega
      subst hke
      rw [List.take_length] at hcl
      rw [hcl] at hp
      exact hp
  · exact hp.elim
/-- What a layout of a machine's modules is like. -/
structure LkM (m : Mc) (l : La) : Prop where
  good : ∀ x ∈ m.mods, GoodM x
  ns : (l.slots.length : Int) = m.cfg.slots
  w : 0 ≤ m.cfg.words ∧ m.cfg.words ≤ 64
  at' : ∀ (i : Nat) a, l.slots[i]? = some a → 65536 ≤ a ∧ a - 65536 + rup (4 * m.cfg.words.toNat) ≤ l.ram
  long : 0 < m.cfg.slots → ∀ x ∈ m.mods, ∀ b ∈ x.banks, (b.length : Int) ≤ m.cfg.words
  ram : 0 ≤ l.ram ∧ l.ram ≤ 16384
  nsl : m.cfg.slots ≤ 4
def hSlots : CH := fun args hl K => match args, hl with
  | [a, b], [] => ∃ (m : Mc) (l : La), McV a m ∧ smMc m ∧ LaV b l ∧ LkM m l ∧ (m.r.length : Int) = l.ram ∧ K (.v (.bool (slotsB m l))) []
  | _, _ => False
theorem slot_used {ms : List Mo} {ss : List Sl} {T : Int} {i : Nat} {s : Sl} (hs : ss[i]? = some s) (hu : s.used = true) (h : slotOkB ms ss T i = true) : thereB ms s.mod s.bank = true ∧ 0 ≤ s.bank := by
  rw [slotOkB, hs] at h
  simp only [hu, if_true, Bool.and_eq_true, decide_eq_true_eq] at h
  exact ⟨h.1.1, h.1.2.1⟩
theorem range_take {f : Nat → Bool} {n k : Nat} (hk : k < n) (h : (List.range k).all f = true) (h2 : f k = true) : (List.range (k + 1)).all f = true := by
  rw [List.range_succ, List.all_append, h]
  simp [h2]
theorem slotBy_len (ms : List Mo) (w m b : Int) : (slotBy ms w m b).length = rup (4 * w.toNat) := by
  rw [slotBy, pourN_len, List.length_replicate]
def cx_s_l7SlotsOk : Ctx := mkCut [(159, callM [] true hSlotOk), (160, callM [] true hSlotBy), (122, callM [] true hEqByt), (161, callM [] true hHolds)]
theorem cx_s_l7SlotsOk_ok : CtxOk Tryz.prog cx_s_l7SlotsOk := mkCut_ok (mem1 ⟨s_l7SlotOk, fnOk Tryz.func159 rfl rfl⟩ (mem1 ⟨s_l7SlotBytes, fnOk Tryz.func160 rfl rfl⟩ (mem1 ⟨s_l7Bytes, fnOk Tryz.func122 rfl rfl⟩ (mem1 ⟨s_l7Holds, fnOk Tryz.func161 rfl rfl⟩ mem0))))
set_option maxRecDepth 100000 in
set_option pp.maxSteps 1500 in
set_option maxHeartbeats 16000000 in
theorem s_l7SlotsOk : HSound Tryz.prog 123 (callM [] true hSlots) := by
  refine callM_sound cx_s_l7SlotsOk_ok mixed Tryz.func123 rfl fun args hl K hp => ?_
  unfold hSlots at hp
  split at hp
  · rename_i a b
    obtain ⟨m, l, ⟨b1, z1, b2, z2, b3, z3, b4, z4, b5, z5, b6, z6, b7, z7, rfl⟩, hsm, ⟨d1, y1, d2, y2, d3, y3, rfl⟩, ⟨kg, kn, ⟨kw0, kw1⟩, ka, kl, ⟨kr0, kr1⟩, knl⟩, hram, hp⟩ := hp
    have e0 : (m.slots.map slC).length = m.slots.length := List.length_map _
    have hsl := hsm.slots
    rw [slotsB] at hp
    refine Or.inl ?_
    refine And.intro (fun h1 => ?_) (fun h1 => ?_)
    · have h1 : ¬ ((m.slots.length : Int) = m.cfg.slots) := by
        have := h1
        rw [e0] at this
        simpa using this
      rw [decide_eq_false h1, Bool.false_and, Bool.false_and] at hp
      exact hp
    have h1 : (m.slots.length : Int) = m.cfg.slots := by
      have := h1
      rw [e0] at this
      simpa using this
    rw [decide_eq_true h1, Bool.true_and] at hp
    have hbad : ∀ i, i < m.slots.length → (slotOkB m.mods m.slots m.turn i && slotIn m l i) = false → K (.v (.bool false)) [] := fun i hi h => by
      rw [range_bad (f := fun i => slotOkB m.mods m.slots m.turn i && slotIn m l i) hi h, Bool.false_and] at hp
      exact hp
    refine Exists.intro true (Exists.intro [2, 3, 5] (Exists.intro (fun n vs h => ∃ k : Nat, k ≤ m.slots.length ∧ n = m.slots.length - k ∧ (List.range k).all (fun i => slotOkB m.mods m.slots m.turn i && slotIn m l i) = true ∧ vs = [.ptr 0 0 0 15, .ptr 1 0 0 6, .v (.int .i64 k)] ∧ h = [.box (mcI m b1 z1 b2 z2 b3 z3 b4 z4 b5 z5 b6 z6 b7 z7), .box (laI l d1 y1 d2 y2 d3 y3)]) (And.intro ?_ ?_)))
    · refine Exists.intro [] ?_
      exact Exists.intro m.slots.length ⟨0, by omega, rfl, rfl, rfl, rfl⟩
    intro n vs h hJ
    obtain ⟨k, hk, rfl, hcl, rfl, rfl⟩ := hJ
    refine Or.inl ?_
    refine And.intro (fun h2 => ?_) (fun h2 => ?_)
    · have h2 := of_decide_eq_true h2
      rw [e0] at h2
      have hlt : k < m.slots.length := by omega
      obtain ⟨s, hs⟩ : ∃ s, m.slots[k]? = some s := ⟨_, List.getElem?_eq_getElem hlt⟩
      obtain ⟨ak, hak⟩ : ∃ a, l.slots[k]? = some a := ⟨_, List.getElem?_eq_getElem (by omega)⟩
      obtain ⟨ka1, ka2⟩ := ka k ak hak
      have hbk := hbad k hlt
      have hin : slotIn m l k = (!s.used || decide (ramAt m.r ak (rup (4 * m.cfg.words.toNat)) = slotBy m.mods m.cfg.words s.mod s.bank)) := by
        simp only [slotIn, hs, List.getD_eq_getElem?_getD, hak, Option.getD_some]
      refine Or.inl ?_
      refine Exists.intro m ?_
      refine Exists.intro k (And.intro ⟨_, _, _, _, _, _, _, _, _, _, _, _, _, _, rfl⟩ (And.intro hsm (And.intro rfl (And.intro hlt ?_))))
      cases hok : slotOkB m.mods m.slots m.turn k with
      | false =>
        refine And.intro (fun h5 => ?_) (fun h5 => ?_)
        · exact hbk (by rw [hok]; rfl)
        · cases h5
      | true =>
        rw [hok, Bool.true_and] at hbk
        refine And.intro (fun h5 => ?_) (fun h5 => ?_)
        · cases h5
        have hnext : slotIn m l k = true → (List.range (k + 1)).all (fun i => slotOkB m.mods m.slots m.turn i && slotIn m l i) = true := fun h => range_take hlt hcl (by rw [hok, h]; rfl)
        refine Exists.intro k (And.intro rfl (Exists.intro (slC s) (And.intro (get_map hs) ?_)))
        refine And.intro (fun h6 => ?_) (fun h6 => ?_)
        · obtain ⟨ht, hb0⟩ := slot_used hs h6 hok
          obtain ⟨I, x, ws, hi, hx, hw⟩ := there_spec ht
          obtain ⟨B, hB⟩ := Int.eq_ofNat_of_zero_le hb0
          obtain ⟨W, hW⟩ := Int.eq_ofNat_of_zero_le kw0
          have hxg := kg x (List.mem_of_getElem? hx)
          have hwb : x.banks[B]? = some ws := by
            rw [pieceOf, if_neg (by omega)] at hw
            split at hw
            · rw [hB, Int.toNat_natCast] at hw
              exact hw
            · cases hw
          have hxb := hxg.bk ws (List.mem_of_getElem? hwb)
          have hwl := kl (by omega) x (List.mem_of_getElem? hx) ws (List.mem_of_getElem? hwb)
          have hsb := slotBy_len m.mods m.cfg.words s.mod s.bank
          have hrl := rup_le (4 * W)
          rw [hin, h6, Bool.not_true, Bool.false_or] at hbk hnext
          rw [hi, hB] at hbk hnext hsb
          refine Or.inl (Or.inl ?_)
          refine And.intro (show wfB _ = true from by kernel_rfl) ?_
          refine Exists.intro k (And.intro rfl (Exists.intro (slC s) (And.intro (get_map hs) ?_)))
          apply HeldC.intro
          · refine Exists.intro m ?_
            refine Exists.intro x ?_
            refine Exists.intro I ?_
            refine Exists.intro B ?_
            refine Exists.intro W ?_
            refine Exists.intro ws (And.intro ⟨_, _, _, _, _, _, _, _, _, _, _, _, _, _, rfl⟩ (And.intro hsm (And.intro hi (And.intro hB (And.intro hx (And.intro hwb (And.intro hW (And.intro (by omega) (And.intro hxb.2 (And.intro (by omega) ?_))))))))))
            exact And.intro rfl rfl
          have hwa : IntKind.i64.wrap (ak - 65536) = (((ak - 65536).toNat : Nat) : Int) := by rw [wrap64 (by omega)]; omega
          have hwa2 : IntKind.i64.wrap (IntKind.i64.wrap (ak - 65536) + ((slotBy m.mods m.cfg.words I B).length : Int)) = (((ak - 65536).toNat + rup (4 * m.cfg.words.toNat) : Nat) : Int) := by rw [hwa, hsb, wrap64 (by omega)]; omega
          refine Exists.intro k (And.intro rfl (Exists.intro (intC ak) (And.intro (get_map hak) ?_)))
          refine Exists.intro (ak - 65536).toNat (And.intro hwa (Exists.intro ((ak - 65536).toNat + rup (4 * m.cfg.words.toNat)) (And.intro hwa2 (And.intro (by omega) (And.intro (by rw [List.length_map]; omega) ?_)))))
          refine Exists.intro _ (And.intro (lendD _ _) (And.intro (List.length_map _) ?_))
          refine And.intro (closed_bytes _) ?_
          refine Exists.intro (ramAt m.r ak (rup (4 * m.cfg.words.toNat))) ?_
          refine Exists.intro (slotBy m.mods m.cfg.words I B) (And.intro (by rw [Nat.add_sub_cancel_left, ramAt, List.map_take, List.map_drop]) (And.intro rfl (And.intro (by rw [ramAt, List.length_take]; omega) ?_)))
          cases hD : decide (ramAt m.r ak (rup (4 * m.cfg.words.toNat)) = slotBy m.mods m.cfg.words I B) with
          | false =>
            refine And.intro (fun h7 => ?_) (fun h7 => ?_)
            · exact hbk hD
            · cases h7
          | true =>
            refine And.intro (fun h7 => ?_) (fun h7 => ?_)
            · cases h7
            refine Exists.intro [] ?_
            refine Exists.intro (m.slots.length - (k + 1)) (And.intro (by omega) ⟨k + 1, by omega, rfl, hnext hD, ?_, rfl⟩)
            rw [wrap_succ hlt (by omega)]
        · refine Exists.intro [] (Exists.intro (m.slots.length - (k + 1)) (And.intro (by omega) ⟨k + 1, by omega, rfl, hnext (by rw [hin, h6]; rfl), ?_, rfl⟩))
          rw [wrap_succ hlt (by omega)]
    · have h2 := of_decide_eq_false h2
      rw [e0] at h2
      have hke : k = m.slots.length := by omega
      subst hke
      rw [hcl, Bool.true_and] at hp
      repeat' ((first
        | refine And.intro (fun h5 => ?_) (fun h5 => ?_)
        | refine Exists.intro m.slots (And.intro rfl (And.intro hsl ?_))
        | fail) <;> try first | (cases h5; done))
      · refine fin_b hp ?_
        rename_i q _ _
        have q := eq_of_beq q
        rw [e0] at q
        rw [decide_eq_true (Or.inl (by omega)), Bool.true_or]
      · refine fin_b hp ?_
        rw [decide_eq_true (Or.inr (eq_of_beq (by assumption : (m.bank == -1) = true))), Bool.true_or]
      · refine fin_b hp ?_
        have q1 : ¬ (m.slots.length = 0 ∨ m.bank = -1) := by
          clear hp hbad
          simp only [e0, beq_eq_false_iff_ne, ne_eq] at *
          omega
        rw [decide_eq_false q1, Bool.false_or]
  · exact hp.elim
end Go.Proofs.YtbfjkjdbdejnmaaGreat.Ab

/- Machines: the layout that Link gives, in plain words. No condition. -/
namespace Go.Proofs.YtbfjkjdbdejnmaaGreat.Ab
set_option linter.unusedVariables false
set_option linter.unusedSimpArgs false

theorem slP_get (w r : Nat) : ∀ {n i : Nat}, i < n → (slP w r n).1[i]? = some (65536 + ((r + i * rup (4 * w) : Nat) : Int))
  | 0, i, h => by omega
  | n + 1, i, h => by
    have hl := slP_len w r n
    rcases Nat.lt_or_ge i n with q | q
    · rw [slP, List.getElem?_append_left (by omega)]
      exact slP_get w r q
    · have : i = n := by omega
      subst this
      rw [slP, List.getElem?_append_right (by omega), hl, Nat.sub_self, slP_all]
      rfl
theorem link_parts {ms : List Mo} {c : Cf} (h : linkC ms c = 0) : soundF ms c = 0 ∧ ms.all (fun m => resB ms m.imps) = true ∧ longB ms c = false ∧ (laF ms c).flash ≤ 16384 ∧ (laF ms c).ram ≤ 16384 := by
  unfold linkC at h
  repeat' split at h
  all_goals first | (exfalso; omega) | skip
  rename_i h1 h2 h3 h4 h5
  refine ⟨by omega, by simpa using h2, by simpa using h3, by omega, by omega⟩
theorem link_of {ms : List Mo} {c : Cf} (h1 : soundF ms c = 0) (h2 : ms.all (fun m => resB ms m.imps) = true) (h3 : longB ms c = false) (h4 : (laF ms c).flash ≤ 16384) (h5 : (laF ms c).ram ≤ 16384) : linkC ms c = 0 := by
  unfold linkC
  rw [if_neg (by omega), if_neg (by simp [h2]), if_neg (by simp [h3]), if_neg (by omega), if_neg (by omega)]
theorem sound_cfg {ms : List Mo} {c c' : Cf} (h : soundF ms c = 0) (h2 : cfgB c' = true) : soundF ms c' = 0 := by
  unfold soundF at *
  rw [if_neg (by simp [h2])]
  split at h
  · omega
  · exact h
theorem cfg_of {ms : List Mo} {c : Cf} (h : soundF ms c = 0) : cfgB c = true := by
  unfold soundF at h
  split at h
  · omega
  · rename_i q
    simpa using q
theorem stackF_link {ms : List Mo} {c : Cf} (h : soundF ms c = 0) : stackF (laF ms c) = c.stack ∧ ((laF ms c).slots.length : Int) = c.slots := by
  obtain ⟨⟨ca0, ca1, cb0, cb1, cc0, cc1, ccm⟩, ⟨ln0, ln1⟩, hgm, _⟩ := sound_of h
  obtain ⟨pb1, pb2⟩ := plP_le hgm ms.length
  have hl : (laF ms c).slots.length = c.slots.toNat := slP_len _ _ _
  refine ⟨?_, by omega⟩
  unfold stackF endsF
  have hst : (laF ms c).stack = 65536 + ((plP ms ms.length).2.2 : Int) := rfl
  rw [hst]
  cases hn : c.slots.toNat with
  | zero =>
    have hs : (laF ms c).slots = [] := List.eq_nil_of_length_eq_zero (by omega)
    have hr : (laF ms c).ram = (((plP ms ms.length).2.2 + c.stack.toNat : Nat) : Int) := by simp only [laF, hn, slP]
    rw [hs, hr]
    simp only
    rw [wrap64 (x := 65536 + (((plP ms ms.length).2.2 + c.stack.toNat : Nat) : Int)) (by omega), wrap64 (by omega)]
    omega
  | succ n =>
    have hs : (laF ms c).slots[0]? = some (65536 + (((plP ms ms.length).2.2 + c.stack.toNat + 0 * rup (4 * c.words.toNat) : Nat) : Int)) := by
      simp only [laF, hn]
      exact slP_get _ _ (by omega)
    cases hq : (laF ms c).slots with
    | nil => rw [hq] at hs; cases hs
    | cons s ss =>
      rw [hq] at hs
      cases hs
      simp only
      rw [wrap64 (by omega)]
      omega
theorem gives_link {ms : List Mo} {c : Cf} (h : linkC ms c = 0) : GivesP ms (laF ms c) c.words := by
  obtain ⟨h1, h2, h3, h4, h5⟩ := link_parts h
  obtain ⟨e1, e2⟩ := stackF_link h1
  have e : cfL (laF ms c) c.words = ⟨c.slots, c.words, c.stack, 0⟩ := by rw [cfL, e1, e2]
  have hc := cfg_of h1
  have hc' : cfgB ⟨c.slots, c.words, c.stack, 0⟩ = true := by
    simp only [cfgB, decide_eq_true_eq] at hc ⊢
    omega
  rw [GivesP, e]
  exact ⟨link_of (sound_cfg h1 hc') h2 h3 h4 h5, rfl⟩
theorem rup_rup (w : Nat) : rup (4 * (rup (4 * w) / 4)) = rup (4 * w) := by unfold rup; omega
theorem slP_same {w w' : Nat} (h : rup (4 * w) = rup (4 * w')) (r : Nat) : ∀ k, slP w r k = slP w' r k
  | 0 => rfl
  | k + 1 => by simp only [slP]; rw [slP_same h r k, h]
theorem real_link {ms : List Mo} {c : Cf} (h : linkC ms c = 0) : RealP ms (laF ms c) := by
  obtain ⟨h1, h2, h3, h4, h5⟩ := link_parts h
  obtain ⟨e1, e2⟩ := stackF_link h1
  have hc := cfg_of h1
  unfold RealP
  rcases Nat.eq_zero_or_pos (laF ms c).slots.length with h0 | h0
  · rw [show wordsF (laF ms c) = 1 by rw [wordsF, if_neg (by omega)]]
    have e : cfL (laF ms c) 1 = ⟨c.slots, 1, c.stack, 0⟩ := by rw [cfL, e1, e2]
    have hs : c.slots = 0 := by omega
    have el : laF ms ⟨c.slots, 1, c.stack, 0⟩ = laF ms c := by simp only [laF, hs]; rfl
    have hc' : cfgB ⟨c.slots, 1, c.stack, 0⟩ = true := by
      simp only [cfgB, decide_eq_true_eq] at hc ⊢
      omega
    rw [GivesP, e]
    refine ⟨link_of (sound_cfg h1 hc') h2 ?_ (by rw [el]; exact h4) (by rw [el]; exact h5), el⟩
    simp [longB, hs]
  · obtain ⟨W, hW, h64, hW1, hs4, hw⟩ := words_of (gives_link h) h0
    rw [hw]
    have hr := rup_ge (4 * W)
    have hm := rup_mod (4 * W)
    have hru : rup (4 * W) ≤ 256 := by unfold rup; omega
    have hle : W ≤ rup (4 * W) / 4 := by omega
    have e : cfL (laF ms c) ((rup (4 * W) / 4 : Nat) : Int) = ⟨c.slots, ((rup (4 * W) / 4 : Nat) : Int), c.stack, 0⟩ := by rw [cfL, e1, e2]
    have hsame : ∀ r k, slP (rup (4 * W) / 4) r k = slP W r k := fun r k => slP_same (rup_rup W) r k
    have el : laF ms ⟨c.slots, ((rup (4 * W) / 4 : Nat) : Int), c.stack, 0⟩ = laF ms c := by
      simp only [laF, Int.toNat_natCast, hsame, hW]
    have hc' : cfgB ⟨c.slots, ((rup (4 * W) / 4 : Nat) : Int), c.stack, 0⟩ = true := by
      simp only [cfgB, decide_eq_true_eq] at hc ⊢
      omega
    rw [GivesP, e]
    refine ⟨link_of (sound_cfg h1 hc') h2 ?_ (by rw [el]; exact h4) (by rw [el]; exact h5), el⟩
    simp only [longB, Bool.and_eq_false_iff, Bool.not_eq_false'] at h3 ⊢
    rcases h3 with h3 | h3
    · exact .inl h3
    · refine .inr ?_
      rw [List.all_eq_true] at h3 ⊢
      intro m hm
      have := h3 m hm
      simp only [bankB, List.all_eq_true, decide_eq_true_eq] at this ⊢
      intro b hb
      have := this b hb
      omega
theorem lkM_of {m : Mc} (h : linkC m.mods m.cfg = 0) : LkM m (layM m) := by
  have el : layM m = laF m.mods m.cfg := if_pos h
  rw [el]
  have hg := gives_link h
  obtain ⟨h1, h2, h3, h4, h5⟩ := link_parts h
  obtain ⟨e1, e2⟩ := stackF_link h1
  obtain ⟨⟨ca0, ca1, cb0, cb1, cc0, cc1, ccm⟩, ⟨ln0, ln1⟩, hgm, _⟩ := sound_of h1
  have hlim := lim_of hg
  refine ⟨hgm, e2, ⟨by omega, cb1⟩, fun i a ha => ?_, fun hs x hx b hb => ?_, hlim.ram, ca1⟩
  · have hi := (List.getElem?_eq_some_iff.1 ha).1
    have hsl : (laF m.mods m.cfg).slots = (slP m.cfg.words.toNat ((plP m.mods m.mods.length).2.2 + m.cfg.stack.toNat) m.cfg.slots.toNat).1 := rfl
    have hra : (laF m.mods m.cfg).ram = ((slP m.cfg.words.toNat ((plP m.mods m.mods.length).2.2 + m.cfg.stack.toNat) m.cfg.slots.toNat).2 : Int) := rfl
    rw [hsl] at ha hi
    rw [slP_len] at hi
    rw [slP_get _ _ hi] at ha
    cases ha
    rw [hra, slP_all]
    have : (i + 1) * rup (4 * m.cfg.words.toNat) ≤ m.cfg.slots.toNat * rup (4 * m.cfg.words.toNat) := Nat.mul_le_mul_right _ hi
    rw [Nat.add_mul, Nat.one_mul] at this
    generalize i * rup (4 * m.cfg.words.toNat) = A at *
    generalize m.cfg.slots.toNat * rup (4 * m.cfg.words.toNat) = B at *
    constructor <;> omega
  · simp only [longB, Bool.and_eq_false_iff, Bool.not_eq_false', decide_eq_false_iff_not] at h3
    rcases h3 with h3 | h3
    · omega
    · rw [List.all_eq_true] at h3
      have := h3 x hx
      simp only [bankB, List.all_eq_true, decide_eq_true_eq] at this
      exact this b hb
end Go.Proofs.YtbfjkjdbdejnmaaGreat.Ab

/- Machines of the reference: valid or not. No condition. -/
namespace Go.Proofs.YtbfjkjdbdejnmaaGreat.Ab
set_option linter.unusedVariables false
set_option linter.unusedSimpArgs false
set_option maxRecDepth 100000

structure ByMc (m : Mc) : Prop where
  data : ∀ x ∈ m.mods, BytesOk x.data
  f : BytesOk m.f
  r : BytesOk m.r
def hOkS : CH := fun args hl K => match args, hl with
  | [a], [] => ∃ m : Mc, McV a m ∧ smMc m ∧ ByMc m ∧ K (.tup [laR (layM m), .v (.bool (mcOk m))]) (laH (layM m))
  | _, _ => False
theorem img_lens (ms : List Mo) (l : La) : (imgF ms l).length ≤ 16384 ∧ (imgR ms l).length ≤ 16384 := by
  by_cases h : RealP ms l
  · obtain ⟨e1, e2, _⟩ := img_y h
    have hl := lim_of h
    rw [e1, e2, flashN_len, ramN_len hl]
    have := hl.fl
    have := hl.ram
    omega
  · obtain ⟨e1, e2, _⟩ := img_n h
    rw [e1, e2]
    simp
def cx_s_l7Ok : Ctx := mkCut [(89, callM [] true hLink), (9, callM [] true hFits), (120, callM [] true hCoreOk), (121, callM [] true hMemOk), (15, callM [] true hImage), (122, callM [] true hEqByt), (64, callM [] true hThere), (123, callM [] true hSlots), (124, callM [] true hFrames)]
theorem cx_s_l7Ok_ok : CtxOk Tryz.prog cx_s_l7Ok := mkCut_ok (mem1 ⟨s_spec_Link, fnOk Tryz.func89 rfl rfl⟩ (mem1 ⟨s_FitsS, fnOk Tryz.func9 rfl rfl⟩ (mem1 ⟨s_l3CoreOk, fnOk Tryz.func120 rfl rfl⟩ (mem1 ⟨s_spec_MemOk, fnOk Tryz.func121 rfl rfl⟩ (mem1 ⟨s_ImageS, fnOk Tryz.func15 rfl rfl⟩ (mem1 ⟨s_l7Bytes, fnOk Tryz.func122 rfl rfl⟩ (mem1 ⟨s_l6There, fnOk Tryz.func64 rfl rfl⟩ (mem1 ⟨s_l7SlotsOk, fnOk Tryz.func123 rfl rfl⟩ (mem1 ⟨s_l7FramesOk, fnOk Tryz.func124 rfl rfl⟩ mem0)))))))))
set_option maxRecDepth 100000 in
set_option pp.maxSteps 1500 in
set_option maxHeartbeats 32000000 in
theorem s_l7Ok : HSound Tryz.prog 71 (callM [] true hOkS) := by
  refine callM_sound cx_s_l7Ok_ok mixed Tryz.func71 rfl fun args hl K hp => ?_
  unfold hOkS at hp
  split at hp
  · rename_i a
    obtain ⟨m, ⟨b1, z1, b2, z2, b3, z3, b4, z4, b5, z5, b6, z6, b7, z7, rfl⟩, hsm, hby, hp⟩ := hp
    have hbl := sm_link m.mods m.cfg
    have hmo := hsm.mo
    have hln := hsm.mods
    have hrg := hsm.regs
    have hkM := lkM_of (m := m)
    have hrl := real_link (ms := m.mods) (c := m.cfg)
    have hif : linkC m.mods m.cfg = 0 → layM m = laF m.mods m.cfg := fun h => if_pos h
    have hres : ∀ b, mcOk m = b → K (.tup [laR (layM m), .v (.bool b)]) (laH (layM m)) := fun b h => h ▸ hp
    clear hp
    rw [mcOk] at hres
    have hLL : linkL m.mods ⟨m.cfg.slots, m.cfg.words, m.cfg.stack, m.cfg.depth⟩ = layM m := rfl
    have hbl : smLa (layM m) := hbl
    have hil := img_lens m.mods (layM m)
    refine Exists.intro m.mods (And.intro rfl (And.intro hln (And.intro hmo ?_)))
    rw [hLL, show linkC m.mods ⟨m.cfg.slots, m.cfg.words, m.cfg.stack, m.cfg.depth⟩ = linkC m.mods m.cfg from rfl]
    generalize layM m = l at *
    generalize linkC m.mods m.cfg = n at *
    clear hLL
    refine Or.inl ?_
    by_cases h0 : n = 0
    rotate_left
    · have hne : (n != 0) = true := by simpa using h0
      refine And.intro (fun h1 => ?_) (fun h1 => by rw [hne] at h1; cases h1)
      repeat' ((first
        | refine And.intro (fun h5 => ?_) (fun h5 => ?_)
        | fail) <;> try first | (cases h5; done))
      refine And.intro (closed_Place _) (And.intro (closed_Int _) (And.intro (closed_TargetS _) ?_))
      exact hres false (by simp [h0])
    have hne : (n != 0) = false := by simpa using h0
    refine And.intro (fun h1 => by rw [hne] at h1; cases h1) (fun h1 => ?_)
    have hkM := hkM h0
    have hrl := hrl h0
    rw [← hif h0] at hrl
    repeat' ((first
      | refine Exists.intro _ (And.intro (lendD _ _) (And.intro (List.length_map _) ?_))
      | refine And.intro (closed_Place _) ?_
      | refine And.intro (closed_Int _) ?_
      | refine And.intro (closed_TargetS _) ?_
      | (refine Exists.intro m.mods ?_; refine Exists.intro l (And.intro rfl (And.intro hln (And.intro hmo (And.intro ⟨_, _, _, _, _, _, rfl⟩ (And.intro hbl ?_))))))
      | refine Exists.intro m.regs (And.intro rfl (And.intro hrg ?_))
      | refine And.intro (fun h5 => ?_) (fun h5 => ?_)
      | fail) <;> try first | (cases h5; done))
    · have e : fitsB m.mods l = false := by simpa using (by assumption : (!fitsB m.mods l) = true)
      exact hres false (by rw [e]; simp)
    · have e : coreOk m.pc m.regs = false := by simpa using (by assumption : (!coreOk m.pc m.regs) = true)
      exact hres false (by rw [e]; simp)
    · have e : memOk m.f.length m.r.length m.o.length = false := by simpa using (by assumption : (!memOk (List.map byteC m.f).length (List.map byteC m.r).length (List.map byteC m.o).length) = true)
      exact hres false (by rw [e]; simp)
    have e1 : fitsB m.mods l = true := by simpa using (by assumption : (!fitsB m.mods l) = false)
    have e2 : coreOk m.pc m.regs = true := by simpa using (by assumption : (!coreOk m.pc m.regs) = false)
    have e3 : memOk m.f.length m.r.length m.o.length = true := by simpa using (by assumption : (!memOk (List.map byteC m.f).length (List.map byteC m.r).length (List.map byteC m.o).length) = false)
    rw [e1, e2, e3, decide_eq_true h0] at hres
    simp only [Bool.true_and] at hres
    refine Exists.intro m.mods ?_
    refine Exists.intro l (And.intro rfl (And.intro hln (And.intro hmo (And.intro hby.data (And.intro ⟨_, _, _, _, _, _, rfl⟩ (And.intro hbl ?_))))))
    obtain ⟨i1, i2, i3⟩ := img_y hrl
    rw [i1, i2] at hil
    rw [i1, i2, i3]
    clear i1 i2 i3
    have hlim := lim_of hrl
    have hgm := hkM.good
    have hsl := hsm.slots
    have hrr := ramN_len hlim m.mods.length
    generalize hFN : flashN m.mods l m.mods.length = FN at *
    generalize ramN m.mods l m.mods.length = RN at *
    first | refine Or.inl ?_ | skip
    repeat' ((first
      | refine Exists.intro _ (And.intro (lendD _ _) (And.intro (List.length_map _) ?_))
      | refine And.intro (closed_Place _) ?_
      | refine And.intro (closed_Int _) ?_
      | refine And.intro (closed_TargetS _) ?_
      | refine And.intro (closed_bytes _) ?_
      | (refine Exists.intro FN ?_; refine Exists.intro m.f (And.intro rfl (And.intro rfl (And.intro (by omega) ?_))))
      | refine Exists.intro m.mods (And.intro rfl (And.intro hmo ?_))
      | refine And.intro (fun h5 => ?_) (fun h5 => ?_)
      | fail) <;> try first | (cases h5; done))
    · have e : decide (FN = m.f) = false := by simpa only [Bool.not_eq_true'] using (by assumption : (!decide (FN = m.f)) = true)
      exact hres false (by rw [e]; simp)
    · have e : decide ((m.r.length : Int) = l.ram) = false := by
        have : ((List.map byteC m.r).length != l.ram) = true := by assumption
        rw [List.length_map] at this
        exact decide_eq_false (by simpa using this)
      exact hres false (by rw [e]; simp)
    · have e : decide (0 ≤ m.turn ∧ m.turn ≤ 1000000000) = false := decide_eq_false (by have := of_decide_eq_true (by assumption : decide (m.turn < 0) = true); omega)
      exact hres false (by rw [e]; simp)
    · have e : decide (0 ≤ m.turn ∧ m.turn ≤ 1000000000) = false := decide_eq_false (by have := of_decide_eq_true (by assumption : decide (m.turn > 1000000000) = true); omega)
      exact hres false (by rw [e]; simp)
    · have e : thereB m.mods m.mod m.bank = false := by simpa using (by assumption : (!thereB m.mods m.mod m.bank) = true)
      exact hres false (by rw [e]; simp)
    have e4 : decide (FN = m.f) = true := by simpa only [Bool.not_eq_false'] using (by assumption : (!decide (FN = m.f)) = false)
    have hre : (m.r.length : Int) = l.ram := by
      have : ((List.map byteC m.r).length != l.ram) = false := by assumption
      rw [List.length_map] at this
      simpa using this
    have e5 : decide (0 ≤ m.turn ∧ m.turn ≤ 1000000000) = true := decide_eq_true (by have q1 := of_decide_eq_false (by assumption : decide (m.turn < 0) = false); have q2 := of_decide_eq_false (by assumption : decide (m.turn > 1000000000) = false); omega)
    have e6 : thereB m.mods m.mod m.bank = true := by simpa using (by assumption : (!thereB m.mods m.mod m.bank) = false)
    rw [e4, decide_eq_true hre, e5, e6] at hres
    simp only [Bool.true_and] at hres
    cases hS : slotsB m l
    all_goals cases hR : framesB m
    all_goals rw [hS, hR] at hres
    all_goals have hres := hres _ rfl
    all_goals first | refine Or.inl (Or.inl ?_) | refine Or.inl ?_
    all_goals refine And.intro (show wfB _ = true from by kernel_rfl) ?_
    all_goals repeat' ((first
      | refine Exists.intro _ (And.intro (lendD _ _) (And.intro (List.length_map _) ?_))
      | refine And.intro (closed_Place _) ?_
      | refine And.intro (closed_Int _) ?_
      | refine And.intro (closed_TargetS _) ?_
      | (refine Exists.intro m ?_; refine Exists.intro l (And.intro ⟨_, _, _, _, _, _, _, _, _, _, _, _, _, _, rfl⟩ (And.intro hsm (And.intro ⟨_, _, _, _, _, _, rfl⟩ (And.intro hkM (And.intro hre ?_))))); rw [hS]; exact And.intro rfl rfl)
      | (refine Exists.intro m (And.intro ⟨_, _, _, _, _, _, _, _, _, _, _, _, _, _, rfl⟩ (And.intro hsm (And.intro hgm ?_))); rw [hR]; exact And.intro rfl rfl)
      | refine And.intro (show wfB _ = true from by kernel_rfl) ?_ | refine And.intro (And.intro rfl rfl) ?_ | exact And.intro rfl rfl | apply HeldC.intro | exact AV.top | (apply HeldF.intro; refine Exists.intro _ (And.intro (by assumption) ?_); refine And.intro (by decide) ?_; exact And.intro rfl rfl) | (refine And.intro (by (refine Exists.intro _ (And.intro (by assumption) ?_); refine And.intro (by decide) ?_; exact And.intro rfl rfl)) ?_) | refine Or.inl ?_
      | refine And.intro (fun h5 => ?_) (fun h5 => ?_)
      | refine And.intro ?_ ?_
      | fail) <;> try first | (cases h5; done))
    all_goals exact hres
  · exact hp.elim
def hMcOk : CH := fun args hl K => match args, hl with
  | [a], [] => ∃ m : Mc, McV a m ∧ smMc m ∧ ByMc m ∧ K (.v (.bool (mcOk m))) []
  | _, _ => False
def cx_s_MachineOkS : Ctx := mkC [(71, callM [] true hOkS)]
theorem cx_s_MachineOkS_ok : CtxOk Tryz.prog cx_s_MachineOkS := mkC_ok (mem1 ⟨s_l7Ok, fnOk Tryz.func71 rfl rfl⟩ mem0)
set_option maxRecDepth 100000 in
set_option pp.maxSteps 1500 in
set_option maxHeartbeats 4000000 in
theorem s_MachineOkS : HSound Tryz.prog 29 (callM [] true hMcOk) := by
  refine callM_sound cx_s_MachineOkS_ok mixed Tryz.func29 rfl fun args hl K hp => ?_
  unfold hMcOk at hp
  split at hp
  · rename_i a
    obtain ⟨m, ⟨b1, z1, b2, z2, b3, z3, b4, z4, b5, z5, b6, z6, b7, z7, rfl⟩, hsm, hby, hp⟩ := hp
    refine Exists.intro m (And.intro ⟨_, _, _, _, _, _, _, _, _, _, _, _, _, _, rfl⟩ (And.intro hsm (And.intro hby ?_)))
    exact hp
  · exact hp.elim
end Go.Proofs.YtbfjkjdbdejnmaaGreat.Ab

/- Step: what it computes. No condition. -/
namespace Go.Proofs.YtbfjkjdbdejnmaaGreat.Ab
set_option linter.unusedVariables false
set_option linter.unusedSimpArgs false

def eventF (op imm next : Int) : Int × Int := if op = 1 then (1, 0) else if op = 23 then (2, (next + 4 * wideF imm) % 4294967296) else if op = 24 then (3, imm) else if op = 25 then (4, 0) else (0, 0)
def jumpB (op d : Int) : Bool := decide (op = 20 ∨ op = 21 ∧ d = 0 ∨ op = 22 ∧ 2147483648 ≤ d)
structure StepR where
  pc : Int
  regs : List Int
  f : List Int
  r : List Int
  o : List Int
  did : Int
  n : Int
def sizeF (op : Int) : Int := if (op - 14) % 3 = 0 then 1 else if (op - 14) % 3 = 1 then 2 else 4
def memF (op d a imm pc next : Int) (regs f r o : List Int) (rs : List Rg) : StepR :=
  if 17 ≤ op then
    if allowB rs ((regs.getD a.toNat 0 + wideF imm) % 4294967296) (sizeF op) 2 = false then ⟨pc, regs, f, r, o, 5, 5⟩
    else if (writeF f r o ((regs.getD a.toNat 0 + wideF imm) % 4294967296) (sizeF op) (regs.getD d.toNat 0)).2.2 ≠ 0 then ⟨pc, regs, f, r, o, 5, (writeF f r o ((regs.getD a.toNat 0 + wideF imm) % 4294967296) (sizeF op) (regs.getD d.toNat 0)).2.2⟩
    else ⟨next, regs, f, (writeF f r o ((regs.getD a.toNat 0 + wideF imm) % 4294967296) (sizeF op) (regs.getD d.toNat 0)).1, (writeF f r o ((regs.getD a.toNat 0 + wideF imm) % 4294967296) (sizeF op) (regs.getD d.toNat 0)).2.1, 0, 0⟩
  else
    if allowB rs ((regs.getD a.toNat 0 + wideF imm) % 4294967296) (sizeF op) 1 = false then ⟨pc, regs, f, r, o, 5, 5⟩
    else if (readR f r o ((regs.getD a.toNat 0 + wideF imm) % 4294967296) (sizeF op)).2 ≠ 0 then ⟨pc, regs, f, r, o, 5, (readR f r o ((regs.getD a.toNat 0 + wideF imm) % 4294967296) (sizeF op)).2⟩
    else ⟨next, regs.set d.toNat (readR f r o ((regs.getD a.toNat 0 + wideF imm) % 4294967296) (sizeF op)).1, f, r, o, 0, 0⟩
def execF (op d a imm pc next : Int) (regs f r o : List Int) (rs : List Rg) : StepR :=
  if 14 ≤ op ∧ op ≤ 19 then memF op d a imm pc next regs f r o rs
  else if 2 ≤ op ∧ op ≤ 13 then ⟨next, regs.set d.toNat (aluF op imm (regs.getD d.toNat 0) (regs.getD a.toNat 0)), f, r, o, 0, 0⟩
  else ⟨if (eventF op imm next).1 = 0 ∧ jumpB op (regs.getD d.toNat 0) = true then (next + 4 * wideF imm) % 4294967296 else next, regs, f, r, o, (eventF op imm next).1, (eventF op imm next).2⟩
end Go.Proofs.YtbfjkjdbdejnmaaGreat.Ab

/- Step of impl: the memory behind its pointer. No condition. -/
namespace Go.Proofs.YtbfjkjdbdejnmaaGreat.Ab
set_option linter.unusedVariables false
set_option linter.unusedSimpArgs false

def hMRd : CH := fun args hl K => match args, hl with
  | [.ptr 0 0 0 _, .v (.int .i64 a), .v (.int .i64 s)], [.box [.sl 1 x, .sl 1 y, .sl 1 z]] => ∃ f r o : List Int, x = f.map byteC ∧ y = r.map byteC ∧ z = o.map byteC ∧ BytesOk f ∧ BytesOk r ∧ memOk f.length r.length o.length = true ∧ widthB s = true ∧ I64 a ∧
      K (.tup [.v (.int .i64 (readR f r o a s).1), .v (.int .i64 (readR f r o a s).2)]) [.box [.sl 1 (f.map byteC), .sl 1 (r.map byteC), .sl 1 (o.map byteC)]]
  | _, _ => False
def cx_s_mRead : Ctx := mkC [(242, iAt), (112, callM [] true hNum)]
theorem cx_s_mRead_ok : CtxOk Tryz.prog cx_s_mRead := mkC_ok (mem1 ⟨s_bytesAt, fnOk Tryz.func242 rfl rfl⟩ (mem1 ⟨s_number, fnOk Tryz.func112 rfl rfl⟩ mem0))
set_option maxRecDepth 100000 in
set_option pp.maxSteps 1500 in
set_option maxHeartbeats 8000000 in
theorem s_mRead : HSound Tryz.prog 233 (callM [.rw] true hMRd) := by
  refine callM_sound cx_s_mRead_ok mixed Tryz.func233 rfl fun args hl K hp => ?_
  unfold hMRd at hp
  split at hp
  · rename_i _ a s x y z
    obtain ⟨f, r, o, rfl, rfl, rfl, hf, hr, m0, m1, ia, hp⟩ := hp
    have hs : s = 1 ∨ s = 2 ∨ s = 4 := by simpa [widthB] using m1
    have hfl : f.length ≤ 16384 ∧ r.length ≤ 16384 ∧ o.length ≤ 5000 := by simpa [memOk] using m0
    simp only [I64] at ia
    have hsne : s ≠ 0 := by omega
    have mw : (memOk f.length r.length o.length && widthB s) = true := by rw [m0, m1]; rfl
    have fin : ∀ p : Int × Int, readR f r o a s = p → K (.tup [.v (.int .i64 p.1), .v (.int .i64 p.2)]) [.box [.sl 1 (f.map byteC), .sl 1 (r.map byteC), .sl 1 (o.map byteC)]] := fun p h => h ▸ hp
    clear hp
    refine And.intro hsne ?_
    refine And.intro (fun h2 => ?_) (fun h2 => ?_)
    · exact fin (0, 1) (by simp only [bne_iff_ne, ne_eq] at h2; simp [readR, mw, h2])
    have h2 : a.tmod s = 0 := by simpa using h2
    refine And.intro (fun h3 => ?_) (fun h3 => ?_)
    · have h3 : a = 131072 := by simpa using h3
      exact fin (0, 4) (by subst h3; simp [readR, mw, h2])
    have h3 : ¬ a = 131072 := by simpa using h3
    have fold : ∀ (l : List Int) (n : Nat), n = (l.map byteC).length → List.take n (l.map byteC) = l.map byteC ∧ (l.map byteC).length = n ∧ ClosedL (l.map byteC) := fun l n h => ⟨by rw [h, List.take_length], h.symm, closed_bytes l⟩
    refine Or.inl ?_
    refine And.intro (by omega) (And.intro (by omega) (And.intro (by omega) (And.intro (by omega) (And.intro (by omega) (And.intro (by omega) (And.intro (by omega) (And.intro (by rw [List.length_map]; omega) ?_)))))))
    rw [List.length_map]
    refine And.intro (fun h4 => ?_) (fun h4 => ?_)
    · have hi : 0 ≤ a ∧ a ≤ 0 + f.length - s := of_decide_eq_true h4
      have e1 : IntKind.i64.wrap (a + s) = a + s := wrap64 (by omega)
      have hc : cutB f a s = (f.drop a.toNat).take ((a + s).toNat - a.toNat) := by rw [cutB]; congr 1; omega
      have hl : (cutB f a s).length = s.toNat := by simp [cutB]; omega
      refine Exists.intro a.toNat (And.intro (by omega) (Exists.intro (a + s).toNat (And.intro (by rw [e1]; omega) (And.intro (by omega) (And.intro (by simp; omega) ?_)))))
      refine And.intro (fun h5 => by omega) ?_
      refine And.intro (fun h5 => by cases h5) (fun h5 => ?_)
      refine Exists.intro ((cutB f a s).map byteC) (And.intro (by rw [hc, Nat.zero_add, List.map_take, List.map_drop]) (And.intro (by rw [List.length_map, hl]; omega) (And.intro (closed_bytes _) ?_)))
      refine Exists.intro (cutB f a s) (And.intro rfl (And.intro (fun b hb => hf b (List.mem_of_mem_drop (List.mem_of_mem_take hb))) (And.intro (by rw [hl]; omega) ?_)))
      refine Exists.intro _ (And.intro (lendL byteC f) (And.intro (lenB f) (And.intro (closed_bytes _) ?_)))
      exact fin (lowB (cutB f a s), 0) (by simp only [readR, mw, h2, h3, h4]; simp)
    · refine And.intro (by omega) (And.intro (by omega) (And.intro (by omega) (And.intro (by omega) (And.intro (by omega) (And.intro (by omega) (And.intro (by omega) (And.intro (by rw [List.length_map]; omega) ?_)))))))
      rw [List.length_map]
      refine And.intro (fun h6 => ?_) (fun h6 => ?_)
      · have hi : 65536 ≤ a ∧ a ≤ 65536 + r.length - s := of_decide_eq_true h6
        have e0 : IntKind.i64.wrap (a - 65536) = a - 65536 := wrap64 (by omega)
        have e1 : IntKind.i64.wrap (a - 65536 + s) = a - 65536 + s := wrap64 (by omega)
        have hc : cutB r (a - 65536) s = (r.drop (a - 65536).toNat).take ((a - 65536 + s).toNat - (a - 65536).toNat) := by rw [cutB]; congr 1; omega
        have hl : (cutB r (a - 65536) s).length = s.toNat := by simp [cutB]; omega
        refine Exists.intro (a - 65536).toNat (And.intro (by omega) (Exists.intro (a - 65536 + s).toNat (And.intro (by rw [e0, e1]; omega) (And.intro (by omega) (And.intro (by simp; omega) ?_)))))
        refine And.intro (fun h5 => by omega) ?_
        refine And.intro (fun h5 => by cases h5) (fun h5 => ?_)
        refine Exists.intro ((cutB r (a - 65536) s).map byteC) (And.intro (by rw [hc, Nat.zero_add, List.map_take, List.map_drop]) (And.intro (by rw [List.length_map, hl]; omega) (And.intro (closed_bytes _) ?_)))
        refine Exists.intro (cutB r (a - 65536) s) (And.intro rfl (And.intro (fun b hb => hr b (List.mem_of_mem_drop (List.mem_of_mem_take hb))) (And.intro (by rw [hl]; omega) ?_)))
        refine Exists.intro _ (And.intro (lendL byteC f) (And.intro (lenB f) (And.intro (closed_bytes _) ?_)))
        refine Exists.intro _ (And.intro (lendL byteC r) (And.intro (lenB r) (And.intro (closed_bytes _) ?_)))
        exact fin (lowB (cutB r (a - 65536) s), 0) (by simp only [readR, mw, h2, h3, h4, h6]; simp)
      · refine Or.inl ?_
        refine Or.inl ?_
        refine And.intro (fun h5 => ?_) (fun h5 => by cases h5)
        refine Exists.intro _ (And.intro (lendL byteC f) (And.intro (lenB f) (And.intro (closed_bytes _) ?_)))
        refine Exists.intro _ (And.intro (lendL byteC r) (And.intro (lenB r) (And.intro (closed_bytes _) ?_)))
        exact fin (0, 2) (by simp only [readR, mw, h2, h3, h4, h6]; simp)
  · exact hp.elim

def hMWr : CH := fun args hl K => match args, hl with
  | [.ptr 0 0 0 _, .v (.int .i64 a), .v (.int .i64 s), .v (.int .i64 v)], [.box [.sl 1 x, .sl 1 y, .sl 1 z]] => ∃ f r o : List Int, x = f.map byteC ∧ y = r.map byteC ∧ z = o.map byteC ∧ memOk f.length r.length o.length = true ∧ widthB s = true ∧ I64 a ∧ I64 v ∧
      K (.v (.int .i64 (writeF f r o a s v).2.2)) [.box [.sl 1 (f.map byteC), .sl 1 ((writeF f r o a s v).1.map byteC), .sl 1 ((writeF f r o a s v).2.1.map byteC)]]
  | _, _ => False
def cx_s_mWrite : Ctx := mkC [(243, callM [] true hInside), (242, iAt), (111, iPut)]
theorem cx_s_mWrite_ok : CtxOk Tryz.prog cx_s_mWrite := mkC_ok (mem1 ⟨s_within, fnOk Tryz.func243 rfl rfl⟩ (mem1 ⟨s_bytesAt, fnOk Tryz.func242 rfl rfl⟩ (mem1 ⟨s_iPut, fnOk Tryz.func111 rfl rfl⟩ mem0)))
set_option maxRecDepth 100000 in
set_option pp.maxSteps 1500 in
set_option maxHeartbeats 8000000 in
theorem s_mWrite : HSound Tryz.prog 234 (callM [.rw] true hMWr) := by
  refine callM_sound cx_s_mWrite_ok mixed Tryz.func234 rfl fun args hl K hp => ?_
  unfold hMWr at hp
  split at hp
  · rename_i _ a s v x y z
    obtain ⟨f, r, o, rfl, rfl, rfl, m0, m1, ia, iv, hp⟩ := hp
    have hs : s = 1 ∨ s = 2 ∨ s = 4 := by simpa [widthB] using m1
    have hfl : f.length ≤ 16384 ∧ r.length ≤ 16384 ∧ o.length ≤ 5000 := by simpa [memOk] using m0
    simp only [I64] at ia iv
    have hsne : s ≠ 0 := by omega
    have hres : ∀ q, writeF f r o a s v = q → K (.v (.int .i64 q.2.2)) [.box [.sl 1 (f.map byteC), .sl 1 (q.1.map byteC), .sl 1 (q.2.1.map byteC)]] := fun q h => h ▸ hp
    clear hp
    refine And.intro hsne ?_
    refine And.intro (fun h2 => ?_) (fun h2 => ?_)
    · exact hres (r, o, 1) (by simp only [bne_iff_ne, ne_eq] at h2; simp [writeF, m0, m1, h2])
    have h2 : a.tmod s = 0 := by simpa using h2
    refine And.intro (fun h3 => ?_) (fun h3 => ?_)
    · have hA : a = 131072 := by simpa using h3
      refine And.intro (fun h4 => ?_) (fun h4 => ?_)
      · have hO : 5000 ≤ o.length := by have := of_decide_eq_true h4; rw [List.length_map] at this; omega
        refine Exists.intro _ (And.intro List.take_length (And.intro rfl (And.intro (closed_bytes _) ?_)))
        exact hres (r, o, 4) (by subst hA; simp [writeF, m0, m1, h2, hO])
      · have hO : ¬ 5000 ≤ o.length := by have := of_decide_eq_false h4; rw [List.length_map] at this; omega
        have e0 := (shB_eq v).1.symm
        refine Exists.intro [byteC (IntKind.u8.wrap v)] (And.intro rfl (And.intro rfl (And.intro (bytes_notSl [_]) ?_)))
        refine And.intro rfl ?_
        refine And.intro (by simp only [List.length_map, List.length_cons, List.length_nil]; omega) ?_
        refine And.intro (by simp only [List.length_map, List.length_cons, List.length_nil]; omega) ?_
        refine Exists.intro _ (And.intro (List.take_of_length_le (by simp)) (And.intro (by simp) (And.intro (closed_bytesA o [_]) ?_)))
        have key := hres (r, o ++ [byteV v 0], 0) (by subst hA; simp [writeF, m0, m1, h2, hO])
        rw [e0, List.map_append] at key
        exact key
    have h3 : ¬ a = 131072 := by simpa using h3
    refine And.intro (by omega) (And.intro (by omega) (And.intro (by omega) (And.intro (by omega) (And.intro (by omega) (And.intro (by omega) (And.intro (by omega) (And.intro (by rw [List.length_map]; omega) ?_)))))))
    rw [List.length_map]
    refine And.intro (fun h4 => ?_) (fun h4 => ?_)
    · refine Exists.intro _ (And.intro (lendL byteC f) (And.intro (lenB f) (And.intro (closed_bytes _) ?_)))
      exact hres (r, o, 3) (by simp [writeF, m0, m1, h2, h3, h4])
    refine And.intro (by omega) (And.intro (by omega) (And.intro (by omega) (And.intro (by omega) (And.intro (by omega) (And.intro (by omega) (And.intro (by omega) (And.intro (by rw [List.length_map]; omega) ?_)))))))
    rw [List.length_map]
    refine And.intro (fun h6 => ?_) (fun h6 => ?_)
    · have h6 : insideB a s 65536 r.length = false := by simpa using h6
      refine Exists.intro _ (And.intro (lendL byteC f) (And.intro (lenB f) (And.intro (closed_bytes _) ?_)))
      refine Exists.intro _ (And.intro (lendL byteC r) (And.intro (lenB r) (And.intro (closed_bytes _) ?_)))
      exact hres (r, o, 2) (by simp [writeF, m0, m1, h2, h3, h4, h6])
    have h6 : insideB a s 65536 r.length = true := by simpa using h6
    refine Or.inl ?_
    refine And.intro (by omega) (And.intro (by omega) (And.intro (by omega) (And.intro (by omega) (And.intro (by omega) (And.intro (by omega) (And.intro (by omega) (And.intro (by omega) ?_)))))))
    refine And.intro (fun h7 => absurd h7 (by rw [h4]; simp)) (fun h7 => ?_)
    refine And.intro (by omega) (And.intro (by omega) (And.intro (by omega) (And.intro (by omega) (And.intro (by omega) (And.intro (by omega) (And.intro (by omega) (And.intro (by omega) ?_)))))))
    refine And.intro (fun h8 => ?_) (fun h8 => absurd h8 (by rw [h6]; simp))
    have hin : 65536 ≤ a ∧ a ≤ 65536 + r.length - s := of_decide_eq_true h6
    have key := hres (putY r (a - 65536).toNat v s.toNat, o, 0) (by simp [writeF, m0, m1, h2, h3, h4, h6])
    obtain ⟨p, rfl⟩ : ∃ p : Nat, a = 65536 + p := ⟨(a - 65536).toNat, by omega⟩
    have hp0 : ((65536 + (p : Int)) - 65536).toNat = p := by omega
    simp only [hp0] at key
    have hw0 : IntKind.i64.wrap (65536 + (p : Int) - 65536) = (p : Int) := by rw [wrap64 (by omega)]; omega
    obtain ⟨e0, e1, e2, e3⟩ := shB_eq v
    clear hres
    rcases hs with rfl | rfl | rfl
    · refine Exists.intro p (And.intro hw0 (Exists.intro (p + 1) (And.intro (by rw [hw0, wrap64 (by omega)]; simp) (And.intro (by omega) (And.intro (by omega) ?_)))))
      repeat' ((first | refine And.intro (by decide) ?_ | refine And.intro (fun h9 => ?_) (fun h9 => ?_)) <;> try (exfalso; simp at h9; done))
      repeat' (refine And.intro (by decide) ?_)
      refine Exists.intro 0 (And.intro rfl (And.intro (by omega) ?_))
      obtain ⟨b0, g0⟩ := allB_get (allB_map r) (0 + p + 0) (by simp; omega)
      refine Exists.intro _ (And.intro g0 (And.intro (by decide) ?_))
      have eq : (putY r p v 1).map byteC = ((r.map byteC).set (0 + p + 0) (byteC (IntKind.u8.wrap v))) := by simp [putY, List.map_set, e0, e1, e2, e3]
      have hc := closed_bytes (putY r p v 1)
      rw [eq] at hc
      rw [show ((1 : Int).toNat) = 1 from rfl, eq] at key
      refine Exists.intro _ (And.intro (lendL byteC f) (And.intro (lenB f) (And.intro (closed_bytes _) ?_)))
      refine Exists.intro _ (And.intro (List.take_of_length_le (by simp)) (And.intro (by simp) (And.intro hc ?_)))
      exact key
    · refine Exists.intro p (And.intro hw0 (Exists.intro (p + 2) (And.intro (by rw [hw0, wrap64 (by omega)]; simp) (And.intro (by omega) (And.intro (by omega) ?_)))))
      repeat' ((first | refine And.intro (by decide) ?_ | refine And.intro (fun h9 => ?_) (fun h9 => ?_)) <;> try (exfalso; simp at h9; done))
      repeat' (refine And.intro (by decide) ?_)
      refine Exists.intro 1 (And.intro rfl (And.intro (by omega) ?_))
      obtain ⟨b1, g1⟩ := allB_get (allB_map r) (0 + p + 1) (by simp; omega)
      refine Exists.intro _ (And.intro g1 (And.intro (by decide) ?_))
      repeat' (refine And.intro (by decide) ?_)
      refine Exists.intro 0 (And.intro rfl (And.intro (by omega) ?_))
      obtain ⟨b0, g0⟩ := allB_get (allB_set (allB_map r) (0 + p + 1) (shB v 8)) (0 + p + 0) (by simp; omega)
      refine Exists.intro _ (And.intro g0 (And.intro (by decide) ?_))
      have eq : (putY r p v 2).map byteC = (((r.map byteC).set (0 + p + 1) (byteC (shB v 8))).set (0 + p + 0) (byteC (IntKind.u8.wrap v))) := by rw [← put_ord2]; simp [putY, List.map_set, e0, e1, e2, e3]
      have hc := closed_bytes (putY r p v 2)
      rw [eq] at hc
      rw [show ((2 : Int).toNat) = 2 from rfl, eq] at key
      refine Exists.intro _ (And.intro (lendL byteC f) (And.intro (lenB f) (And.intro (closed_bytes _) ?_)))
      refine Exists.intro _ (And.intro (List.take_of_length_le (by simp)) (And.intro (by simp) (And.intro hc ?_)))
      exact key
    · refine Exists.intro p (And.intro hw0 (Exists.intro (p + 4) (And.intro (by rw [hw0, wrap64 (by omega)]; simp) (And.intro (by omega) (And.intro (by omega) ?_)))))
      repeat' ((first | refine And.intro (by decide) ?_ | refine And.intro (fun h9 => ?_) (fun h9 => ?_)) <;> try (exfalso; simp at h9; done))
      repeat' (refine And.intro (by decide) ?_)
      refine Exists.intro 3 (And.intro rfl (And.intro (by omega) ?_))
      obtain ⟨b3, g3⟩ := allB_get (allB_map r) (0 + p + 3) (by simp; omega)
      refine Exists.intro _ (And.intro g3 (And.intro (by decide) ?_))
      repeat' (refine And.intro (by decide) ?_)
      refine Exists.intro 2 (And.intro rfl (And.intro (by omega) ?_))
      obtain ⟨b2, g2⟩ := allB_get (allB_set (allB_map r) (0 + p + 3) (shB v 24)) (0 + p + 2) (by simp; omega)
      refine Exists.intro _ (And.intro g2 (And.intro (by decide) ?_))
      repeat' (refine And.intro (by decide) ?_)
      refine Exists.intro 1 (And.intro rfl (And.intro (by omega) ?_))
      obtain ⟨b1, g1⟩ := allB_get (allB_set (allB_set (allB_map r) (0 + p + 3) (shB v 24)) (0 + p + 2) (shB v 16)) (0 + p + 1) (by simp; omega)
      refine Exists.intro _ (And.intro g1 (And.intro (by decide) ?_))
      repeat' (refine And.intro (by decide) ?_)
      refine Exists.intro 0 (And.intro rfl (And.intro (by omega) ?_))
      obtain ⟨b0, g0⟩ := allB_get (allB_set (allB_set (allB_set (allB_map r) (0 + p + 3) (shB v 24)) (0 + p + 2) (shB v 16)) (0 + p + 1) (shB v 8)) (0 + p + 0) (by simp; omega)
      refine Exists.intro _ (And.intro g0 (And.intro (by decide) ?_))
      have eq : (putY r p v 4).map byteC = (((((r.map byteC).set (0 + p + 3) (byteC (shB v 24))).set (0 + p + 2) (byteC (shB v 16))).set (0 + p + 1) (byteC (shB v 8))).set (0 + p + 0) (byteC (IntKind.u8.wrap v))) := by rw [← put_ord]; simp [putY, List.map_set, e0, e1, e2, e3]
      have hc := closed_bytes (putY r p v 4)
      rw [eq] at hc
      rw [show ((4 : Int).toNat) = 4 from rfl, eq] at key
      refine Exists.intro _ (And.intro (lendL byteC f) (And.intro (lenB f) (And.intro (closed_bytes _) ?_)))
      refine Exists.intro _ (And.intro (List.take_of_length_le (by simp)) (And.intro (by simp) (And.intro hc ?_)))
      exact key
  · exact hp.elim
end Go.Proofs.YtbfjkjdbdejnmaaGreat.Ab
