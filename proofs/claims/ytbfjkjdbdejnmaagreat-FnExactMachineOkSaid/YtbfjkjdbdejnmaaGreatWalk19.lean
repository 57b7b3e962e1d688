/- Functions walked, part 19. No condition. -/
import Derived.Test.YtbfjkjdbdejnmaaGreatWalk18
set_option linter.unusedVariables false
set_option linter.unusedSimpArgs false
/- Managers of impl: the slots. No condition. -/
namespace Go.Proofs.YtbfjkjdbdejnmaaGreat.Ab
set_option linter.unusedVariables false
set_option linter.unusedSimpArgs false
set_option maxRecDepth 100000

def pairB (a b : Int) (o : Sl) : Bool := o.used && (decide (o.mod = a) && decide (o.bank = b))
def turnB (t : Int) (o : Sl) : Bool := o.used && decide (o.turn = t)
theorem clash_eq (s o : Sl) : clashB s o = (turnB s.turn o || pairB s.mod s.bank o) := by
  unfold clashB turnB pairB
  cases o.used <;> cases decide (o.turn = s.turn) <;> rfl
theorem clash_any (s : Sl) (l : List Sl) : l.all (fun o => !clashB s o) = !(l.any (pairB s.mod s.bank) || l.any (turnB s.turn)) := by
  induction l with
  | nil => rfl
  | cons o l ih =>
    rw [List.all_cons, List.any_cons, List.any_cons, ih, clash_eq]
    generalize l.any (pairB s.mod s.bank) = A
    generalize l.any (turnB s.turn) = B
    generalize turnB s.turn o = C
    generalize pairB s.mod s.bank o = D
    cases A <;> cases B <;> cases C <;> cases D <;> rfl
theorem any_step {α : Type} {f : α → Bool} {l : List α} {i : Nat} {a : α} (h : l[i]? = some a) : (l.take (i + 1)).any f = ((l.take i).any f || f a) := by
  rw [List.take_add_one, h]
  simp
def goodB (m : Mc) (l : La) : Bool := decide ((m.slots.length : Int) = m.cfg.slots) && (List.range m.slots.length).all (fun i => slotOkB m.mods m.slots m.turn i && slotIn m l i)
def hSlotByI : CH := fun args hl K => match args, hl with
  | [.iptr _ G, .v (.int .i64 i), .v (.int .i64 b)], [] => ∃ (m : Mc) (l : La) (x : Mo) (I B W : Nat) (ws : List Int), MgV G m l ∧ smMc m ∧ i = I ∧ b = B ∧ m.mods[I]? = some x ∧ x.banks[B]? = some ws ∧ pieceOf x B = some ws ∧ m.cfg.words = W ∧ W ≤ 64 ∧ wordsB ws = true ∧ ws.length ≤ W ∧ K (.slc 0 0 (slotBy m.mods m.cfg.words I B).length false) [.lst 1 ((slotBy m.mods m.cfg.words I B).map byteC)]
  | _, _ => False
def cx_s_slotByI : Ctx := mkC [(116, callM [] false hRup), (192, callM [] false hGPiece), (111, callM [.rw] false hPut4)]
theorem cx_s_slotByI_ok : CtxOk Tryz.prog cx_s_slotByI := mkC_ok (mem1 ⟨s_roundUp, fnOk Tryz.func116 rfl rfl⟩ (mem1 ⟨s_gPiece, fnOk Tryz.func192 rfl rfl⟩ (mem1 ⟨s_put, fnOk Tryz.func111 rfl rfl⟩ mem0)))
set_option maxRecDepth 100000 in
set_option pp.maxSteps 1500 in
set_option maxHeartbeats 8000000 in
theorem s_slotByI : HSound Tryz.prog 218 (callM [] true hSlotByI) := by
  refine callM_sound cx_s_slotByI_ok mixed Tryz.func218 rfl fun args hl K hp => ?_
  unfold hSlotByI at hp
  split at hp
  · rename_i t G i b
    obtain ⟨m, l, x, I, B, W, ws, ⟨b1, z1, r0, r1, r2, r3, r4, r5, r6, r7, rfl⟩, hsm, rfl, rfl, hx, hwb, hpc, hW, hW6, hww, hwl, hp⟩ := hp
    rw [slotBy_at hx hwb] at hp
    have hr := rup_le (4 * W)
    have hr2 := rup_ge (4 * W)
    rw [hW, Int.toNat_natCast] at hp
    refine Or.inl ?_
    refine Exists.intro (4 * W) (And.intro (by rw [hW, wrap64 (by omega)]; omega) (And.intro (by omega) ?_))
    refine Exists.intro (rup (4 * W)) (And.intro rfl (And.intro rfl (And.intro (by simp only; omega) ?_)))
    refine Exists.intro m ?_
    refine Exists.intro l ?_
    refine Exists.intro I ?_
    refine Exists.intro x ?_
    refine Exists.intro ws (And.intro ⟨_, _, _, _, _, _, _, _, _, _, rfl⟩ (And.intro hsm (And.intro rfl (And.intro hx (And.intro hpc ?_)))))
    intro t' z'
    refine Exists.intro true (Exists.intro [7, 21, 22, 23] (Exists.intro (fun n vs h => ∃ k : Nat, k ≤ ws.length ∧ n = ws.length - k ∧ vs = [.slc 0 0 (rup (4 * W)) false, .imm t' z' 1 (ws.map intC), .v (.int .i64 ws.length), .v (.int .i64 k)] ∧ h = [.lst 1 ((pourN (List.replicate (rup (4 * W)) 0) 0 ws k).map byteC)]) (And.intro ?_ ?_)))
    · refine Exists.intro [] ?_
      refine And.intro (closed_rep _) ?_
      refine Exists.intro ws.length ⟨0, by omega, rfl, ?_, ?_⟩
      · rw [List.length_map]
        rfl
      · rw [pourN, List.map_replicate]
        rfl
    intro n vs h hI
    obtain ⟨k, hk, rfl, rfl, rfl⟩ := hI
    have hpl := pourN_len (List.replicate (rup (4 * W)) 0) 0 ws k
    rw [List.length_replicate] at hpl
    refine And.intro (fun h1 => ?_) (fun h1 => ?_)
    · have h1 := of_decide_eq_true h1
      have hlt : k < ws.length := by omega
      obtain ⟨w, hw⟩ : ∃ w, ws[k]? = some w := ⟨_, List.getElem?_eq_getElem hlt⟩
      have hst := pourN_at (b := List.replicate (rup (4 * W)) 0) (a := 0) hw
      rw [Nat.zero_add] at hst
      refine Exists.intro k (And.intro rfl (Exists.intro (intC w) (And.intro (get_map hw) ?_)))
      have hw1 : IntKind.i64.wrap (4 * (k : Int)) = ((4 * k : Nat) : Int) := by rw [wrap64 (by omega)]; omega
      have hw2 : IntKind.i64.wrap (IntKind.i64.wrap (4 * (k : Int)) + 4) = ((4 * k + 4 : Nat) : Int) := by rw [hw1, wrap64 (by omega)]; omega
      refine Exists.intro (4 * k) (And.intro hw1 (Exists.intro (4 * k + 4) (And.intro hw2 (And.intro (by omega) (And.intro (by omega) ?_)))))
      refine And.intro (closed_bytes _) ?_
      refine Exists.intro (pourN (List.replicate (rup (4 * W)) 0) 0 ws k) (And.intro rfl (And.intro (by omega) (And.intro (by omega) ?_)))
      rw [Nat.zero_add, ← hst]
      refine Exists.intro [] ?_
      refine And.intro (closed_bytes _) ?_
      refine Exists.intro (ws.length - (k + 1)) (And.intro (by omega) ⟨k + 1, by omega, rfl, ?_, rfl⟩)
      rw [wrap_succ hlt (by omega)]
    · have h1 := of_decide_eq_false h1
      have hke : k = ws.length := by omega
      subst hke
      refine And.intro (closed_bytes _) ?_
      rw [hpl] at hp
      exact hp
  · exact hp.elim
def hGood : CH := fun args hl K => match args, hl with
  | [.iptr _ G], [] => ∃ (m : Mc) (l : La), MgV G m l ∧ smMc m ∧ LkM m l ∧ (m.r.length : Int) = l.ram ∧ K (.v (.bool (goodB m l))) []
  | _, _ => False
def cx_s_good : Ctx := mkC [(189, callM [] true hGHas), (217, callM [] false hSlotRam), (218, callM [] true hSlotByI), (188, callM [] true hEqByt)]
theorem cx_s_good_ok : CtxOk Tryz.prog cx_s_good := mkC_ok (mem1 ⟨s_gHas, fnOk Tryz.func189 rfl rfl⟩ (mem1 ⟨s_slotRam, fnOk Tryz.func217 rfl rfl⟩ (mem1 ⟨s_slotByI, fnOk Tryz.func218 rfl rfl⟩ (mem1 ⟨s_EqualByt, fnOk Tryz.func188 rfl rfl⟩ mem0))))
set_option maxRecDepth 100000 in
set_option pp.maxSteps 1500 in
set_option maxHeartbeats 16000000 in
theorem s_good : HSound Tryz.prog 190 (callM [] true hGood) := by
  refine callM_sound cx_s_good_ok mixed Tryz.func190 rfl fun args hl K hp => ?_
  unfold hGood at hp
  split at hp
  · rename_i t G
    obtain ⟨m, l, ⟨b1, z1, r0, r1, r2, r3, r4, r5, r6, r7, rfl⟩, hsm, hk, hre, hp⟩ := hp
    have hk' := hk
    obtain ⟨kg, kn, ⟨kw0, kw1⟩, ka, kl, ⟨kr0, kr1⟩, knl⟩ := hk
    have e0 : (m.slots.map slC).length = m.slots.length := List.length_map _
    have hsl := hsm.slots
    rw [goodB] at hp
    refine And.intro (show Region.lexB _ _ = true from by kernel_rfl) ?_
    refine And.intro (fun h1 => ?_) (fun h1 => ?_)
    · have h1 : ¬ ((m.slots.length : Int) = m.cfg.slots) := by
        have := h1
        rw [e0] at this
        simpa using this
      rw [decide_eq_false h1, Bool.false_and] at hp
      exact hp
    have h1 : (m.slots.length : Int) = m.cfg.slots := by
      have := h1
      rw [e0] at this
      simpa using this
    rw [decide_eq_true h1, Bool.true_and] at hp
    have hbad : ∀ i, i < m.slots.length → (slotOkB m.mods m.slots m.turn i && slotIn m l i) = false → K (.v (.bool false)) [] := fun i hi h => by
      rw [range_bad (f := fun i => slotOkB m.mods m.slots m.turn i && slotIn m l i) hi h] at hp
      exact hp
    refine Exists.intro true (Exists.intro [0, 3, 4, 24, 25, 26] (Exists.intro (fun n vs h => ∃ (k : Nat) (M1 M2 : List (MK × Value)), k ≤ m.slots.length ∧ n = m.slots.length - k ∧ (List.range k).all (fun i => slotOkB m.mods m.slots m.turn i && slotIn m l i) = true ∧
      (∀ a b, mapFind (.p a b) M1 = match (m.slots.take k).any (pairB a b) with | true => some (.bool true) | false => none) ∧ (∀ a, mapFind (.i a) M2 = match (m.slots.take k).any (turnB a) with | true => some (.bool true) | false => none) ∧
      vs = [.iptr t (mgC m l b1 z1 r0 r1 r2 r3 r4 r5 r6 r7), .mapr 0, .mapr 1, .imm t false 4 (m.slots.map slC), .v (.int .i64 m.slots.length), .v (.int .i64 k)] ∧ h = [.mp 2 M1, .mp 1 M2]) (And.intro ?_ ?_)))
    · refine Exists.intro [] ?_
      refine Exists.intro m.slots.length ⟨0, [], [], by omega, rfl, rfl, fun a b => rfl, fun a => rfl, ?_, rfl⟩
      rw [List.length_map]
      rfl
    intro n vs h hI
    obtain ⟨k, M1, M2, hk, rfl, hcl, hM1, hM2, rfl, rfl⟩ := hI
    refine And.intro (fun h2 => ?_) (fun h2 => ?_)
    · have h2 := of_decide_eq_true h2
      have hlt : k < m.slots.length := by omega
      obtain ⟨s, hs⟩ : ∃ s, m.slots[k]? = some s := ⟨_, List.getElem?_eq_getElem hlt⟩
      obtain ⟨ak, hak⟩ : ∃ a, l.slots[k]? = some a := ⟨_, List.getElem?_eq_getElem (by omega)⟩
      have hbk := hbad k hlt
      have hin : slotIn m l k = (!s.used || decide (ramAt m.r ak (rup (4 * m.cfg.words.toNat)) = slotBy m.mods m.cfg.words s.mod s.bank)) := by
        simp only [slotIn, hs, List.getD_eq_getElem?_getD, hak, Option.getD_some]
      have hok : slotOkB m.mods m.slots m.turn k = if s.used then thereB m.mods s.mod s.bank && decide (0 ≤ s.bank ∧ 1 ≤ s.turn ∧ s.turn ≤ m.turn) && !((m.slots.take k).any (pairB s.mod s.bank) || (m.slots.take k).any (turnB s.turn)) else decide (s.mod = 0 ∧ s.bank = 0 ∧ s.turn = 0) := by
        simp only [slotOkB, hs, clash_any]
      have hnext : (slotOkB m.mods m.slots m.turn k && slotIn m l k) = true → (List.range (k + 1)).all (fun i => slotOkB m.mods m.slots m.turn i && slotIn m l i) = true := fun h => range_take hlt hcl h
      rw [hok, hin] at hbk hnext
      refine Exists.intro k (And.intro rfl (Exists.intro (slC s) (And.intro (get_map hs) ?_)))
      refine And.intro (fun h3 => ?_) (fun h3 => ?_)
      · have hu : s.used = false := by simpa using h3
        have hA : ∀ a b, (m.slots.take (k + 1)).any (pairB a b) = (m.slots.take k).any (pairB a b) := fun a b => by rw [any_step hs, pairB, hu]; simp
        have hB : ∀ a, (m.slots.take (k + 1)).any (turnB a) = (m.slots.take k).any (turnB a) := fun a => by rw [any_step hs, turnB, hu]; simp
        rw [hu] at hbk hnext
        simp only [Bool.false_eq_true, if_false, Bool.not_false, Bool.true_or, Bool.and_true] at hbk hnext
        refine And.intro (fun h4 => ?_) (fun h4 => ?_)
        · exact hbk (decide_eq_false (fun ⟨q1, q2, q3⟩ => by simp [slC, hu, q1, q2, q3] at h4))
        · have hz : s.mod = 0 ∧ s.bank = 0 ∧ s.turn = 0 := by simpa [slC, hu] using h4
          refine Exists.intro [] (Exists.intro (m.slots.length - (k + 1)) (And.intro (by omega) ⟨k + 1, M1, M2, by omega, rfl, hnext (decide_eq_true hz), fun a b => by rw [hM1, hA], fun a => by rw [hM2, hB], ?_, rfl⟩))
          rw [wrap_succ hlt (by omega)]
      · have hu : s.used = true := by simpa using h3
        have hA : ∀ a b, (m.slots.take (k + 1)).any (pairB a b) = ((m.slots.take k).any (pairB a b) || (decide (s.mod = a) && decide (s.bank = b))) := fun a b => by rw [any_step hs]; conv => lhs; rw [pairB, hu, Bool.true_and]
        have hB' : ∀ a, (m.slots.take (k + 1)).any (turnB a) = ((m.slots.take k).any (turnB a) || decide (s.turn = a)) := fun a => by rw [any_step hs]; conv => lhs; rw [turnB, hu, Bool.true_and]
        rw [hu] at hbk hnext
        simp only [if_true, Bool.not_true, Bool.false_or] at hbk hnext
        have hfal : thereB m.mods s.mod s.bank = false ∨ decide (0 ≤ s.bank ∧ 1 ≤ s.turn ∧ s.turn ≤ m.turn) = false ∨ (m.slots.take k).any (pairB s.mod s.bank) = true ∨ (m.slots.take k).any (turnB s.turn) = true ∨ decide (ramAt m.r ak (rup (4 * m.cfg.words.toNat)) = slotBy m.mods m.cfg.words s.mod s.bank) = false → K (.v (.bool false)) [] := fun h => by
          refine hbk ?_
          rcases h with h | h | h | h | h <;> rw [h] <;> simp
        refine Or.inl ?_
        refine And.intro (show wfB _ = true from by kernel_rfl) ?_
        refine And.intro (fun c1 => ?_) (fun c1 => ?_)
        · have c1 := of_decide_eq_true c1
          repeat' ((first
            | refine And.intro (fun h5 => ?_) (fun h5 => ?_)
            | fail) <;> try first | (cases h5; done))
          exact hfal (Or.inr (Or.inl (decide_eq_false (by omega))))
        have c1 := of_decide_eq_false c1
        cases hT : thereB m.mods s.mod s.bank with
        | false =>
          apply HeldC.intro
          · refine Exists.intro m ?_
            refine Exists.intro l (And.intro ⟨_, _, _, _, _, _, _, _, _, _, rfl⟩ (And.intro hsm ?_))
            rw [hT]
            exact And.intro rfl rfl
          repeat' ((first
            | refine And.intro (And.intro rfl rfl) ?_
            | refine And.intro (fun h5 => ?_) (fun h5 => ?_)
            | fail) <;> try first | (cases h5; done))
          exact hfal (Or.inl hT)
        | true =>
          apply HeldC.intro
          · refine Exists.intro m ?_
            refine Exists.intro l (And.intro ⟨_, _, _, _, _, _, _, _, _, _, rfl⟩ (And.intro hsm ?_))
            rw [hT]
            exact And.intro rfl rfl
          repeat' ((first
            | refine And.intro (And.intro rfl rfl) ?_
            | refine And.intro (fun h5 => ?_) (fun h5 => ?_)
            | fail) <;> try first | (cases h5; done))
          · have c2 := of_decide_eq_true (by assumption : decide (s.turn < 1) = true)
            exact hfal (Or.inr (Or.inl (decide_eq_false (by omega))))
          · have c2 := of_decide_eq_true (by assumption : decide (s.turn > m.turn) = true)
            exact hfal (Or.inr (Or.inl (decide_eq_false (by omega))))
          have c2 := of_decide_eq_false (by assumption : decide (s.turn < 1) = false)
          have c3 := of_decide_eq_false (by assumption : decide (s.turn > m.turn) = false)
          cases hP : (m.slots.take k).any (pairB s.mod s.bank) with
          | true =>
            apply HeldC.intro
            · refine And.intro (fun v hv => ?_) (fun hv => ?_)
              · rw [hM1, hP] at hv
                cases hv
                exact And.intro rfl rfl
              · rw [hM1, hP] at hv
                cases hv
            repeat' ((first
              | refine And.intro (And.intro rfl rfl) ?_
              | refine And.intro (fun h5 => ?_) (fun h5 => ?_)
              | fail) <;> try first | (cases h5; done))
            exact hfal (Or.inr (Or.inr (Or.inl hP)))
          | false =>
            apply HeldC.intro
            · refine And.intro (fun v hv => ?_) (fun hv => ?_)
              · rw [hM1, hP] at hv
                cases hv
              · exact And.intro rfl rfl
            repeat' ((first
              | refine And.intro (And.intro rfl rfl) ?_
              | refine And.intro (fun h5 => ?_) (fun h5 => ?_)
              | fail) <;> try first | (cases h5; done))
            cases hQ : (m.slots.take k).any (turnB s.turn) with
            | true =>
              apply HeldC.intro
              · refine And.intro (fun v hv => ?_) (fun hv => ?_)
                · rw [hM2, hQ] at hv
                  cases hv
                  exact And.intro rfl rfl
                · rw [hM2, hQ] at hv
                  cases hv
              repeat' ((first
                | refine And.intro (And.intro rfl rfl) ?_
                | refine And.intro (fun h5 => ?_) (fun h5 => ?_)
                | fail) <;> try first | (cases h5; done))
              exact hfal (Or.inr (Or.inr (Or.inr (Or.inl hQ))))
            | false =>
              apply HeldC.intro
              · refine And.intro (fun v hv => ?_) (fun hv => ?_)
                · rw [hM2, hQ] at hv
                  cases hv
                · exact And.intro rfl rfl
              repeat' ((first
                | refine And.intro (And.intro rfl rfl) ?_
                | refine And.intro (fun h5 => ?_) (fun h5 => ?_)
                | fail) <;> try first | (cases h5; done))
              obtain ⟨I, x, ws, hi, hx, hw⟩ := there_spec hT
              obtain ⟨B, hB⟩ := Int.eq_ofNat_of_zero_le (show 0 ≤ s.bank by omega)
              obtain ⟨W, hW⟩ := Int.eq_ofNat_of_zero_le kw0
              have hxg := kg x (List.mem_of_getElem? hx)
              have hwb : x.banks[B]? = some ws := by
                have hw2 := hw
                rw [pieceOf, if_neg (by omega)] at hw2
                split at hw2
                · rw [hB, Int.toNat_natCast] at hw2
                  exact hw2
                · cases hw2
              have hxb := hxg.bk ws (List.mem_of_getElem? hwb)
              have hwl := kl (by omega) x (List.mem_of_getElem? hx) ws (List.mem_of_getElem? hwb)
              have hEq : slotBy m.mods m.cfg.words s.mod s.bank = slotBy m.mods m.cfg.words I B := by rw [hi, hB]
              rw [hEq] at hfal hnext
              rw [hB] at hw
              apply HeldC.all (fun y h2 => ∃ t' z', y = .imm t' z' 1 ((ramAt m.r ak (rup (4 * m.cfg.words.toNat))).map byteC) ∧ h2 = [.mp 2 M1, .mp 1 M2, .box (slC s), .box [.v (.int .i64 s.mod), .v (.int .i64 s.bank)]])
              · refine Exists.intro m ?_
                refine Exists.intro l ?_
                refine Exists.intro k ?_
                refine Exists.intro ak (And.intro ⟨_, _, _, _, _, _, _, _, _, _, rfl⟩ (And.intro hk' (And.intro hre (And.intro rfl (And.intro hak ?_)))))
                intro t' z'
                exact ⟨_, _, ⟨t', z', rfl, rfl⟩, rfl, rfl⟩
              rintro y h2 ⟨t', z', rfl, rfl⟩
              repeat' (first | refine And.intro (And.intro rfl rfl) ?_ | fail)
              apply HeldC.intro
              · refine Exists.intro m ?_
                refine Exists.intro l ?_
                refine Exists.intro x ?_
                refine Exists.intro I ?_
                refine Exists.intro B ?_
                refine Exists.intro W ?_
                refine Exists.intro ws (And.intro ⟨_, _, _, _, _, _, _, _, _, _, rfl⟩ (And.intro hsm (And.intro hi (And.intro hB (And.intro hx (And.intro hwb (And.intro hw (And.intro hW (And.intro (by omega) (And.intro hxb.2 (And.intro (by omega) ?_)))))))))))
                exact And.intro rfl rfl
              repeat' (first | refine And.intro (And.intro rfl rfl) ?_ | fail)
              cases hE : decide (ramAt m.r ak (rup (4 * m.cfg.words.toNat)) = slotBy m.mods m.cfg.words I B) with
              | false =>
                apply HeldC.intro
                · refine Exists.intro _ (And.intro (lendD _ _) (And.intro (List.length_map _) ?_))
                  refine And.intro (closed_bytes _) ?_
                  refine Exists.intro (ramAt m.r ak (rup (4 * m.cfg.words.toNat))) ?_
                  refine Exists.intro (slotBy m.mods m.cfg.words I B) (And.intro rfl (And.intro rfl (And.intro (by rw [ramAt, List.length_take, hW, Int.toNat_natCast]; have := rup_le (4 * W); omega) ?_)))
                  rw [hE]
                  exact And.intro rfl rfl
                repeat' ((first
                  | refine And.intro (And.intro rfl rfl) ?_
                  | refine And.intro (fun h5 => ?_) (fun h5 => ?_)
                  | fail) <;> try first | (cases h5; done))
                exact hfal (Or.inr (Or.inr (Or.inr (Or.inr hE))))
              | true =>
                apply HeldC.intro
                · refine Exists.intro _ (And.intro (lendD _ _) (And.intro (List.length_map _) ?_))
                  refine And.intro (closed_bytes _) ?_
                  refine Exists.intro (ramAt m.r ak (rup (4 * m.cfg.words.toNat))) ?_
                  refine Exists.intro (slotBy m.mods m.cfg.words I B) (And.intro rfl (And.intro rfl (And.intro (by rw [ramAt, List.length_take, hW, Int.toNat_natCast]; have := rup_le (4 * W); omega) ?_)))
                  rw [hE]
                  exact And.intro rfl rfl
                repeat' ((first
                  | refine And.intro (And.intro rfl rfl) ?_
                  | refine And.intro (fun h5 => ?_) (fun h5 => ?_)
                  | fail) <;> try first | (cases h5; done))
                have hD : decide (0 ≤ s.bank ∧ 1 ≤ s.turn ∧ s.turn ≤ m.turn) = true := decide_eq_true (by omega)
                rw [hT, hD, hP, hQ, hE] at hnext
                have hnext := hnext rfl
                have hM1' : ∀ a b, mapFind (.p a b) (mapSet (.p s.mod s.bank) (.bool true) M1) = match (m.slots.take (k + 1)).any (pairB a b) with | true => some (.bool true) | false => none := by
                  intro a b
                  rw [mapFind_set, hM1, hA]
                  by_cases hq : s.mod = a ∧ s.bank = b
                  · obtain ⟨rfl, rfl⟩ := hq
                    simp
                  · rw [if_neg (by simpa using hq)]
                    have : (decide (s.mod = a) && decide (s.bank = b)) = false := by
                      rw [Bool.and_eq_false_iff]
                      by_cases h1 : s.mod = a
                      · exact .inr (decide_eq_false fun h2 => hq ⟨h1, h2⟩)
                      · exact .inl (decide_eq_false h1)
                    rw [this, Bool.or_false]
                have hM2' : ∀ a, mapFind (.i a) (mapSet (.i s.turn) (.bool true) M2) = match (m.slots.take (k + 1)).any (turnB a) with | true => some (.bool true) | false => none := by
                  intro a
                  rw [mapFind_set, hM2, hB']
                  by_cases hq : s.turn = a
                  · subst hq
                    simp
                  · rw [if_neg (by simpa using hq), decide_eq_false hq, Bool.or_false]
                refine Or.inl ?_
                refine And.intro (show wfB _ = true from by kernel_rfl) ?_
                repeat' (first
                  | refine And.intro (show wfB _ = true from by kernel_rfl) ?_ | refine And.intro (And.intro rfl rfl) ?_ | exact And.intro rfl rfl | apply HeldC.intro | exact AV.top | (apply HeldF.intro; refine Exists.intro _ (And.intro (by assumption) ?_); refine And.intro (by decide) ?_; exact And.intro rfl rfl) | (refine And.intro (by (refine Exists.intro _ (And.intro (by assumption) ?_); refine And.intro (by decide) ?_; exact And.intro rfl rfl)) ?_) | refine Or.inl ?_
                  | refine And.intro ?_ ?_
                  | fail)
                all_goals refine Exists.intro [] ?_
                all_goals refine Exists.intro (m.slots.length - (k + 1)) (And.intro (by omega) ⟨k + 1, _, _, by omega, rfl, hnext, hM1', hM2', ?_, rfl⟩)
                all_goals rw [wrap_succ hlt (by omega)]
    · have h2 := of_decide_eq_false h2
      have hke : k = m.slots.length := by omega
      subst hke
      rw [hcl] at hp
      exact hp
  · exact hp.elim
end Go.Proofs.YtbfjkjdbdejnmaaGreat.Ab

/- Managers of impl: valid or not. No condition. -/
namespace Go.Proofs.YtbfjkjdbdejnmaaGreat.Ab
set_option linter.unusedVariables false
set_option linter.unusedSimpArgs false
set_option maxRecDepth 100000

def mrestB (m : Mc) (l : La) : Bool := decide (flashN m.mods l m.mods.length = m.f) && decide ((m.r.length : Int) = l.ram) && decide (0 ≤ m.turn ∧ m.turn ≤ 1000000000) && thereB m.mods m.mod m.bank && slotsB m l && framesB m
def findB (m : Mc) : Bool := decide (m.slots.length = 0 ∨ m.bank = -1) || decide (0 ≤ holdsF m.slots m.mod m.bank)
theorem slots_good (m : Mc) (l : La) : slotsB m l = (goodB m l && findB m) := rfl
def hMok : CH := fun args hl K => match args, hl with
  | [.iptr _ G], [] => ∃ (m : Mc) (l : La), MgV G m l ∧ smMc m ∧ LkM m l ∧ Lim m.mods l ∧ (∀ x ∈ m.mods, BytesOk x.data) ∧ K (.v (.bool (mrestB m l))) []
  | _, _ => False
def cx_s_mok : Ctx := mkCut [(53, callM [] true hImg), (188, callM [] true hEqByt), (189, callM [] true hGHas), (190, callM [] true hGood), (191, callM [] true hFind), (192, callM [] false hGPiece), (162, callM [] false hWord)]
theorem cx_s_mok_ok : CtxOk Tryz.prog cx_s_mok := mkCut_ok (mem1 ⟨s_image, fnOk Tryz.func53 rfl rfl⟩ (mem1 ⟨s_EqualByt, fnOk Tryz.func188 rfl rfl⟩ (mem1 ⟨s_gHas, fnOk Tryz.func189 rfl rfl⟩ (mem1 ⟨s_good, fnOk Tryz.func190 rfl rfl⟩ (mem1 ⟨s_find, fnOk Tryz.func191 rfl rfl⟩ (mem1 ⟨s_gPiece, fnOk Tryz.func192 rfl rfl⟩ (mem1 ⟨s_isWord, fnOk Tryz.func162 rfl rfl⟩ mem0)))))))
set_option maxRecDepth 100000 in
set_option pp.maxSteps 1500 in
set_option maxHeartbeats 32000000 in
theorem s_mok : HSound Tryz.prog 133 (callM [] true hMok) := by
  refine callM_sound cx_s_mok_ok mixed Tryz.func133 rfl fun args hl K hp => ?_
  unfold hMok at hp
  split at hp
  · rename_i t G
    obtain ⟨m, l, ⟨b1, z1, r0, r1, r2, r3, r4, r5, r6, r7, rfl⟩, hsm, hk', hlim, hda, hp⟩ := hp
    obtain ⟨kg, kn, ⟨kw0, kw1⟩, ka, kl, ⟨kr0, kr1⟩, knl⟩ := hk'
    have hk' : LkM m l := ⟨kg, kn, ⟨kw0, kw1⟩, ka, kl, ⟨kr0, kr1⟩, knl⟩
    have hrr := ramN_len hlim m.mods.length
    have hff := flashN_len m.mods l m.mods.length
    have hfl := hlim.fl
    rw [mrestB] at hp
    have hfl2 := hsm.f
    generalize hFN : flashN m.mods l m.mods.length = FN at *
    refine Or.inr (Exists.intro true (Exists.intro [0, 3] (Exists.intro (fun vs h => vs = [.iptr t (mgC m l b1 z1 r0 r1 r2 r3 r4 r5 r6 r7), .ptr 0 0 0 3] ∧ h = [.box [.sl 1 (FN.map byteC), .sl 1 ((ramN m.mods l m.mods.length).map byteC), .sl 1 []]]) (And.intro ?_ ?_))))
    · refine Or.inl ?_
      refine And.intro (show wfB _ = true from by kernel_rfl) ?_
      repeat' (first
        | (refine Exists.intro m.mods ?_; refine Exists.intro l (And.intro rfl (And.intro hda (And.intro ⟨_, _, _, _, _, _, rfl⟩ (And.intro hlim ?_)))); rw [hFN]; exact And.intro rfl rfl)
        | refine And.intro (show wfB _ = true from by kernel_rfl) ?_ | refine And.intro (And.intro rfl rfl) ?_ | exact And.intro rfl rfl | apply HeldC.intro | exact AV.top | (apply HeldF.intro; refine Exists.intro _ (And.intro (by assumption) ?_); refine And.intro (by decide) ?_; exact And.intro rfl rfl) | (refine And.intro (by (refine Exists.intro _ (And.intro (by assumption) ?_); refine And.intro (by decide) ?_; exact And.intro rfl rfl)) ?_) | refine Or.inl ?_
        | refine And.intro ?_ ?_
        | fail)
      all_goals refine Exists.intro [] ?_
      all_goals repeat' (first
        | refine Exists.intro [] (And.intro rfl (And.intro rfl (And.intro closed_nil ?_)))
        | refine Exists.intro _ (And.intro (lendL _ _) (And.intro (List.length_map _) (And.intro (closed_bytes _) ?_)))
        | refine Exists.intro _ (And.intro List.take_length (And.intro rfl (And.intro (closed_bytes _) ?_)))
        | fail)
      all_goals exact And.intro rfl rfl
    rintro vs h ⟨rfl, rfl⟩
    generalize ramN m.mods l m.mods.length = RN at *
    rw [slots_good] at hp
    have hfal : decide (FN = m.f) = false ∨ decide ((m.r.length : Int) = l.ram) = false ∨ decide (0 ≤ m.turn ∧ m.turn ≤ 1000000000) = false ∨ thereB m.mods m.mod m.bank = false ∨ goodB m l = false ∨ findB m = false ∨ framesB m = false → K (.v (.bool false)) [] := fun h => by
      refine fin_b hp ?_
      rcases h with h | h | h | h | h | h | h <;> rw [h] <;> simp
    have hrl : ((List.map byteC m.r).length : Int) = m.r.length := by rw [List.length_map]
    refine Or.inl (Or.inl ?_)
    refine Or.inl ?_
    refine And.intro (show wfB _ = true from by kernel_rfl) ?_
    by_cases hE : m.f = FN
    rotate_left
    · apply HeldC.intro
      · refine Exists.intro _ (And.intro (lendT4 _) (And.intro rfl ?_))
        refine And.intro (closed_bytes _) ?_
        refine Exists.intro m.f ?_
        refine Exists.intro FN (And.intro rfl (And.intro rfl (And.intro hfl2 ?_)))
        rw [decide_eq_false hE]
        exact And.intro rfl rfl
      repeat' ((first
        | refine And.intro (And.intro rfl rfl) ?_
        | refine And.intro (fun h5 => ?_) (fun h5 => ?_)
        | fail) <;> try first | (cases h5; done))
      exact hfal (Or.inl (decide_eq_false fun h => hE h.symm))
    apply HeldC.intro
    · refine Exists.intro _ (And.intro (lendT4 _) (And.intro rfl ?_))
      refine And.intro (closed_bytes _) ?_
      refine Exists.intro m.f ?_
      refine Exists.intro FN (And.intro rfl (And.intro rfl (And.intro hfl2 ?_)))
      rw [decide_eq_true hE]
      exact And.intro rfl rfl
    repeat' ((first
        | refine And.intro (And.intro rfl rfl) ?_
        | refine And.intro (fun h5 => ?_) (fun h5 => ?_)
        | fail) <;> try first | (cases h5; done))
    · have q : ¬ ((m.r.length : Int) = RN.length) := by
        have : (((List.map byteC m.r).length : Int) != ((List.map byteC RN).length : Int)) = true := by assumption
        rw [List.length_map, List.length_map] at this
        simpa using this
      exact hfal (Or.inr (Or.inl (decide_eq_false fun h => by omega)))
    have hre : (m.r.length : Int) = l.ram := by
      have : (((List.map byteC m.r).length : Int) != ((List.map byteC RN).length : Int)) = false := by assumption
      rw [List.length_map, List.length_map] at this
      simp at this
      omega
    cases hT : thereB m.mods m.mod m.bank with
    | false =>
      apply HeldC.intro
      · refine Exists.intro m ?_
        refine Exists.intro l (And.intro ⟨_, _, _, _, _, _, _, _, _, _, rfl⟩ (And.intro hsm ?_))
        rw [hT]
        exact And.intro rfl rfl
      repeat' ((first
        | refine And.intro (And.intro rfl rfl) ?_
        | refine And.intro (fun h5 => ?_) (fun h5 => ?_)
        | fail) <;> try first | (cases h5; done))
      exact hfal (Or.inr (Or.inr (Or.inr (Or.inl hT))))
    | true =>
      apply HeldC.intro
      · refine Exists.intro m ?_
        refine Exists.intro l (And.intro ⟨_, _, _, _, _, _, _, _, _, _, rfl⟩ (And.intro hsm ?_))
        rw [hT]
        exact And.intro rfl rfl
      repeat' ((first
        | refine And.intro (And.intro rfl rfl) ?_
        | refine And.intro (fun h5 => ?_) (fun h5 => ?_)
        | fail) <;> try first | (cases h5; done))
      · have c := of_decide_eq_true (by assumption : decide (m.turn < 0) = true)
        exact hfal (Or.inr (Or.inr (Or.inl (decide_eq_false (by omega)))))
      · have c := of_decide_eq_true (by assumption : decide (m.turn > 1000000000) = true)
        exact hfal (Or.inr (Or.inr (Or.inl (decide_eq_false (by omega)))))
      have c2 := of_decide_eq_false (by assumption : decide (m.turn < 0) = false)
      have c3 := of_decide_eq_false (by assumption : decide (m.turn > 1000000000) = false)
      cases hG : goodB m l with
      | false =>
        apply HeldC.intro
        · refine Exists.intro m ?_
          refine Exists.intro l (And.intro ⟨_, _, _, _, _, _, _, _, _, _, rfl⟩ (And.intro hsm (And.intro hk' (And.intro hre ?_))))
          rw [hG]
          exact And.intro rfl rfl
        repeat' ((first
        | refine And.intro (And.intro rfl rfl) ?_
        | refine And.intro (fun h5 => ?_) (fun h5 => ?_)
        | fail) <;> try first | (cases h5; done))
        exact hfal (Or.inr (Or.inr (Or.inr (Or.inr (Or.inl hG)))))
      | true =>
        apply HeldC.intro
        · refine Exists.intro m ?_
          refine Exists.intro l (And.intro ⟨_, _, _, _, _, _, _, _, _, _, rfl⟩ (And.intro hsm (And.intro hk' (And.intro hre ?_))))
          rw [hG]
          exact And.intro rfl rfl
        repeat' ((first
        | refine And.intro (And.intro rfl rfl) ?_
        | refine And.intro (fun h5 => ?_) (fun h5 => ?_)
        | fail) <;> try first | (cases h5; done))
        rw [decide_eq_true hE.symm, decide_eq_true hre, decide_eq_true (show 0 ≤ m.turn ∧ m.turn ≤ 1000000000 by omega), hT, hG] at hp
        simp only [Bool.true_and] at hp
        have hbk : -1 ≤ m.bank := by
          obtain ⟨I, x, ws, hi, hx, hw⟩ := there_spec hT
          have : (pieceOf x m.bank).isSome = true := by rw [hw]; rfl
          rw [piece_some, decide_eq_true_eq] at this
          omega
        refine Or.inr (Exists.intro true (Exists.intro [0] (Exists.intro (fun vs h => vs = [.iptr t (mgC m l b1 z1 r0 r1 r2 r3 r4 r5 r6 r7)] ∧ h = [] ∧ findB m = true) (And.intro ?_ ?_))))
        · refine Or.inl ?_
          refine Or.inl ?_
          refine And.intro (show wfB _ = true from by kernel_rfl) ?_
          repeat' ((first
            | (refine Exists.intro m ?_; refine Exists.intro l (And.intro ⟨_, _, _, _, _, _, _, _, _, _, rfl⟩ (And.intro hsm ?_)); exact And.intro rfl rfl)
            | apply HeldC.intro
            | refine And.intro (And.intro rfl rfl) ?_
            | refine And.intro (fun h5 => ?_) (fun h5 => ?_)
            | fail) <;> try first | (cases h5; done))
          · have q1 := of_decide_eq_true (by assumption : decide (((List.map slC m.slots).length : Int) > 0) = true)
            have q2 := of_decide_eq_true (by assumption : decide (m.bank ≥ 0) = true)
            have q3 := of_decide_eq_true h5
            rw [List.length_map] at q1
            exact hfal (Or.inr (Or.inr (Or.inr (Or.inr (Or.inr (Or.inl (by rw [findB, decide_eq_false (by omega), decide_eq_false (by omega)]; rfl)))))))
          · have q3 := of_decide_eq_false h5
            exact Exists.intro [] ⟨rfl, rfl, by rw [findB, decide_eq_true (show 0 ≤ holdsF m.slots m.mod m.bank by omega), Bool.or_true]⟩
          · have q2 := of_decide_eq_false (by assumption : decide (m.bank ≥ 0) = false)
            exact Exists.intro [] ⟨rfl, rfl, by rw [findB, decide_eq_true (Or.inr (by omega)), Bool.true_or]⟩
          · have q1 := of_decide_eq_false (by assumption : decide (((List.map slC m.slots).length : Int) > 0) = false)
            rw [List.length_map] at q1
            exact Exists.intro [] ⟨rfl, rfl, by rw [findB, decide_eq_true (Or.inl (by omega)), Bool.true_or]⟩
        rintro vs h ⟨rfl, rfl, hF⟩
        rw [hF, Bool.true_and, framesB] at hp
        clear hfal
        have es : (m.shadow.map frC).length = m.shadow.length := List.length_map _
        have hshl := hsm.shadow
        refine Or.inl ?_
        refine Or.inl ?_
        refine And.intro (show Region.lexB _ _ = true from by kernel_rfl) ?_
        refine And.intro (fun h6 => ?_) (fun h6 => ?_)
        · have h6 := of_decide_eq_true h6
          rw [es] at h6
          rw [decide_eq_false (by omega), Bool.false_and] at hp
          exact hp
        have h6 := of_decide_eq_false h6
        rw [es] at h6
        rw [decide_eq_true (by omega), Bool.true_and] at hp
        refine Exists.intro true (Exists.intro [0, 110, 111, 112] (Exists.intro (fun n vs h => ∃ k : Nat, k ≤ m.shadow.length ∧ n = m.shadow.length - k ∧ (m.shadow.take k).all (frameB m.mods) = true ∧ vs = [.iptr t (mgC m l b1 z1 r0 r1 r2 r3 r4 r5 r6 r7), .imm t false 4 (m.shadow.map frC), .v (.int .i64 m.shadow.length), .v (.int .i64 k)] ∧ h = []) (And.intro ?_ ?_)))
        · refine Exists.intro [] ?_
          refine Exists.intro m.shadow.length ⟨0, by omega, rfl, rfl, ?_, rfl⟩
          rw [es]
          rfl
        intro n vs h hJ
        obtain ⟨k, hk, rfl, hcl, rfl, rfl⟩ := hJ
        refine Or.inl ?_
        refine And.intro (fun h7 => ?_) (fun h7 => ?_)
        · have h7 := of_decide_eq_true h7
          have hlt : k < m.shadow.length := by omega
          obtain ⟨f, hf⟩ : ∃ f, m.shadow[k]? = some f := ⟨_, List.getElem?_eq_getElem hlt⟩
          have hbad : frameB m.mods f = false → K (.v (.bool false)) [] := fun h => by rw [all_bad hf h] at hp; exact hp
          have hgood : frameB m.mods f = true → (m.shadow.take (k + 1)).all (frameB m.mods) = true := fun h => all_take hf hcl h
          refine Exists.intro k (And.intro rfl (Exists.intro (frC f) (And.intro (get_map hf) ?_)))
          refine Or.inl ?_
          refine Or.inl ?_
          refine And.intro (show wfB _ = true from by kernel_rfl) ?_
          cases hF : thereB m.mods f.mod f.bank with
          | false =>
            apply HeldC.intro
            · refine Exists.intro m ?_
              refine Exists.intro l (And.intro ⟨_, _, _, _, _, _, _, _, _, _, rfl⟩ (And.intro hsm ?_))
              rw [hF]
              exact And.intro rfl rfl
            repeat' ((first
              | refine And.intro (And.intro rfl rfl) ?_
              | refine And.intro (fun h5 => ?_) (fun h5 => ?_)
              | fail) <;> try first | (cases h5; done))
            exact hbad (by rw [frameB, hF]; rfl)
          | true =>
            obtain ⟨I, x, ws, hi, hx, hw⟩ := there_spec hF
            have hwl := piece_len (kg x (List.mem_of_getElem? hx)) hw
            rw [frame_at hi hx hw] at hbad hgood
            apply HeldC.intro
            · refine Exists.intro m ?_
              refine Exists.intro l (And.intro ⟨_, _, _, _, _, _, _, _, _, _, rfl⟩ (And.intro hsm ?_))
              rw [hF]
              exact And.intro rfl rfl
            repeat' ((first
              | refine And.intro (And.intro rfl rfl) ?_
              | refine And.intro (fun h5 => ?_) (fun h5 => ?_)
              | fail) <;> try first | (cases h5; done))
            · have c := of_decide_eq_true (by assumption : decide (f.pos < 0) = true)
              exact hbad (decide_eq_false (by omega))
            have c1 := of_decide_eq_false (by assumption : decide (f.pos < 0) = false)
            apply HeldC.all (fun y h2 => ∃ t' z', y = .imm t' z' 1 (ws.map intC) ∧ h2 = [.box (frC f)])
            · refine Exists.intro m ?_
              refine Exists.intro l ?_
              refine Exists.intro I ?_
              refine Exists.intro x ?_
              refine Exists.intro ws (And.intro ⟨_, _, _, _, _, _, _, _, _, _, rfl⟩ (And.intro hsm (And.intro hi (And.intro hx (And.intro hw ?_)))))
              intro t' z'
              exact ⟨_, _, ⟨t', z', rfl, rfl⟩, rfl, rfl⟩
            rintro y h2 ⟨t', z', rfl, rfl⟩
            repeat' ((first
              | refine And.intro (And.intro rfl rfl) ?_
              | refine And.intro (fun h5 => ?_) (fun h5 => ?_)
              | fail) <;> try first | (cases h5; done))
            · have c := of_decide_eq_true (by assumption : decide (f.pos > ((List.map intC ws).length : Int)) = true)
              rw [List.length_map] at c
              exact hbad (decide_eq_false (by omega))
            have c2 := of_decide_eq_false (by assumption : decide (f.pos > ((List.map intC ws).length : Int)) = false)
            rw [List.length_map] at c2
            apply HeldC.intro
            · exact And.intro rfl rfl
            repeat' ((first
              | refine And.intro (And.intro rfl rfl) ?_
              | refine And.intro (fun h5 => ?_) (fun h5 => ?_)
              | fail) <;> try first | (cases h5; done))
            · have c3 : ¬ (0 ≤ f.base ∧ f.base ≤ 4294967295) := by simpa only [Bool.not_eq_true', decide_eq_false_iff_not] using h5
              exact hbad (decide_eq_false fun q => c3 ⟨q.1, q.2.1⟩)
            · have c3 : 0 ≤ f.base ∧ f.base ≤ 4294967295 := by simpa only [Bool.not_eq_false', decide_eq_true_eq] using h5
              refine Exists.intro [] (Exists.intro (m.shadow.length - (k + 1)) (And.intro (by omega) ⟨k + 1, by omega, rfl, hgood (decide_eq_true (by omega)), ?_, rfl⟩))
              rw [wrap_succ hlt (by omega)]
        · have h7 := of_decide_eq_false h7
          have hke : k = m.shadow.length := by omega
          subst hke
          rw [List.take_length] at hcl
          rw [hcl] at hp
          exact hp
  · exact hp.elim
end Go.Proofs.YtbfjkjdbdejnmaaGreat.Ab

/- Managers of impl: made. No condition. -/
namespace Go.Proofs.YtbfjkjdbdejnmaaGreat.Ab
set_option linter.unusedVariables false
set_option linter.unusedSimpArgs false
set_option maxRecDepth 100000

def hCloneSl : CH := fun args hl K => match args, hl with
  | [.imm _ _ 4 l], [] => ∃ bs : List Sl, l = bs.map slC ∧ bs.length ≤ 1048576 ∧ K (.slc 0 0 bs.length false) [.lst 4 (bs.map slC)]
  | _, _ => False
theorem sl_notSl (bs : List Sl) : ∀ e ∈ bs.map slC, ∀ x ∈ e, x.isSl = false := by
  intro e he x hx
  obtain ⟨r, _, rfl⟩ := List.mem_map.1 he
  simp [slC] at hx
  rcases hx with rfl | rfl | rfl | rfl <;> rfl
theorem fr_notSl (bs : List Fr) : ∀ e ∈ bs.map frC, ∀ x ∈ e, x.isSl = false := by
  intro e he x hx
  obtain ⟨r, _, rfl⟩ := List.mem_map.1 he
  simp [frC] at hx
  rcases hx with rfl | rfl | rfl | rfl <;> rfl
def cx_s_CloneSl : Ctx := mkC []
theorem cx_s_CloneSl_ok : CtxOk Tryz.prog cx_s_CloneSl := cx0_ok
set_option maxRecDepth 100000 in
set_option pp.maxSteps 1500 in
theorem s_CloneSl : HSound Tryz.prog 130 (callM [] true hCloneSl) := by
  refine callM_sound cx_s_CloneSl_ok mixed Tryz.func130 rfl fun args hl K hp => ?_
  unfold hCloneSl at hp
  split at hp
  · rename_i t z l
    obtain ⟨bs, rfl, hb, hp⟩ := hp
    refine Or.inl ?_
    refine And.intro (fun h0 => ?_) ?_
    · refine And.intro (fun _ => ?_) (fun h1 => by cases h1)
      refine Or.inr ?_
      have : bs = [] := by simpa using h0
      subst this
      refine And.intro closed_nil ?_
      exact hp
    · refine And.intro (fun h1 => by cases h1) (fun _ => ?_)
      repeat' (first
        | refine And.intro (closed_Slot bs) ?_
        | refine And.intro (sl_notSl bs) ?_
        | refine And.intro rfl ?_
        | refine And.intro (by simp; omega) ?_)
      have e : ([] : List (List AV)).length + (bs.map slC).length = bs.length := by simp
      rw [← e] at hp
      exact hp
  · exact hp.elim
def hCloneFr : CH := fun args hl K => match args, hl with
  | [.imm _ _ 4 l], [] => ∃ bs : List Fr, l = bs.map frC ∧ bs.length ≤ 1048576 ∧ K (.slc 0 0 bs.length false) [.lst 4 (bs.map frC)]
  | _, _ => False
def cx_s_CloneFr : Ctx := mkC []
theorem cx_s_CloneFr_ok : CtxOk Tryz.prog cx_s_CloneFr := cx0_ok
set_option maxRecDepth 100000 in
set_option pp.maxSteps 1500 in
theorem s_CloneFr : HSound Tryz.prog 131 (callM [] true hCloneFr) := by
  refine callM_sound cx_s_CloneFr_ok mixed Tryz.func131 rfl fun args hl K hp => ?_
  unfold hCloneFr at hp
  split at hp
  · rename_i t z l
    obtain ⟨bs, rfl, hb, hp⟩ := hp
    refine Or.inl ?_
    refine And.intro (fun h0 => ?_) ?_
    · refine And.intro (fun _ => ?_) (fun h1 => by cases h1)
      refine Or.inr ?_
      have : bs = [] := by simpa using h0
      subst this
      refine And.intro closed_nil ?_
      exact hp
    · refine And.intro (fun h1 => by cases h1) (fun _ => ?_)
      repeat' (first
        | refine And.intro (closed_Frame bs) ?_
        | refine And.intro (fr_notSl bs) ?_
        | refine And.intro rfl ?_
        | refine And.intro (by simp; omega) ?_)
      have e : ([] : List (List AV)).length + (bs.map frC).length = bs.length := by simp
      rw [← e] at hp
      exact hp
  · exact hp.elim
theorem fitsB_iff {ms : List Mo} {l : La} : fitsB ms l = true ↔ RealP ms l ∧ FitP ms l := by
  unfold fitsB
  simp
structure MadeP (m : Mc) : Prop where
  link : linkC m.mods m.cfg = 0
  fit : fitsB m.mods (layM m) = true
  mem : memOk m.f.length m.r.length m.o.length = true
  core : coreOk m.pc m.regs = true
def hMgr : CH := fun args hl K => match args, hl with
  | [a], [] => ∃ m : Mc, McV a m ∧ smMc m ∧ ByMc m ∧ (¬ MadeP m → K (.tup [.v (.pointer none), .v (.bool false)]) []) ∧
      (MadeP m → ∀ b z r0 r1 r2 r3 r4 r5 r6 r7, m.regs = [r0, r1, r2, r3, r4, r5, r6, r7] → K (.tup [.ptr 0 0 0 56, .v (.bool (mrestB m (layM m)))]) [.box (mgC m (layM m) b z r0 r1 r2 r3 r4 r5 r6 r7)])
  | _, _ => False
def cx_s_managerOf : Ctx := mkCut [(102, callM [] true hLink), (44, callM [] true hFitsI), (127, callM [] true hMemOk), (128, callM [] true hCoreOf), (129, callM [] true hToM), (130, callM [] true hCloneSl), (131, callM [] true hCloneFr), (132, iOperations), (133, callM [] true hMok)]
theorem cx_s_managerOf_ok : CtxOk Tryz.prog cx_s_managerOf := mkCut_ok (mem1 ⟨s_impl_Link, fnOk Tryz.func102 rfl rfl⟩ (mem1 ⟨s_fits, fnOk Tryz.func44 rfl rfl⟩ (mem1 ⟨s_impl_MemOk, fnOk Tryz.func127 rfl rfl⟩ (mem1 ⟨s_coreOf, fnOk Tryz.func128 rfl rfl⟩ (mem1 ⟨s_clone, fnOk Tryz.func129 rfl rfl⟩ (mem1 ⟨s_CloneSl, fnOk Tryz.func130 rfl rfl⟩ (mem1 ⟨s_CloneFr, fnOk Tryz.func131 rfl rfl⟩ (mem1 ⟨s_iOperations, fnOk Tryz.func132 rfl rfl⟩ (mem1 ⟨s_mok, fnOk Tryz.func133 rfl rfl⟩ mem0)))))))))
set_option maxRecDepth 100000 in
set_option pp.maxSteps 1500 in
set_option maxHeartbeats 64000000 in
theorem s_managerOf : HSound Tryz.prog 77 (callM [] false hMgr) := by
  refine callM_sound cx_s_managerOf_ok mixed Tryz.func77 rfl fun args hl K hp => ?_
  unfold hMgr at hp
  split at hp
  · rename_i a
    obtain ⟨m, ⟨b1, z1, b2, z2, b3, z3, b4, z4, b5, z5, b6, z6, b7, z7, rfl⟩, hsm, hby, hp1, hp2⟩ := hp
    have hbl : smLa (layM m) := sm_link m.mods m.cfg
    have hmo := hsm.mo
    have hln := hsm.mods
    have hrg := hsm.regs
    have hkM := lkM_of (m := m)
    have hrl := real_link (ms := m.mods) (c := m.cfg)
    have hgv := gives_link (ms := m.mods) (c := m.cfg)
    have hif : linkC m.mods m.cfg = 0 → layM m = laF m.mods m.cfg := fun h => if_pos h
    have hLL : linkL m.mods ⟨m.cfg.slots, m.cfg.words, m.cfg.stack, m.cfg.depth⟩ = layM m := rfl
    have hMP := MadeP.mk (m := m)
    have hMN : MadeP m → linkC m.mods m.cfg = 0 ∧ fitsB m.mods (layM m) = true ∧ memOk m.f.length m.r.length m.o.length = true ∧ coreOk m.pc m.regs = true := fun h => ⟨h.link, h.fit, h.mem, h.core⟩
    refine Exists.intro m.mods (And.intro rfl (And.intro hln (And.intro hmo ?_)))
    rw [hLL, show linkC m.mods ⟨m.cfg.slots, m.cfg.words, m.cfg.stack, m.cfg.depth⟩ = linkC m.mods m.cfg from rfl]
    generalize MadeP m = MP at *
    generalize layM m = l at *
    generalize linkC m.mods m.cfg = n at *
    clear hLL
    refine Or.inl ?_
    by_cases h0 : n = 0
    rotate_left
    · have hne : (n != 0) = true := by simpa using h0
      refine And.intro (fun h1 => ?_) (fun h1 => by rw [hne] at h1; cases h1)
      repeat' ((first
        | refine And.intro (fun h5 => ?_) (fun h5 => ?_)
        | fail) <;> try first | (cases h5; done))
      exact hp1 fun h => h0 (hMN h).1
    have hne : (n != 0) = false := by simpa using h0
    refine And.intro (fun h1 => by rw [hne] at h1; cases h1) (fun h1 => ?_)
    have hkM := hkM h0
    have hrl := hrl h0
    have hgv := hgv h0
    rw [← hif h0] at hrl hgv
    have hlk := lk_of hgv
    have hlim := lim_of hgv
    repeat' ((first
      | refine And.intro (fun h5 => ?_) (fun h5 => ?_)
      | refine Exists.intro _ (And.intro (lendD _ _) (And.intro (List.length_map _) ?_))
      | refine And.intro (closed_Place _) ?_
      | refine And.intro (closed_Int _) ?_
      | refine And.intro (closed_TargetS _) ?_
      | (refine Exists.intro m.mods ?_; refine Exists.intro l (And.intro rfl (And.intro hmo (And.intro ⟨_, _, _, _, _, _, rfl⟩ (And.intro hlk (And.intro (fun hf => ?_) (fun hf => ?_)))))))
      | fail) <;> try first | (cases h5; done))
    · have e : memOk m.f.length m.r.length m.o.length = false := by simpa using (by assumption : (!memOk (List.map byteC m.f).length (List.map byteC m.r).length (List.map byteC m.o).length) = true)
      exact hp1 fun h => by rw [(hMN h).2.2.1] at e; cases e
    rotate_left
    · exact hp1 fun h => hf ((fitsB_iff.1 (hMN h).2.1).2)
    have e3 : memOk m.f.length m.r.length m.o.length = true := by simpa using (by assumption : (!memOk (List.map byteC m.f).length (List.map byteC m.r).length (List.map byteC m.o).length) = false)
    have e1 : fitsB m.mods l = true := fitsB_t hrl hf
    refine Exists.intro m.regs (And.intro rfl (And.intro hrg (And.intro (fun hk => ?_) (fun hk q0 q1 q2 q3 q4 q5 q6 q7 hr => ?_))))
    · first | refine Or.inl ?_ | skip
      refine And.intro (fun h5 => ?_) (fun h5 => ?_)
      · exact hp1 fun h => by rw [(hMN h).2.2.2] at hk; cases hk
      · cases h5
    first | refine Or.inl ?_ | skip
    refine And.intro (fun h5 => ?_) (fun h5 => ?_)
    · cases h5
    have hp2 := hp2 (hMP h0 e1 e3 hk) b1 z1 q0 q1 q2 q3 q4 q5 q6 q7 hr
    clear hp1 hMP hMN
    refine Or.inr (Exists.intro true (Exists.intro [8] (Exists.intro (fun vs h => vs = [.ptr 0 0 0 56] ∧ h = [.box (mgC m l b1 z1 q0 q1 q2 q3 q4 q5 q6 q7)]) (And.intro ?_ ?_))))
    · refine Or.inl ?_
      refine And.intro (show wfB _ = true from by kernel_rfl) ?_
      repeat' (first
        | (refine Exists.intro m.f ?_; refine Exists.intro m.r ?_; refine Exists.intro m.o ?_; refine And.intro rfl (And.intro rfl (And.intro rfl (And.intro hsm.f (And.intro hsm.r (And.intro hsm.o ?_))))); exact And.intro rfl rfl)
        | (refine Exists.intro m.slots ?_; refine And.intro rfl (And.intro hsm.slots ?_); exact And.intro rfl rfl)
        | (refine Exists.intro m.shadow ?_; refine And.intro rfl (And.intro hsm.shadow ?_); exact And.intro rfl rfl)
        | refine And.intro (show wfB _ = true from by kernel_rfl) ?_ | refine And.intro (And.intro rfl rfl) ?_ | exact And.intro rfl rfl | apply HeldC.intro | exact AV.top | (apply HeldF.intro; refine Exists.intro _ (And.intro (by assumption) ?_); refine And.intro (by decide) ?_; exact And.intro rfl rfl) | (refine And.intro (by (refine Exists.intro _ (And.intro (by assumption) ?_); refine And.intro (by decide) ?_; exact And.intro rfl rfl)) ?_) | refine Or.inl ?_
        | refine And.intro ?_ ?_
        | fail)
      all_goals refine Exists.intro [] ?_
      all_goals repeat' (first
        | refine Exists.intro _ (And.intro (lendL _ _) (And.intro (List.length_map _) (And.intro (closed_Place _) ?_)))
        | refine Exists.intro _ (And.intro (lendL _ _) (And.intro (List.length_map _) (And.intro (closed_Int _) ?_)))
        | refine Exists.intro _ (And.intro (lendL _ _) (And.intro (List.length_map _) (And.intro (closed_TargetS _) ?_)))
        | refine Exists.intro _ (And.intro (lendL _ _) (And.intro (List.length_map _) (And.intro (closed_bytes _) ?_)))
        | refine Exists.intro _ (And.intro (lendL _ _) (And.intro (List.length_map _) (And.intro (closed_Slot _) ?_)))
        | refine Exists.intro _ (And.intro (lendL _ _) (And.intro (List.length_map _) (And.intro (closed_Frame _) ?_)))
        | fail)
      all_goals exact And.intro rfl rfl
    rintro vs h ⟨rfl, rfl⟩
    refine Exists.intro m ?_
    refine Exists.intro l (And.intro ⟨_, _, _, _, _, _, _, _, _, _, rfl⟩ (And.intro hsm (And.intro hkM (And.intro hlim (And.intro hby.data ?_)))))
    exact hp2
  · exact hp.elim
end Go.Proofs.YtbfjkjdbdejnmaaGreat.Ab

/- impl.MachineOk. No condition. -/
namespace Go.Proofs.YtbfjkjdbdejnmaaGreat.Ab
set_option linter.unusedVariables false
set_option linter.unusedSimpArgs false
set_option maxRecDepth 100000

theorem mcOk_no {m : Mc} (h : ¬ MadeP m) : mcOk m = false := by
  rw [Bool.eq_false_iff]
  intro hk
  simp only [mcOk, Bool.and_eq_true, decide_eq_true_eq] at hk
  obtain ⟨⟨⟨⟨⟨⟨⟨⟨⟨k1, k2⟩, k3⟩, k4⟩, _⟩, _⟩, _⟩, _⟩, _⟩, _⟩ := hk
  exact h ⟨k1, k2, k4, k3⟩
theorem mcOk_yes {m : Mc} (h : MadeP m) : mcOk m = mrestB m (layM m) := by
  obtain ⟨k1, k2, k4, k3⟩ := h
  simp only [mcOk, mrestB, k1, k2, k3, k4, decide_true, Bool.true_and, Bool.and_assoc]
def cx_s_MachineOkI : Ctx := mkC [(77, callM [] false hMgr)]
theorem cx_s_MachineOkI_ok : CtxOk Tryz.prog cx_s_MachineOkI := mkC_ok (mem1 ⟨s_managerOf, fnOk Tryz.func77 rfl rfl⟩ mem0)
set_option maxRecDepth 100000 in
set_option pp.maxSteps 1500 in
set_option maxHeartbeats 8000000 in
theorem s_MachineOkI : HSound Tryz.prog 31 (callM [] true hMcOk) := by
  refine callM_sound cx_s_MachineOkI_ok mixed Tryz.func31 rfl fun args hl K hp => ?_
  unfold hMcOk at hp
  split at hp
  · rename_i a
    obtain ⟨m, ⟨b1, z1, b2, z2, b3, z3, b4, z4, b5, z5, b6, z6, b7, z7, rfl⟩, hsm, hby, hp⟩ := hp
    refine Exists.intro m (And.intro ⟨_, _, _, _, _, _, _, _, _, _, _, _, _, _, rfl⟩ (And.intro hsm (And.intro hby (And.intro (fun hn => ?_) (fun hM b z r0 r1 r2 r3 r4 r5 r6 r7 hr => ?_)))))
    · rw [mcOk_no hn] at hp
      exact hp
    · rw [mcOk_yes hM] at hp
      exact hp
  · exact hp.elim
end Go.Proofs.YtbfjkjdbdejnmaaGreat.Ab

/- MachineOk: the law. No condition. -/
namespace Go.Proofs.YtbfjkjdbdejnmaaGreat.Ab
set_option linter.unusedVariables false
set_option linter.unusedSimpArgs false
set_option maxRecDepth 100000

theorem lendT8 (l : List (List AV)) : List.take l.length (List.drop 0 l) = l := by rw [List.drop_zero, List.take_length]
def cx6 : Ctx := mkCut [(28, callM [] true hSzMc), (30, callM [] true hToMc), (29, callM [] true hMcOk), (31, callM [] true hMcOk), (32, callM [] true hEqMc)]
theorem cx6_ok : CtxOk Tryz.prog cx6 := mkCut_ok (mem1 ⟨s_szMachine, fnOk Tryz.func28 rfl rfl⟩ (mem1 ⟨s_toMachine, fnOk Tryz.func30 rfl rfl⟩ (mem1 ⟨s_MachineOkS, fnOk Tryz.func29 rfl rfl⟩ (mem1 ⟨s_MachineOkI, fnOk Tryz.func31 rfl rfl⟩ (mem1 ⟨s_eqMachine, fnOk Tryz.func32 rfl rfl⟩ mem0)))))
set_option maxRecDepth 100000 in
set_option maxHeartbeats 64000000 in
set_option pp.maxSteps 1500 in
theorem s6 (xs : List AV) (hx : ArgsOf Tryz.prog 7 [68] xs) : inlH cx6 Tryz.f6.ntmps Tryz.f6.results.toList (Tryz.f6.body.getD .skip) xs [] fun x _ => x = .v (.bool true) := by
  obtain ⟨x, _, l1, rfl, hs, ha, rfl⟩ := hx
  obtain ⟨m, ⟨b1, z1, b2, z2, b3, z3, b4, z4, b5, z5, b6, z6, b7, z7, rfl⟩, hok⟩ := arg_mc hs ha
  refine Exists.intro m (And.intro ⟨_, _, _, _, _, _, _, _, _, _, _, _, _, _, rfl⟩ (And.intro hok.big (And.intro (by decide) (And.intro (by decide) ?_))))
  refine Or.inl ?_
  refine And.intro (fun h1 => rfl) (fun h1 => ?_)
  have h1 := of_decide_eq_false h1
  have q0 := szB_ge (by decide) h1
  clear h1
  have hsm : smMc m := smMc_of (by omega)
  clear q0
  have hby : ByMc m := ⟨fun b hb => (hok.mods b hb).data, hok.f, hok.r⟩
  generalize hF : mcOk m = fb at *
  repeat' ((first
    | refine Exists.intro _ (And.intro (lendD _ _) (And.intro (List.length_map _) ?_))
    | refine Exists.intro _ (And.intro (lendT8 _) (And.intro rfl ?_))
    | refine And.intro (closed_Module _) ?_
    | refine And.intro (closed_Int _) ?_
    | refine And.intro (closed_bytes _) ?_
    | refine And.intro (closed_Slot _) ?_
    | refine And.intro (closed_Frame _) ?_
    | (refine Exists.intro m (And.intro ⟨_, _, _, _, _, _, _, _, _, _, _, _, _, _, rfl⟩ (And.intro hsm (And.intro hby ?_))); rw [hF])
    | refine Exists.intro m (And.intro ⟨_, _, _, _, _, _, _, _, _, _, _, _, _, _, rfl⟩ (And.intro hsm ?_))
    | fail) <;> try first | (cases h1; done) | (exfalso; simp at h1; done))
  refine Or.inl ?_
  refine And.intro (fun h1 => ?_) (fun h1 => ?_)
  · exfalso
    simp at h1
  refine Or.inl ?_
  refine Or.inl ?_
  refine Or.inl ?_
  refine And.intro (show wfB _ = true from by kernel_rfl) ?_
  repeat' ((first
    | refine Exists.intro _ (And.intro (lendD _ _) (And.intro (List.length_map _) ?_))
    | refine Exists.intro _ (And.intro (lendT8 _) (And.intro rfl ?_))
    | refine And.intro (closed_Module _) ?_
    | refine And.intro (closed_Int _) ?_
    | refine And.intro (closed_bytes _) ?_
    | refine And.intro (closed_Slot _) ?_
    | refine And.intro (closed_Frame _) ?_
    | (refine Exists.intro m ?_; refine And.intro ⟨_, _, _, _, _, _, _, _, _, _, _, _, _, _, rfl⟩ ?_; refine And.intro hsm ?_; exact And.intro rfl rfl)
    | (refine Exists.intro m ?_; refine And.intro ⟨_, _, _, _, _, _, _, _, _, _, _, _, _, _, rfl⟩ ?_; refine And.intro ⟨_, _, _, _, _, _, _, _, _, _, _, _, _, _, rfl⟩ ?_; refine And.intro hsm ?_; exact And.intro rfl rfl)
    | refine And.intro (show wfB _ = true from by kernel_rfl) ?_ | refine And.intro (And.intro rfl rfl) ?_ | exact And.intro rfl rfl | apply HeldC.intro | exact AV.top | (apply HeldF.intro; refine Exists.intro _ (And.intro (by assumption) ?_); refine And.intro (by decide) ?_; exact And.intro rfl rfl) | (refine And.intro (by (refine Exists.intro _ (And.intro (by assumption) ?_); refine And.intro (by decide) ?_; exact And.intro rfl rfl)) ?_) | refine Or.inl ?_
    | refine And.intro (fun h1 => ?_) (fun h1 => ?_)
    | refine And.intro ?_ ?_
    | fail) <;> try first | (cases h1; done) | (exfalso; simp at h1; done))
  all_goals exact rfl
end Go.Proofs.YtbfjkjdbdejnmaaGreat.Ab
