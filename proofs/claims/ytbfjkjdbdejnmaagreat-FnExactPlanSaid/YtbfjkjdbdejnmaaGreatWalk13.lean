/- Functions walked, part 13. No condition. -/
import Derived.Test.YtbfjkjdbdejnmaaGreatWalk12
import Derived.Test.YtbfjkjdbdejnmaaGreatWalk9
import Derived.Test.YtbfjkjdbdejnmaaGreatWalk10
set_option linter.unusedVariables false
set_option linter.unusedSimpArgs false
/- Plans of the reference: whether all fit. No condition. -/
namespace Go.Proofs.YtbfjkjdbdejnmaaGreat.Ab
set_option linter.unusedVariables false
set_option linter.unusedSimpArgs false
set_option maxRecDepth 100000

def hFits : CH := fun args hl K => match args, hl with
  | [.imm _ _ 8 L, a], [] => ∃ (ms : List Mo) (l : La), L = ms.map moC ∧ ms.length ≤ 1048576 ∧ (∀ m ∈ ms, smMo m) ∧ LaV a l ∧ smLa l ∧ K (.v (.bool (fitsB ms l))) []
  | _, _ => False
theorem plan_pre {ms : List Mo} {l : La} {i : Nat} {m : Mo} {p : Pl} (hk : Lk ms l) (hm : ms[i]? = some m) (hp : l.pls[i]? = some p) {b s : Int} (hb : -1 ≤ b ∧ b < m.banks.length) (hs : slotB l b s = true) :
    ∃ ws, pieceOf m b = some ws ∧ ws.length ≤ 200 ∧ (b = -1 ∨ (0 ≤ b ∧ (s < 0 → b < p.banks.length) ∧ s < l.slots.length)) ∧ I64 p.data ∧ I64 p.size ∧ I64 l.stack ∧ I64 (originF l p b s) := by
  obtain ⟨kb, kt, kd, ks, kbi⟩ := hk.bk i p m hp hm
  have hps : (pieceOf m b).isSome = true := by rw [piece_some, decide_eq_true_eq]; omega
  obtain ⟨ws, hws⟩ := Option.isSome_iff_exists.1 hps
  have hso : s = -1 ∨ (0 ≤ s ∧ s < l.slots.length) := by
    by_cases h : b = -1 ∨ l.slots.length = 0
    · rw [slotB_one h] at hs
      exact .inl hs
    · rw [slotB_many h] at hs
      exact .inr hs
  refine ⟨ws, hws, piece_len (hk.mo m (List.mem_of_getElem? hm)) hws, ?_, kd, ks, hk.stack, ?_⟩
  · by_cases h1 : b = -1
    · exact .inl h1
    · refine .inr ⟨by omega, fun _ => by omega, ?_⟩
      omega
  · unfold originF
    split
    · exact kt
    · rename_i h1
      split
      · rename_i h2
        obtain ⟨B, rfl⟩ := Int.eq_ofNat_of_zero_le (show 0 ≤ b by omega)
        obtain ⟨x, hx⟩ : ∃ x, p.banks[B]? = some x := ⟨_, List.getElem?_eq_getElem (by omega)⟩
        rw [Int.toNat_natCast, List.getD_eq_getElem?_getD, hx]
        exact kbi x (List.mem_of_getElem? hx)
      · rename_i h2
        obtain ⟨S, rfl⟩ := Int.eq_ofNat_of_zero_le (show 0 ≤ s by omega)
        obtain ⟨x, hx⟩ : ∃ x, l.slots[S]? = some x := ⟨_, List.getElem?_eq_getElem (by omega)⟩
        rw [Int.toNat_natCast, List.getD_eq_getElem?_getD, hx]
        exact hk.sl x (List.mem_of_getElem? hx)
def cx_s_FitsS : Ctx := mkC [(37, callM [] true hReal), (38, callM [] true hPlanS)]
theorem cx_s_FitsS_ok : CtxOk Tryz.prog cx_s_FitsS := mkC_ok (mem1 ⟨s_l5Real, fnOk Tryz.func37 rfl rfl⟩ (mem1 ⟨s_l6Plan, fnOk Tryz.func38 rfl rfl⟩ mem0))
set_option maxRecDepth 100000 in
set_option pp.maxSteps 1500 in
set_option maxHeartbeats 16000000 in
theorem s_FitsS : HSound Tryz.prog 9 (callM [] true hFits) := by
  refine callM_sound cx_s_FitsS_ok mixed Tryz.func9 rfl fun args hl K hp => ?_
  unfold hFits at hp
  split at hp
  · rename_i t z L a
    obtain ⟨ms, l, rfl, hlen, hsm, ⟨b1, z1, b2, z2, b3, z3, rfl⟩, hb, hp⟩ := hp
    refine Exists.intro ms (Exists.intro l (And.intro rfl (And.intro hlen (And.intro hsm (And.intro ⟨_, _, _, _, _, _, rfl⟩ (And.intro hb (And.intro (fun hr => ?_) (fun hr => ?_))))))))
    rotate_left
    · rw [fitsB_f (fun h => hr h.1)] at hp
      refine And.intro (fun h1 => ?_) (fun h1 => ?_)
      · exact hp
      · cases h1
    refine And.intro (fun h1 => ?_) (fun h1 => ?_)
    · cases h1
    have hk : Lk ms l := lk_of hr
    have hp1 : FitP ms l → K (.v (.bool true)) [] := fun h => by rw [fitsB_t hr h] at hp; exact hp
    have hp2 : ¬ FitP ms l → K (.v (.bool false)) [] := fun h => by rw [fitsB_f (fun h' => h h'.2)] at hp; exact hp
    clear hp
    refine Exists.intro true (Exists.intro [0, 3, 5] (Exists.intro (fun n vs h => ∃ i : Nat, i ≤ ms.length ∧ n = ms.length - i ∧ FitN ms l i ∧ vs = [.imm t z 8 (ms.map moC), .ptr 0 0 0 6, .v (.int .i64 i)] ∧ h = [.box (laI l b1 z1 b2 z2 b3 z3)]) (And.intro ?_ ?_)))
    · refine Exists.intro [] ?_
      exact Exists.intro ms.length ⟨0, by omega, rfl, fit_zero _ _, rfl, rfl⟩
    intro n vs h hI
    obtain ⟨i, hi, rfl, hfn, rfl, rfl⟩ := hI
    refine And.intro (fun h1 => ?_) (fun h1 => ?_)
    · have h1 := of_decide_eq_true h1
      rw [List.length_map] at h1
      have hlt : i < ms.length := by omega
      obtain ⟨m, hm⟩ : ∃ m, ms[i]? = some m := ⟨_, List.getElem?_eq_getElem hlt⟩
      obtain ⟨p, hpl⟩ : ∃ p, l.pls[i]? = some p := ⟨_, List.getElem?_eq_getElem (by rw [hk.pls]; omega)⟩
      have hmm := hsm m (List.mem_of_getElem? hm)
      have hbl := (hk.mo m (List.mem_of_getElem? hm)).bl
      have hsl := hk.slots
      obtain ⟨ws, hws, hwl, hbs, id, iz, ist, io⟩ := plan_pre hk hm hpl (b := -1) (s := -1) (by omega) ((slotB_one (Or.inl rfl)).2 rfl)
      refine Exists.intro ms (Exists.intro l (Exists.intro p (Exists.intro m (Exists.intro ws (Exists.intro i (And.intro rfl (And.intro ⟨_, _, _, _, _, _, rfl⟩ (And.intro hmm (And.intro rfl (And.intro hpl (And.intro hm (And.intro hws (And.intro hwl (And.intro hbs (And.intro id (And.intro iz (And.intro ist (And.intro io ?_))))))))))))))))))
      clear hws hwl hbs id iz ist io
      refine And.intro (fun h2 => ?_) (fun h2 => ?_)
      · have h2 := of_decide_eq_true h2
        exact hp2 (fit_bad hm hpl (fitM_bad (b := -1) (s := -1) (by omega) (by omega) ((slotB_one (Or.inl rfl)).2 rfl) (by omega)))
      have h2 := of_decide_eq_false h2
      have hf0 : FitM l p m ((0 : Nat) : Int) := fitM_succ (fitM_start l p m) (fitS_one (Or.inl rfl) (by omega))
      refine Exists.intro true (Exists.intro [0, 3, 5, 6] (Exists.intro (fun n vs h => ∃ k : Nat, k ≤ m.banks.length ∧ n = m.banks.length - k ∧ FitM l p m (k : Int) ∧ vs = [.imm t z 8 (ms.map moC), .ptr 0 0 0 6, .v (.int .i64 i), .v (.int .i64 k)] ∧ h = [.box (laI l b1 z1 b2 z2 b3 z3)]) (And.intro ?_ ?_)))
      · refine Exists.intro [] ?_
        exact Exists.intro m.banks.length ⟨0, by omega, rfl, hf0, rfl, rfl⟩
      intro n vs h hI
      obtain ⟨k, hk1, rfl, hfm, rfl, rfl⟩ := hI
      refine Exists.intro i (And.intro rfl (Exists.intro (moC m) (And.intro (get_map hm) ?_)))
      refine And.intro (fun h3 => ?_) (fun h3 => ?_)
      · have h3 := of_decide_eq_true h3
        rw [List.length_map] at h3
        have hbk : -1 ≤ (k : Int) ∧ (k : Int) < m.banks.length := by omega
        have hnb : ∀ s, slotB l (k : Int) s = true → ¬ (planL l p m (k : Int) s).length ≤ 8 → ¬ FitP ms l := fun s hs h8 => fit_bad hm hpl (fitM_bad hbk.1 hbk.2 hs h8)
        have e0 : (l.slots.map intC).length = l.slots.length := List.length_map _
        have hk1' : (k : Int) ≠ -1 := by omega
        refine And.intro (fun h4 => ?_) (fun h4 => ?_)
        · have h4 : l.slots.length = 0 := by have := eq_of_beq h4; rw [e0] at this; omega
          have hone : ((k : Int) = -1 ∨ l.slots.length = 0) := Or.inr h4
          have hsb : slotB l (k : Int) (-1) = true := (slotB_one hone).2 rfl
          obtain ⟨ws, hws, hwl, hbs, id, iz, ist, io⟩ := plan_pre hk hm hpl hbk hsb
          refine Exists.intro ms (Exists.intro l (Exists.intro p (Exists.intro m (Exists.intro ws (Exists.intro i (And.intro rfl (And.intro ⟨_, _, _, _, _, _, rfl⟩ (And.intro hmm (And.intro rfl (And.intro hpl (And.intro hm (And.intro hws (And.intro hwl (And.intro hbs (And.intro id (And.intro iz (And.intro ist (And.intro io ?_))))))))))))))))))
          clear hws hwl hbs id iz ist io
          repeat' ((first
            | refine And.intro (fun h5 => ?_) (fun h5 => ?_)
            | fail) <;> try first | (cases h5; done))
          · have h5 := of_decide_eq_true h5
            exact hp2 (hnb _ hsb (by omega))
          have h5 := of_decide_eq_false h5
          refine Exists.intro true (Exists.intro [0, 3, 5, 6, 7, 8] (Exists.intro (fun n vs h => ∃ q : Nat, q ≤ l.slots.length ∧ n = l.slots.length - q ∧ (planL l p m (k : Int) (-1)).length ≤ 8 ∧ vs = [.imm t z 8 (ms.map moC), .ptr 0 0 0 6, .v (.int .i64 i), .v (.int .i64 k), .ptr 1 0 0 3, .v (.int .i64 q)] ∧ h = [.box (laI l b1 z1 b2 z2 b3 z3), .box [.v (.int .i64 i), .v (.int .i64 k), .v (.int .i64 0)]]) (And.intro ?_ ?_)))
          · refine Exists.intro [] ?_
            exact Exists.intro l.slots.length ⟨0, by omega, rfl, by omega, rfl, rfl⟩
          intro n vs h hI
          obtain ⟨q, hq1, rfl, hfs, rfl, rfl⟩ := hI
          refine And.intro (fun h7 => ?_) (fun h7 => ?_)
          · have h7 := of_decide_eq_true h7
            rw [e0] at h7
            exfalso
            omega
          · have h7 := of_decide_eq_false h7
            rw [e0] at h7
            have hqe : q = l.slots.length := by omega
            subst hqe
            have hfm2 := fitM_succ hfm (fitS_one hone hfs)
            rw [show (k : Int) + 1 = ((k + 1 : Nat) : Int) by omega] at hfm2
            refine Exists.intro [] (Exists.intro (m.banks.length - (k + 1)) (And.intro (by omega) ⟨k + 1, by omega, rfl, hfm2, ?_, rfl⟩))
            rw [show IntKind.i64.wrap ((k : Int) + 1) = ((k + 1 : Nat) : Int) by rw [wrap64 (by omega)]; omega]
        · have h4 : ¬ l.slots.length = 0 := by have := ne_of_beq_false h4; rw [e0] at this; omega
          have hmany : ¬ ((k : Int) = -1 ∨ l.slots.length = 0) := by omega
          repeat' ((first
            | refine And.intro (fun h5 => ?_) (fun h5 => ?_)
            | fail) <;> try first | (cases h5; done))
          refine Exists.intro true (Exists.intro [0, 3, 5, 6, 7, 8] (Exists.intro (fun n vs h => ∃ q : Nat, q ≤ l.slots.length ∧ n = l.slots.length - q ∧ FitS l p m (k : Int) (q : Int) ∧ vs = [.imm t z 8 (ms.map moC), .ptr 0 0 0 6, .v (.int .i64 i), .v (.int .i64 k), .ptr 1 0 0 3, .v (.int .i64 q)] ∧ h = [.box (laI l b1 z1 b2 z2 b3 z3), .box [.v (.int .i64 i), .v (.int .i64 k), .v (.int .i64 0)]]) (And.intro ?_ ?_)))
          · refine Exists.intro [] ?_
            exact Exists.intro l.slots.length ⟨0, by omega, rfl, fitS_start hmany, rfl, rfl⟩
          intro n vs h hI
          obtain ⟨q, hq1, rfl, hfs, rfl, rfl⟩ := hI
          refine And.intro (fun h7 => ?_) (fun h7 => ?_)
          · have h7 := of_decide_eq_true h7
            rw [e0] at h7
            have hsb : slotB l (k : Int) (q : Int) = true := (slotB_many hmany).2 (by omega)
            obtain ⟨ws, hws, hwl, hbs, id, iz, ist, io⟩ := plan_pre hk hm hpl hbk hsb
            refine Exists.intro ms (Exists.intro l (Exists.intro p (Exists.intro m (Exists.intro ws (Exists.intro i (And.intro rfl (And.intro ⟨_, _, _, _, _, _, rfl⟩ (And.intro hmm (And.intro rfl (And.intro hpl (And.intro hm (And.intro hws (And.intro hwl (And.intro hbs (And.intro id (And.intro iz (And.intro ist (And.intro io ?_))))))))))))))))))
            clear hws hwl hbs id iz ist io
            refine And.intro (fun h8 => ?_) (fun h8 => ?_)
            · have h8 := of_decide_eq_true h8
              exact hp2 (hnb _ hsb (by omega))
            have h8 := of_decide_eq_false h8
            refine Exists.intro [] ?_
            refine Exists.intro (l.slots.length - (q + 1)) (And.intro (by omega) ⟨q + 1, by omega, rfl, fitS_succ hfs (by omega), ?_, rfl⟩)
            rw [show IntKind.i64.wrap ((q : Int) + 1) = ((q + 1 : Nat) : Int) by rw [wrap64 (by omega)]; omega]
          · have h7 := of_decide_eq_false h7
            rw [e0] at h7
            have hqe : q = l.slots.length := by omega
            subst hqe
            have hfm2 := fitM_succ hfm (fitS_all hmany hfs)
            rw [show (k : Int) + 1 = ((k + 1 : Nat) : Int) by omega] at hfm2
            refine Exists.intro [] (Exists.intro (m.banks.length - (k + 1)) (And.intro (by omega) ⟨k + 1, by omega, rfl, hfm2, ?_, rfl⟩))
            rw [show IntKind.i64.wrap ((k : Int) + 1) = ((k + 1 : Nat) : Int) by rw [wrap64 (by omega)]; omega]
      · have h3 := of_decide_eq_false h3
        rw [List.length_map] at h3
        have hke : k = m.banks.length := by omega
        subst hke
        refine Exists.intro [] (Exists.intro (ms.length - (i + 1)) (And.intro (by omega) ⟨i + 1, by omega, rfl, fit_succ hfn hm hpl hfm, ?_, rfl⟩))
        rw [wrap_succ hlt (by omega)]
    · have h1 := of_decide_eq_false h1
      rw [List.length_map] at h1
      have hie : i = ms.length := by omega
      subst hie
      exact hp1 hfn
  · exact hp.elim
end Go.Proofs.YtbfjkjdbdejnmaaGreat.Ab

/- Plans of impl: whether all fit. No condition. -/
namespace Go.Proofs.YtbfjkjdbdejnmaaGreat.Ab
set_option linter.unusedVariables false
set_option linter.unusedSimpArgs false
set_option maxRecDepth 100000

def hFitsI : CH := fun args hl K => match args, hl with
  | [.imm _ _ 8 L, a], [] => ∃ (ms : List Mo) (l : La), L = ms.map moC ∧ (∀ m ∈ ms, smMo m) ∧ LaV a l ∧ Lk ms l ∧ (FitP ms l → K (.v (.bool true)) []) ∧ (¬ FitP ms l → K (.v (.bool false)) [])
  | _, _ => False
theorem planF_y {ms : List Mo} {l : La} {I : Nat} {b s : Int} {m : Mo} {p : Pl} {rs : List Rg} (hm : ms[I]? = some m) (hp : l.pls[I]? = some p) (h : planF ms l I b s = some rs) : (planL l p m b s).length ≤ 8 := by
  rw [planF_at hm hp] at h
  split at h
  · rename_i q
    simp only [Bool.and_eq_true, decide_eq_true_eq] at q
    exact q.2
  · cases h
theorem planF_n {ms : List Mo} {l : La} {I : Nat} {b s : Int} {m : Mo} {p : Pl} (hm : ms[I]? = some m) (hp : l.pls[I]? = some p) (hb : -1 ≤ b ∧ b < m.banks.length) (hs : slotB l b s = true) (h : planF ms l I b s = none) : ¬ (planL l p m b s).length ≤ 8 := by
  rw [planF_at hm hp] at h
  split at h
  · cases h
  · rename_i q
    intro h8
    apply q
    rw [piece_some, hs]
    simp [h8, hb]
def cx_s_fits : Ctx := mkC [(65, callM [] true hPlanI)]
theorem cx_s_fits_ok : CtxOk Tryz.prog cx_s_fits := mkC_ok (mem1 ⟨s_plan, fnOk Tryz.func65 rfl rfl⟩ mem0)
set_option maxRecDepth 100000 in
set_option pp.maxSteps 1500 in
set_option maxHeartbeats 16000000 in
theorem s_fits : HSound Tryz.prog 44 (callM [] true hFitsI) := by
  refine callM_sound cx_s_fits_ok mixed Tryz.func44 rfl fun args hl K hp => ?_
  unfold hFitsI at hp
  split at hp
  · rename_i t z L a
    obtain ⟨ms, l, rfl, hsm, ⟨b1, z1, b2, z2, b3, z3, rfl⟩, hk, hp1, hp2⟩ := hp
    refine Exists.intro true (Exists.intro [0, 3, 13, 14] (Exists.intro (fun n vs h => ∃ i : Nat, i ≤ ms.length ∧ n = ms.length - i ∧ FitN ms l i ∧ vs = [.imm t z 8 (ms.map moC), .ptr 0 0 0 6, .v (.int .i64 ms.length), .v (.int .i64 i)] ∧ h = [.box (laI l b1 z1 b2 z2 b3 z3)]) (And.intro ?_ ?_)))
    · refine Exists.intro [] ?_
      refine Exists.intro ms.length ⟨0, by omega, rfl, fit_zero _ _, ?_, rfl⟩
      rw [List.length_map]
      rfl
    intro n vs h hI
    obtain ⟨i, hi, rfl, hfn, rfl, rfl⟩ := hI
    refine And.intro (fun h1 => ?_) (fun h1 => ?_)
    · have h1 := of_decide_eq_true h1
      have hlt : i < ms.length := by omega
      obtain ⟨m, hm⟩ : ∃ m, ms[i]? = some m := ⟨_, List.getElem?_eq_getElem hlt⟩
      obtain ⟨p, hpl⟩ : ∃ p, l.pls[i]? = some p := ⟨_, List.getElem?_eq_getElem (by rw [hk.pls]; omega)⟩
      have hgm := hk.mo m (List.mem_of_getElem? hm)
      have hbl := hgm.bl
      have hsl := hk.slots
      have hln := hk.len
      have hw0 : (-1 : Int) = ((0 : Nat) : Int) - 1 := by omega
      refine Exists.intro true (Exists.intro [0, 3, 5, 6, 13, 14] (Exists.intro (fun n vs h => ∃ k : Nat, k ≤ m.banks.length + 1 ∧ n = m.banks.length + 1 - k ∧ FitM l p m ((k : Int) - 1) ∧ vs = [.imm t z 8 (ms.map moC), .ptr 0 0 0 6, .v (.int .i64 i), .v (.int .i64 ((k : Int) - 1)), .v (.int .i64 ms.length), .v (.int .i64 i)] ∧ h = [.box (laI l b1 z1 b2 z2 b3 z3)]) (And.intro ?_ ?_)))
      · refine Exists.intro [] ?_
        exact Exists.intro (m.banks.length + 1) ⟨0, by omega, rfl, fitM_start _ _ _, rfl, rfl⟩
      intro n vs h hI
      obtain ⟨k, hk1, rfl, hfm, rfl, rfl⟩ := hI
      refine Exists.intro i (And.intro rfl (Exists.intro (moC m) (And.intro (get_map hm) ?_)))
      have hwk : IntKind.i64.wrap ((k : Int) - 1 + 1) = ((k + 1 : Nat) : Int) - 1 := by rw [wrap64 (by omega)]; omega
      refine And.intro (fun h2 => ?_) (fun h2 => ?_)
      · have h2 := of_decide_eq_true h2
        rw [List.length_map] at h2
        have hbk : -1 ≤ (k : Int) - 1 ∧ (k : Int) - 1 < m.banks.length := by omega
        have hnb : ∀ s, slotB l ((k : Int) - 1) s = true → ¬ (planL l p m ((k : Int) - 1) s).length ≤ 8 → ¬ FitP ms l := fun s hs h8 => fit_bad hm hpl (fitM_bad hbk.1 hbk.2 hs h8)
        have e0 : (l.slots.map intC).length = l.slots.length := List.length_map _
        repeat' ((first
          | refine And.intro (fun h5 => ?_) (fun h5 => ?_)
          | fail) <;> try first | (cases h5; done))
        · rename_i h6 _
          have h6 := of_decide_eq_true h6
          have h5 := of_decide_eq_true h5
          rw [e0] at h5
          have hmany : ¬ ((k : Int) - 1 = -1 ∨ l.slots.length = 0) := by omega
          have hw1 : IntKind.i64.wrap (((l.slots.map intC).length : Int) - 1) = (l.slots.length : Int) - 1 := by rw [e0]; exact wrap64 (by omega)
          refine And.intro (show Region.lexB _ _ = true from by kernel_rfl) ?_
          refine Exists.intro true (Exists.intro [0, 3, 5, 6, 8, 9, 13, 14] (Exists.intro (fun n vs h => ∃ q : Nat, q ≤ l.slots.length ∧ n = l.slots.length - q ∧ FitS l p m ((k : Int) - 1) (q : Int) ∧ vs = [.imm t z 8 (ms.map moC), .ptr 0 0 0 6, .v (.int .i64 i), .v (.int .i64 ((k : Int) - 1)), .v (.int .i64 ((l.slots.length : Int) - 1)), .v (.int .i64 (q : Int)), .v (.int .i64 ms.length), .v (.int .i64 i)] ∧ h = [.box (laI l b1 z1 b2 z2 b3 z3)]) (And.intro ?_ ?_)))
          · refine Exists.intro [] ?_
            refine Exists.intro l.slots.length ⟨0, by omega, rfl, fitS_start hmany, ?_, rfl⟩
            rw [hw1]
            rfl
          intro n vs h hI
          obtain ⟨q, hq1, rfl, hfs, rfl, rfl⟩ := hI
          refine And.intro (fun h7 => ?_) (fun h7 => ?_)
          · have h7 := of_decide_eq_true h7
            have hsb : slotB l ((k : Int) - 1) (q : Int) = true := (slotB_many hmany).2 (by omega)
            refine Exists.intro ms (Exists.intro l (And.intro rfl (And.intro hsm (And.intro ⟨_, _, _, _, _, _, rfl⟩ (And.intro hk (And.intro (fun rs hrs => ?_) (fun hno => ?_)))))))
            · refine And.intro (fun h8 => ?_) (fun h8 => ?_)
              · cases h8
              refine Exists.intro [] ?_
              refine Exists.intro (l.slots.length - (q + 1)) (And.intro (by omega) ⟨q + 1, by omega, rfl, fitS_succ hfs (planF_y hm hpl hrs), ?_, rfl⟩)
              rw [show IntKind.i64.wrap ((q : Int) + 1) = ((q + 1 : Nat) : Int) by rw [wrap64 (by omega)]; omega]
            · refine And.intro (fun h8 => ?_) (fun h8 => ?_)
              · exact hp2 (hnb _ hsb (planF_n hm hpl hbk hsb hno))
              · cases h8
          · have h7 := of_decide_eq_false h7
            have hqe : q = l.slots.length := by omega
            subst hqe
            have hfm2 := fitM_succ hfm (fitS_all hmany hfs)
            rw [show (k : Int) - 1 + 1 = ((k + 1 : Nat) : Int) - 1 by omega] at hfm2
            refine Exists.intro [] (Exists.intro (m.banks.length + 1 - (k + 1)) (And.intro (by omega) ⟨k + 1, by omega, rfl, hfm2, ?_, rfl⟩))
            rw [hwk]
        all_goals have hone : ((k : Int) - 1 = -1 ∨ l.slots.length = 0) := by first | (have h5 := of_decide_eq_false h5; rw [e0] at h5; omega) | (have h5 := of_decide_eq_false (by assumption : decide ((k : Int) - 1 ≥ 0) = false); omega)
        all_goals refine Exists.intro true (Exists.intro [0, 3, 5, 6, 8, 9, 13, 14] (Exists.intro (fun n vs h => ∃ q : Nat, q ≤ 1 ∧ n = 1 - q ∧ FitS l p m ((k : Int) - 1) ((q : Int) - 1) ∧ vs = [.imm t z 8 (ms.map moC), .ptr 0 0 0 6, .v (.int .i64 i), .v (.int .i64 ((k : Int) - 1)), .v (.int .i64 (-1)), .v (.int .i64 ((q : Int) - 1)), .v (.int .i64 ms.length), .v (.int .i64 i)] ∧ h = [.box (laI l b1 z1 b2 z2 b3 z3)]) (And.intro ?_ ?_)))
        · refine Exists.intro [] ?_
          exact Exists.intro 1 ⟨0, by omega, rfl, fitS_start1 hone, rfl, rfl⟩
        rotate_left
        · refine Exists.intro [] ?_
          exact Exists.intro 1 ⟨0, by omega, rfl, fitS_start1 hone, rfl, rfl⟩
        all_goals intro n vs h hI
        all_goals obtain ⟨q, hq1, rfl, hfs, rfl, rfl⟩ := hI
        all_goals refine And.intro (fun h7 => ?_) (fun h7 => ?_)
        · have h7 := of_decide_eq_true h7
          have hq0 : q = 0 := by omega
          subst hq0
          have hsb : slotB l ((k : Int) - 1) (((0 : Nat) : Int) - 1) = true := (slotB_one hone).2 (by omega)
          refine Exists.intro ms (Exists.intro l (And.intro rfl (And.intro hsm (And.intro ⟨_, _, _, _, _, _, rfl⟩ (And.intro hk (And.intro (fun rs hrs => ?_) (fun hno => ?_)))))))
          · refine And.intro (fun h8 => ?_) (fun h8 => ?_)
            · cases h8
            refine Exists.intro [] ?_
            refine Exists.intro 0 (And.intro (by omega) ⟨1, by omega, rfl, ?_, rfl, rfl⟩)
            exact fitS_succ hfs (planF_y hm hpl hrs)
          · refine And.intro (fun h8 => ?_) (fun h8 => ?_)
            · exact hp2 (hnb _ hsb (planF_n hm hpl hbk hsb hno))
            · cases h8
        · have h7 := of_decide_eq_false h7
          have hqe : q = 1 := by omega
          subst hqe
          have hfm2 := fitM_succ hfm (fitS_one hone (hfs (-1) (by omega) ((slotB_one hone).2 rfl)))
          rw [show (k : Int) - 1 + 1 = ((k + 1 : Nat) : Int) - 1 by omega] at hfm2
          refine Exists.intro [] (Exists.intro (m.banks.length + 1 - (k + 1)) (And.intro (by omega) ⟨k + 1, by omega, rfl, hfm2, ?_, rfl⟩))
          rw [hwk]
        · have h7 := of_decide_eq_true h7
          have hq0 : q = 0 := by omega
          subst hq0
          have hsb : slotB l ((k : Int) - 1) (((0 : Nat) : Int) - 1) = true := (slotB_one hone).2 (by omega)
          refine Exists.intro ms (Exists.intro l (And.intro rfl (And.intro hsm (And.intro ⟨_, _, _, _, _, _, rfl⟩ (And.intro hk (And.intro (fun rs hrs => ?_) (fun hno => ?_)))))))
          · refine And.intro (fun h8 => ?_) (fun h8 => ?_)
            · cases h8
            refine Exists.intro [] ?_
            refine Exists.intro 0 (And.intro (by omega) ⟨1, by omega, rfl, ?_, rfl, rfl⟩)
            exact fitS_succ hfs (planF_y hm hpl hrs)
          · refine And.intro (fun h8 => ?_) (fun h8 => ?_)
            · exact hp2 (hnb _ hsb (planF_n hm hpl hbk hsb hno))
            · cases h8
        · have h7 := of_decide_eq_false h7
          have hqe : q = 1 := by omega
          subst hqe
          have hfm2 := fitM_succ hfm (fitS_one hone (hfs (-1) (by omega) ((slotB_one hone).2 rfl)))
          rw [show (k : Int) - 1 + 1 = ((k + 1 : Nat) : Int) - 1 by omega] at hfm2
          refine Exists.intro [] (Exists.intro (m.banks.length + 1 - (k + 1)) (And.intro (by omega) ⟨k + 1, by omega, rfl, hfm2, ?_, rfl⟩))
          rw [hwk]
      · have h2 := of_decide_eq_false h2
        rw [List.length_map] at h2
        have hke : k = m.banks.length + 1 := by omega
        subst hke
        have hfm' : FitM l p m m.banks.length := by
          rw [show ((m.banks.length + 1 : Nat) : Int) - 1 = m.banks.length by omega] at hfm
          exact hfm
        refine Exists.intro [] (Exists.intro (ms.length - (i + 1)) (And.intro (by omega) ⟨i + 1, by omega, rfl, fit_succ hfn hm hpl hfm', ?_, rfl⟩))
        rw [wrap_succ hlt (by omega)]
    · have h1 := of_decide_eq_false h1
      have hie : i = ms.length := by omega
      subst hie
      exact hp1 hfn
  · exact hp.elim
end Go.Proofs.YtbfjkjdbdejnmaaGreat.Ab

/- Plans of impl: Fits, Plan. No condition. -/
namespace Go.Proofs.YtbfjkjdbdejnmaaGreat.Ab
set_option linter.unusedVariables false
set_option linter.unusedSimpArgs false
set_option maxRecDepth 100000

def cx_s_FitsI : Ctx := mkC [(43, callM [] true hReal), (44, callM [] true hFitsI)]
theorem cx_s_FitsI_ok : CtxOk Tryz.prog cx_s_FitsI := mkC_ok (mem1 ⟨s_linked, fnOk Tryz.func43 rfl rfl⟩ (mem1 ⟨s_fits, fnOk Tryz.func44 rfl rfl⟩ mem0))
set_option maxRecDepth 100000 in
set_option pp.maxSteps 1500 in
set_option maxHeartbeats 16000000 in
theorem s_FitsI : HSound Tryz.prog 12 (callM [] true hFits) := by
  refine callM_sound cx_s_FitsI_ok mixed Tryz.func12 rfl fun args hl K hp => ?_
  unfold hFits at hp
  split at hp
  · rename_i t z L a
    obtain ⟨ms, l, rfl, hlen, hsm, ⟨b1, z1, b2, z2, b3, z3, rfl⟩, hb, hp⟩ := hp
    refine Exists.intro ms (Exists.intro l (And.intro rfl (And.intro hlen (And.intro hsm (And.intro ⟨_, _, _, _, _, _, rfl⟩ (And.intro hb (And.intro (fun hr => ?_) (fun hr => ?_))))))))
    rotate_left
    · rw [fitsB_f (fun h => hr h.1)] at hp
      repeat' ((first
        | refine And.intro (fun h5 => ?_) (fun h5 => ?_)
        | fail) <;> try first | (cases h5; done))
      exact hp
    have hk : Lk ms l := lk_of hr
    repeat' ((first
      | refine And.intro (fun h5 => ?_) (fun h5 => ?_)
      | fail) <;> try first | (cases h5; done))
    refine Exists.intro ms (Exists.intro l (And.intro rfl (And.intro hsm (And.intro ⟨_, _, _, _, _, _, rfl⟩ (And.intro hk (And.intro (fun hf => ?_) (fun hf => ?_)))))))
    · rw [fitsB_t hr hf] at hp
      repeat' ((first
        | refine And.intro (fun h5 => ?_) (fun h5 => ?_)
        | fail) <;> try first | (cases h5; done))
      all_goals exact hp
    · rw [fitsB_f (fun h => hf h.2)] at hp
      repeat' ((first
        | refine And.intro (fun h5 => ?_) (fun h5 => ?_)
        | fail) <;> try first | (cases h5; done))
      all_goals exact hp
  · exact hp.elim
def hPlan : CH := fun args hl K => match args, hl with
  | [.imm _ _ 8 L, a, .agg [.v (.int .i64 i), .v (.int .i64 b), .v (.int .i64 _)], .v (.int .i64 s)], [] => ∃ (ms : List Mo) (l : La), L = ms.map moC ∧ ms.length ≤ 1048576 ∧ (∀ m ∈ ms, smMo m) ∧ LaV a l ∧ smLa l ∧ K (.tup [.slc 0 0 (planR ms l i b s).length false, .v (.bool (planO ms l i b s))]) [.lst 6 ((planR ms l i b s).map regC)]
  | _, _ => False
theorem fin_pl {K : AV → HP → Prop} {ms : List Mo} {l : La} {i b s : Int} (hp : K (.tup [.slc 0 0 (planR ms l i b s).length false, .v (.bool (planO ms l i b s))]) [.lst 6 ((planR ms l i b s).map regC)]) {rs : List Rg} {o : Bool} (h : planR ms l i b s = rs ∧ planO ms l i b s = o) : K (.tup [.slc 0 0 rs.length false, .v (.bool o)]) [.lst 6 (rs.map regC)] := by
  obtain ⟨rfl, rfl⟩ := h
  exact hp
def cx_s_PlanI : Ctx := mkC [(43, callM [] true hReal), (65, callM [] true hPlanI)]
theorem cx_s_PlanI_ok : CtxOk Tryz.prog cx_s_PlanI := mkC_ok (mem1 ⟨s_linked, fnOk Tryz.func43 rfl rfl⟩ (mem1 ⟨s_plan, fnOk Tryz.func65 rfl rfl⟩ mem0))
set_option maxRecDepth 100000 in
set_option pp.maxSteps 1500 in
set_option maxHeartbeats 16000000 in
theorem s_PlanI : HSound Tryz.prog 24 (callM [] true hPlan) := by
  refine callM_sound cx_s_PlanI_ok mixed Tryz.func24 rfl fun args hl K hp => ?_
  unfold hPlan at hp
  split at hp
  · rename_i t z L a i b e s
    obtain ⟨ms, l, rfl, hlen, hsm, ⟨b1, z1, b2, z2, b3, z3, rfl⟩, hb, hp⟩ := hp
    refine Or.inl ?_
    refine Exists.intro ms (Exists.intro l (And.intro rfl (And.intro hlen (And.intro hsm (And.intro ⟨_, _, _, _, _, _, rfl⟩ (And.intro hb (And.intro (fun hr => ?_) (fun hr => ?_))))))))
    rotate_left
    · repeat' ((first
        | refine And.intro (fun h5 => ?_) (fun h5 => ?_)
        | fail) <;> try first | (cases h5; done))
      refine Or.inr (And.intro closed_nil ?_)
      exact fin_pl hp (planR_none (Or.inl hr))
    have hk : Lk ms l := lk_of hr
    repeat' ((first
      | refine And.intro (fun h5 => ?_) (fun h5 => ?_)
      | fail) <;> try first | (cases h5; done))
    refine Exists.intro ms (Exists.intro l (And.intro rfl (And.intro hsm (And.intro ⟨_, _, _, _, _, _, rfl⟩ (And.intro hk (And.intro (fun rs hf => ?_) (fun hf => ?_)))))))
    · refine And.intro (closed_Region _) ?_
      exact fin_pl hp (planR_some hr hf)
    · refine And.intro closed_nil ?_
      exact fin_pl hp (planR_none (Or.inr hf))
  · exact hp.elim
end Go.Proofs.YtbfjkjdbdejnmaaGreat.Ab

/- Plans of the reference: Plan. No condition. -/
namespace Go.Proofs.YtbfjkjdbdejnmaaGreat.Ab
set_option linter.unusedVariables false
set_option linter.unusedSimpArgs false
set_option maxRecDepth 100000

def thereB (ms : List Mo) (i b : Int) : Bool := decide (0 ≤ i) && match ms[i.toNat]? with | some m => (pieceOf m b).isSome | none => false
def hThere : CH := fun args hl K => match args, hl with
  | [.imm _ _ 8 L, .v (.int .i64 i), .v (.int .i64 b)], [] => ∃ ms : List Mo, L = ms.map moC ∧ (∀ m ∈ ms, smMo m) ∧ K (.v (.bool (thereB ms i b))) []
  | _, _ => False
theorem there_out {ms : List Mo} {i b : Int} (h : ¬ (0 ≤ i ∧ i < ms.length)) : thereB ms i b = false := by
  unfold thereB
  by_cases h0 : 0 ≤ i
  · rw [List.getElem?_eq_none (by omega)]
    simp
  · simp [h0]
theorem there_at {ms : List Mo} {I : Nat} {b : Int} {m : Mo} (hm : ms[I]? = some m) : thereB ms I b = (pieceOf m b).isSome := by
  unfold thereB
  rw [Int.toNat_natCast, hm]
  simp
def cx_s_l6There : Ctx := mkC [(91, callM [] false hPiece)]
theorem cx_s_l6There_ok : CtxOk Tryz.prog cx_s_l6There := mkC_ok (mem1 ⟨s_l4Piece, fnOk Tryz.func91 rfl rfl⟩ mem0)
set_option maxRecDepth 100000 in
set_option pp.maxSteps 1500 in
set_option maxHeartbeats 4000000 in
theorem s_l6There : HSound Tryz.prog 64 (callM [] true hThere) := by
  refine callM_sound cx_s_l6There_ok mixed Tryz.func64 rfl fun args hl K hp => ?_
  unfold hThere at hp
  split at hp
  · rename_i t z L i b
    obtain ⟨ms, rfl, hsm, hp⟩ := hp
    by_cases hi : 0 ≤ i ∧ i < ms.length
    rotate_left
    · rw [there_out hi] at hp
      repeat' ((first
        | refine And.intro (fun h1 => ?_) (fun h1 => ?_)
        | fail) <;> try first | (cases h1; done))
      all_goals first
        | exact hp
        | (exfalso; simp only [List.length_map, decide_eq_false_iff_not, decide_eq_true_eq, ge_iff_le] at *; omega)
    obtain ⟨I, rfl⟩ := Int.eq_ofNat_of_zero_le hi.1
    obtain ⟨m, hm⟩ : ∃ m, ms[I]? = some m := ⟨_, List.getElem?_eq_getElem (by omega)⟩
    have hmm := hsm m (List.mem_of_getElem? hm)
    rw [there_at hm] at hp
    have hnI : decide ((I : Int) < 0) = false := decide_eq_false (by omega)
    have hnL : decide ((I : Int) ≥ ((ms.map moC).length : Int)) = false := decide_eq_false (by rw [List.length_map]; omega)
    refine And.intro (fun h1 => absurd (hnI.symm.trans h1) Bool.false_ne_true) (fun h1 => ?_)
    refine And.intro (fun h2 => Bool.noConfusion h2) (fun h2 => ?_)
    refine And.intro (fun h3 => absurd (hnL.symm.trans h3) Bool.false_ne_true) (fun h3 => ?_)
    refine Exists.intro I (And.intro rfl (Exists.intro (moC m) (And.intro (get_map hm) ?_)))
    refine Exists.intro m (And.intro ⟨_, _, _, _, _, _, _, _, _, _, _, _, rfl⟩ (And.intro hmm ?_))
    cases hpc : pieceOf m b with
    | none =>
      rw [hpc] at hp
      exact hp
    | some ws =>
      rw [hpc] at hp
      intro t' z'
      exact hp
  · exact hp.elim
def cx_s_PlanS : Ctx := mkC [(37, callM [] true hReal), (64, callM [] true hThere), (38, callM [] true hPlanS)]
theorem cx_s_PlanS_ok : CtxOk Tryz.prog cx_s_PlanS := mkC_ok (mem1 ⟨s_l5Real, fnOk Tryz.func37 rfl rfl⟩ (mem1 ⟨s_l6There, fnOk Tryz.func64 rfl rfl⟩ (mem1 ⟨s_l6Plan, fnOk Tryz.func38 rfl rfl⟩ mem0)))
set_option maxRecDepth 100000 in
set_option pp.maxSteps 1500 in
set_option maxHeartbeats 16000000 in
theorem s_PlanS : HSound Tryz.prog 22 (callM [] true hPlan) := by
  refine callM_sound cx_s_PlanS_ok mixed Tryz.func22 rfl fun args hl K hp => ?_
  unfold hPlan at hp
  split at hp
  · rename_i t z L a i b e s
    obtain ⟨ms, l, rfl, hlen, hsm, ⟨b1, z1, b2, z2, b3, z3, rfl⟩, hb, hp⟩ := hp
    refine Or.inl ?_
    refine Exists.intro ms ?_
    refine Exists.intro l (And.intro rfl (And.intro hlen (And.intro hsm (And.intro ⟨_, _, _, _, _, _, rfl⟩ (And.intro hb (And.intro (fun hr => ?_) (fun hr => ?_)))))))
    rotate_left
    · repeat' ((first
        | refine And.intro (fun h5 => ?_) (fun h5 => ?_)
        | fail) <;> try first | (cases h5; done))
      refine And.intro closed_nil ?_
      exact fin_pl hp (planR_none (Or.inl hr))
    have hk : Lk ms l := lk_of hr
    repeat' ((first
      | refine And.intro (fun h5 => ?_) (fun h5 => ?_)
      | fail) <;> try first | (cases h5; done))
    refine Exists.intro ms (And.intro rfl (And.intro hsm ?_))
    cases hT : thereB ms i b with
    | false =>
      have hnone : planF ms l i b s = none := by
        by_cases hi : 0 ≤ i ∧ i < ms.length
        · obtain ⟨I, rfl⟩ := Int.eq_ofNat_of_zero_le hi.1
          obtain ⟨m, hm⟩ : ∃ m, ms[I]? = some m := ⟨_, List.getElem?_eq_getElem (by omega)⟩
          obtain ⟨p, hpl⟩ : ∃ p, l.pls[I]? = some p := ⟨_, List.getElem?_eq_getElem (by rw [hk.pls]; omega)⟩
          rw [there_at hm] at hT
          rw [planF_at hm hpl, hT]
          simp
        · exact planF_out hi
      repeat' ((first
        | refine And.intro (fun h5 => ?_) (fun h5 => ?_)
        | fail) <;> try first | (cases h5; done))
      refine And.intro closed_nil ?_
      exact fin_pl hp (planR_none (Or.inr hnone))
    | true =>
      have hi : 0 ≤ i ∧ i < ms.length := by
        apply Classical.byContradiction
        intro h
        rw [there_out h] at hT
        cases hT
      obtain ⟨I, rfl⟩ := Int.eq_ofNat_of_zero_le hi.1
      obtain ⟨m, hm⟩ : ∃ m, ms[I]? = some m := ⟨_, List.getElem?_eq_getElem (by omega)⟩
      obtain ⟨p, hpl⟩ : ∃ p, l.pls[I]? = some p := ⟨_, List.getElem?_eq_getElem (by rw [hk.pls]; omega)⟩
      have hmm := hsm m (List.mem_of_getElem? hm)
      rw [there_at hm] at hT
      have hbk := hT
      rw [piece_some, decide_eq_true_eq] at hbk
      have e0 : (l.slots.map intC).length = l.slots.length := List.length_map _
      have hno : slotB l b s = false → planF ms l (I : Int) b s = none := fun h => by rw [planF_at hm hpl, h]; simp
      repeat' ((first
        | refine And.intro (fun h5 => ?_) (fun h5 => ?_)
        | fail) <;> try first | (cases h5; done))
      · have hs : slotB l b s = false := by
          clear hp hno hb hlen hsm hr hk hT hmm hm hpl
          unfold slotB
          simp only [e0, bne_iff_ne, beq_iff_eq, ne_eq, decide_eq_true_eq, decide_eq_false_iff_not, beq_eq_false_iff_ne, bne_eq_false_iff_eq, ge_iff_le] at *
          split
          · refine decide_eq_false ?_
            omega
          · refine decide_eq_false ?_
            omega
        refine And.intro closed_nil ?_
        exact fin_pl hp (planR_none (Or.inr (hno hs)))
      · have hs : slotB l b s = true := by
          clear hp hno hb hlen hsm hr hk hT hmm hm hpl
          unfold slotB
          simp only [e0, bne_iff_ne, beq_iff_eq, ne_eq, decide_eq_true_eq, decide_eq_false_iff_not, beq_eq_false_iff_ne, bne_eq_false_iff_eq, ge_iff_le] at *
          split
          · refine decide_eq_true ?_
            omega
          · refine decide_eq_true ?_
            omega
        obtain ⟨ws, hws, hwl, hbs, id, iz, ist, io⟩ := plan_pre hk hm hpl (by omega) hs
        refine Exists.intro ms (Exists.intro l (Exists.intro p (Exists.intro m (Exists.intro ws (Exists.intro I (And.intro rfl (And.intro ⟨_, _, _, _, _, _, rfl⟩ (And.intro hmm (And.intro rfl (And.intro hpl (And.intro hm (And.intro hws (And.intro hwl (And.intro hbs (And.intro id (And.intro iz (And.intro ist (And.intro io ?_))))))))))))))))))
        refine And.intro (fun h7 => ?_) (fun h7 => ?_)
        · have h7 := of_decide_eq_true h7
          refine And.intro closed_nil ?_
          exact fin_pl hp (planR_none (Or.inr (by rw [planF_at hm hpl, hT, hs, if_neg]; simp; omega)))
        · have h7 := of_decide_eq_false h7
          refine And.intro (closed_Region _) ?_
          exact fin_pl hp (planR_some hr (by rw [planF_at hm hpl, hT, hs, if_pos]; simp; omega))
      · have hs : slotB l b s = false := by
          clear hp hno hb hlen hsm hr hk hT hmm hm hpl
          unfold slotB
          simp only [e0, bne_iff_ne, beq_iff_eq, ne_eq, decide_eq_true_eq, decide_eq_false_iff_not, beq_eq_false_iff_ne, bne_eq_false_iff_eq, ge_iff_le] at *
          split
          · refine decide_eq_false ?_
            omega
          · refine decide_eq_false ?_
            omega
        refine And.intro closed_nil ?_
        exact fin_pl hp (planR_none (Or.inr (hno hs)))
      · have hs : slotB l b s = true := by
          clear hp hno hb hlen hsm hr hk hT hmm hm hpl
          unfold slotB
          simp only [e0, bne_iff_ne, beq_iff_eq, ne_eq, decide_eq_true_eq, decide_eq_false_iff_not, beq_eq_false_iff_ne, bne_eq_false_iff_eq, ge_iff_le] at *
          split
          · refine decide_eq_true ?_
            omega
          · refine decide_eq_true ?_
            omega
        obtain ⟨ws, hws, hwl, hbs, id, iz, ist, io⟩ := plan_pre hk hm hpl (by omega) hs
        refine Exists.intro ms (Exists.intro l (Exists.intro p (Exists.intro m (Exists.intro ws (Exists.intro I (And.intro rfl (And.intro ⟨_, _, _, _, _, _, rfl⟩ (And.intro hmm (And.intro rfl (And.intro hpl (And.intro hm (And.intro hws (And.intro hwl (And.intro hbs (And.intro id (And.intro iz (And.intro ist (And.intro io ?_))))))))))))))))))
        refine And.intro (fun h7 => ?_) (fun h7 => ?_)
        · have h7 := of_decide_eq_true h7
          refine And.intro closed_nil ?_
          exact fin_pl hp (planR_none (Or.inr (by rw [planF_at hm hpl, hT, hs, if_neg]; simp; omega)))
        · have h7 := of_decide_eq_false h7
          refine And.intro (closed_Region _) ?_
          exact fin_pl hp (planR_some hr (by rw [planF_at hm hpl, hT, hs, if_pos]; simp; omega))
      · have hs : slotB l b s = false := by
          clear hp hno hb hlen hsm hr hk hT hmm hm hpl
          unfold slotB
          simp only [e0, bne_iff_ne, beq_iff_eq, ne_eq, decide_eq_true_eq, decide_eq_false_iff_not, beq_eq_false_iff_ne, bne_eq_false_iff_eq, ge_iff_le] at *
          split
          · refine decide_eq_false ?_
            omega
          · refine decide_eq_false ?_
            omega
        refine And.intro closed_nil ?_
        exact fin_pl hp (planR_none (Or.inr (hno hs)))
      · have hs : slotB l b s = false := by
          clear hp hno hb hlen hsm hr hk hT hmm hm hpl
          unfold slotB
          simp only [e0, bne_iff_ne, beq_iff_eq, ne_eq, decide_eq_true_eq, decide_eq_false_iff_not, beq_eq_false_iff_ne, bne_eq_false_iff_eq, ge_iff_le] at *
          split
          · refine decide_eq_false ?_
            omega
          · refine decide_eq_false ?_
            omega
        refine And.intro closed_nil ?_
        exact fin_pl hp (planR_none (Or.inr (hno hs)))
      · have hs : slotB l b s = true := by
          clear hp hno hb hlen hsm hr hk hT hmm hm hpl
          unfold slotB
          simp only [e0, bne_iff_ne, beq_iff_eq, ne_eq, decide_eq_true_eq, decide_eq_false_iff_not, beq_eq_false_iff_ne, bne_eq_false_iff_eq, ge_iff_le] at *
          split
          · refine decide_eq_true ?_
            omega
          · refine decide_eq_true ?_
            omega
        obtain ⟨ws, hws, hwl, hbs, id, iz, ist, io⟩ := plan_pre hk hm hpl (by omega) hs
        refine Exists.intro ms (Exists.intro l (Exists.intro p (Exists.intro m (Exists.intro ws (Exists.intro I (And.intro rfl (And.intro ⟨_, _, _, _, _, _, rfl⟩ (And.intro hmm (And.intro rfl (And.intro hpl (And.intro hm (And.intro hws (And.intro hwl (And.intro hbs (And.intro id (And.intro iz (And.intro ist (And.intro io ?_))))))))))))))))))
        refine And.intro (fun h7 => ?_) (fun h7 => ?_)
        · have h7 := of_decide_eq_true h7
          refine And.intro closed_nil ?_
          exact fin_pl hp (planR_none (Or.inr (by rw [planF_at hm hpl, hT, hs, if_neg]; simp; omega)))
        · have h7 := of_decide_eq_false h7
          refine And.intro (closed_Region _) ?_
          exact fin_pl hp (planR_some hr (by rw [planF_at hm hpl, hT, hs, if_pos]; simp; omega))
  · exact hp.elim
end Go.Proofs.YtbfjkjdbdejnmaaGreat.Ab

/- Layouts: laid, measured; what a law's argument is. No condition. -/
namespace Go.Proofs.YtbfjkjdbdejnmaaGreat.Ab
set_option linter.unusedVariables false
set_option linter.unusedSimpArgs false
set_option maxRecDepth 100000

def wPb (p : Pl) : Nat := p.banks.length
def bigPl (p : Pl) : Prop := p.banks.length ≤ maxLen
def bigTgs (t : List Tg) : Prop := t.length ≤ maxLen
def hSzPl : CH := fun args hl K => match args, hl with
  | [a, .v (.int .i64 n)], [] => ∃ p, PlV a p ∧ bigPl p ∧ 0 ≤ n ∧ n ≤ 1048576 ∧ K (.v (.int .i64 (szB n (wPb p)))) []
  | _, _ => False
def cx_s_szPlace : Ctx := mkC [(35, callM [] true hSzB)]
theorem cx_s_szPlace_ok : CtxOk Tryz.prog cx_s_szPlace := mkC_ok (mem1 ⟨s_szIntS, fnOk Tryz.func35 rfl rfl⟩ mem0)
set_option maxRecDepth 100000 in
set_option pp.maxSteps 1500 in
theorem s_szPlace : HSound Tryz.prog 86 (callM [] true hSzPl) := by
  refine callM_sound cx_s_szPlace_ok mixed Tryz.func86 rfl fun args hl K hp => ?_
  unfold hSzPl at hp
  split at hp
  · rename_i a n
    obtain ⟨p, ⟨b, z, rfl⟩, hb, hn0, hn1, hp⟩ := hp
    simp only [bigPl] at hb
    have hml : maxLen ≤ 9223372036854775807 := by decide
    refine And.intro hn0 (And.intro hn1 (And.intro (by rw [List.length_map]; omega) ?_))
    refine And.intro (fun h => ?_) (fun h => ?_)
    · have h := of_decide_eq_true h
      rw [List.length_map] at h
      refine fin_i hp ?_
      show szB n p.banks.length = -1
      rw [szB_neg (szB_lt hn0 h)]
    · have h := of_decide_eq_false h
      rw [List.length_map] at *
      exact hp
  · exact hp.elim
def hSzTgs : CH := fun args hl K => match args, hl with
  | [.imm _ _ 3 l, .v (.int .i64 n)], [] => 0 ≤ n ∧ n ≤ 1048576 ∧ (l.length : Int) ≤ 9223372036854775807 ∧ K (.v (.int .i64 (szB n l.length))) []
  | _, _ => False
def cx_s_szTargetSc : Ctx := mkC []
theorem cx_s_szTargetSc_ok : CtxOk Tryz.prog cx_s_szTargetSc := cx0_ok
set_option maxRecDepth 100000 in
set_option pp.maxSteps 1500 in
theorem s_szTargetSc : HSound Tryz.prog 87 (callM [] true hSzTgs) := by
  refine callM_sound cx_s_szTargetSc_ok mixed Tryz.func87 rfl fun args hl K hp => ?_
  unfold hSzTgs at hp
  split at hp
  · rename_i l n
    obtain ⟨h0, h1, h2, hp⟩ := hp
    have hw : IntKind.i64.wrap (n - l.length) = n - l.length := wrap64 (by omega)
    repeat' ((first | refine And.intro (fun h1 => ?_) (fun h1 => ?_) | refine And.intro (by decide) ?_ | refine And.intro (show wfB _ = true from by kernel_rfl) ?_ | refine And.intro (And.intro rfl rfl) ?_ | exact And.intro rfl rfl | apply HeldC.intro | exact AV.top | (apply HeldF.intro; refine Exists.intro _ (And.intro (by assumption) ?_); refine And.intro (by decide) ?_; exact And.intro rfl rfl) | (refine And.intro (by (refine Exists.intro _ (And.intro (by assumption) ?_); refine And.intro (by decide) ?_; exact And.intro rfl rfl)) ?_) | refine Or.inl ?_) <;> try cases h1)
    all_goals refine fin_i hp ?_
    all_goals clear hp
    all_goals rw [hw] at *
    all_goals simp only [szB, decide_eq_true_eq, decide_eq_false_iff_not] at *
    all_goals split <;> omega
  · exact hp.elim
/-! ### Place: the size of a slice with what its elements hold (printed by gen/szl.py) -/

def wtPlace (bs : List Pl) : Nat := bs.length + (bs.map wPb).sum
def hSzPlace : CH := fun args hl K => match args, hl with
  | [.imm _ _ 4 l, .v (.int .i64 n)], [] => ∃ bs : List Pl, l = bs.map plC ∧ (∀ b ∈ bs, bigPl b) ∧ bs.length ≤ maxLen ∧ 0 ≤ n ∧ n ≤ 1048576 ∧ K (.v (.int .i64 (szB n (wtPlace bs)))) []
  | _, _ => False
def cx_s_szPlaceS : Ctx := mkC [(86, callM [] true hSzPl)]
theorem cx_s_szPlaceS_ok : CtxOk Tryz.prog cx_s_szPlaceS := mkC_ok (mem1 ⟨s_szPlace, fnOk Tryz.func86 rfl rfl⟩ mem0)
set_option maxRecDepth 100000 in
set_option pp.maxSteps 1500 in
theorem s_szPlaceS : HSound Tryz.prog 34 (callM [] true hSzPlace) := by
  refine callM_sound cx_s_szPlaceS_ok mixed Tryz.func34 rfl fun args hl K hp => ?_
  unfold hSzPlace at hp
  split at hp
  · rename_i t z l n
    obtain ⟨bs, rfl, hbig, hlen, hn0, hn1, hp⟩ := hp
    have hml : maxLen ≤ 9223372036854775807 := by decide
    have hw : IntKind.i64.wrap (n - ((bs.map plC).length : Int)) = n - bs.length := by rw [List.length_map]; exact wrap64 (by omega)
    refine And.intro (fun h1 => ?_) (fun h1 => ?_)
    · have h1 := of_decide_eq_true h1
      rw [hw] at h1
      refine fin_i hp ?_
      rw [szB_neg (by simp only [wtPlace]; omega)]
    have h1 := of_decide_eq_false h1
    refine Exists.intro false (Exists.intro [0, 1, 5] (Exists.intro (fun m vs h => ∃ i : Nat, i ≤ bs.length ∧ m = bs.length - i ∧ 0 ≤ n - bs.length - ((bs.take i).map wPb).sum ∧ vs = [.imm t z 4 (bs.map plC), .v (.int .i64 (n - bs.length - ((bs.take i).map wPb).sum)), .v (.int .i64 i)] ∧ h = []) (And.intro ?_ ?_)))
    · refine Exists.intro bs.length ?_
      refine ⟨0, by omega, rfl, ?_, ?_, rfl⟩
      · rw [hw] at h1; simp; omega
      · rw [hw]; simp
    · rw [hw] at h1
      clear hw
      intro m vs h hI
      obtain ⟨i, hi, rfl, hs0, rfl, rfl⟩ := hI
      refine And.intro (fun h2 => ?_) (fun h2 => ?_)
      · simp only [decide_eq_true_eq, List.length_map] at h2
        have hlt : i < bs.length := by omega
        obtain ⟨b, hbi⟩ : ∃ b, bs[i]? = some b := ⟨_, List.getElem?_eq_getElem hlt⟩
        have hbb := hbig b (List.mem_of_getElem? hbi)
        have hst := sum_take (f := wPb) hbi
        have hle := sum_take_le wPb bs (i + 1)
        generalize hS : ((bs.take i).map wPb).sum = S at *
        generalize hS1 : ((bs.take (i + 1)).map wPb).sum = S1 at *
        have hlt2 : i < (bs.length : Int) := by omega
        refine Exists.intro i (And.intro rfl (Exists.intro (plC b) (And.intro (get_map hbi) ?_)))
        refine Exists.intro b (And.intro ⟨_, _, rfl⟩ (And.intro hbb (And.intro hs0 (And.intro (by omega) ?_))))
        refine And.intro (fun h3 => ?_) (fun h3 => ?_)
        · have h3 := of_decide_eq_true h3
          refine fin_i hp ?_
          try rw [List.length_map] at h3
          have h3 : n - bs.length - (S : Int) < (wPb b : Nat) := szB_lt hs0 h3
          rw [szB_neg (by simp only [wtPlace]; omega)]
        · have h3 := of_decide_eq_false h3
          refine Exists.intro (bs.length - (i + 1)) (And.intro (by omega) ?_)
          try rw [List.length_map] at h3
          have h3 : (wPb b : Nat) ≤ n - bs.length - (S : Int) := szB_ge hs0 h3
          refine ⟨i + 1, by omega, rfl, ?_, ?_, rfl⟩
          · rw [hS1]; omega
          · rw [wrap_succ hlt (by omega), hS1, show n - (bs.length : Int) - (S1 : Int) = n - bs.length - S - (wPb b : Nat) by omega]
            (try rw [List.length_map])
            rw [← szB_pos h3]
            try rfl
      · simp only [decide_eq_false_iff_not, List.length_map] at h2
        have : i = bs.length := by omega
        subst this
        rw [List.take_length] at hs0 ⊢
        refine fin_i hp ?_
        rw [szB_pos (by simp only [wtPlace]; omega)]
        simp only [wtPlace]
        omega
  · exact hp.elim

/-! ### TargetS: the size of a slice with what its elements hold (printed by gen/szl.py) -/

def wtTargetS (bs : List (List Tg)) : Nat := bs.length + (bs.map List.length).sum
def hSzTargetS : CH := fun args hl K => match args, hl with
  | [.imm _ _ 1 l, .v (.int .i64 n)], [] => ∃ bs : List (List Tg), l = bs.map tgsC ∧ (∀ b ∈ bs, bigTgs b) ∧ bs.length ≤ maxLen ∧ 0 ≤ n ∧ n ≤ 1048576 ∧ K (.v (.int .i64 (szB n (wtTargetS bs)))) []
  | _, _ => False
def cx_s_szTargetSS : Ctx := mkC [(87, callM [] true hSzTgs)]
theorem cx_s_szTargetSS_ok : CtxOk Tryz.prog cx_s_szTargetSS := mkC_ok (mem1 ⟨s_szTargetSc, fnOk Tryz.func87 rfl rfl⟩ mem0)
set_option maxRecDepth 100000 in
set_option pp.maxSteps 1500 in
theorem s_szTargetSS : HSound Tryz.prog 36 (callM [] true hSzTargetS) := by
  refine callM_sound cx_s_szTargetSS_ok mixed Tryz.func36 rfl fun args hl K hp => ?_
  unfold hSzTargetS at hp
  split at hp
  · rename_i t z l n
    obtain ⟨bs, rfl, hbig, hlen, hn0, hn1, hp⟩ := hp
    have hml : maxLen ≤ 9223372036854775807 := by decide
    have hw : IntKind.i64.wrap (n - ((bs.map tgsC).length : Int)) = n - bs.length := by rw [List.length_map]; exact wrap64 (by omega)
    refine And.intro (fun h1 => ?_) (fun h1 => ?_)
    · have h1 := of_decide_eq_true h1
      rw [hw] at h1
      refine fin_i hp ?_
      rw [szB_neg (by simp only [wtTargetS]; omega)]
    have h1 := of_decide_eq_false h1
    refine Exists.intro false (Exists.intro [0, 1, 5] (Exists.intro (fun m vs h => ∃ i : Nat, i ≤ bs.length ∧ m = bs.length - i ∧ 0 ≤ n - bs.length - ((bs.take i).map List.length).sum ∧ vs = [.imm t z 1 (bs.map tgsC), .v (.int .i64 (n - bs.length - ((bs.take i).map List.length).sum)), .v (.int .i64 i)] ∧ h = []) (And.intro ?_ ?_)))
    · refine Exists.intro bs.length ?_
      refine ⟨0, by omega, rfl, ?_, ?_, rfl⟩
      · rw [hw] at h1; simp; omega
      · rw [hw]; simp
    · rw [hw] at h1
      clear hw
      intro m vs h hI
      obtain ⟨i, hi, rfl, hs0, rfl, rfl⟩ := hI
      refine And.intro (fun h2 => ?_) (fun h2 => ?_)
      · simp only [decide_eq_true_eq, List.length_map] at h2
        have hlt : i < bs.length := by omega
        obtain ⟨b, hbi⟩ : ∃ b, bs[i]? = some b := ⟨_, List.getElem?_eq_getElem hlt⟩
        have hbb := hbig b (List.mem_of_getElem? hbi)
        have hst := sum_take (f := List.length) hbi
        have hle := sum_take_le List.length bs (i + 1)
        generalize hS : ((bs.take i).map List.length).sum = S at *
        generalize hS1 : ((bs.take (i + 1)).map List.length).sum = S1 at *
        have hlt2 : i < (bs.length : Int) := by omega
        refine Exists.intro i (And.intro rfl (Exists.intro (tgsC b) (And.intro (get_map hbi) ?_)))
        refine And.intro hs0 (And.intro (by omega) (And.intro (by simp only [bigTgs] at hbb; rw [List.length_map]; omega) ?_))
        refine And.intro (fun h3 => ?_) (fun h3 => ?_)
        · have h3 := of_decide_eq_true h3
          refine fin_i hp ?_
          try rw [List.length_map] at h3
          have h3 : n - bs.length - (S : Int) < (List.length b : Nat) := szB_lt hs0 h3
          rw [szB_neg (by simp only [wtTargetS]; omega)]
        · have h3 := of_decide_eq_false h3
          refine Exists.intro (bs.length - (i + 1)) (And.intro (by omega) ?_)
          try rw [List.length_map] at h3
          have h3 : (List.length b : Nat) ≤ n - bs.length - (S : Int) := szB_ge hs0 h3
          refine ⟨i + 1, by omega, rfl, ?_, ?_, rfl⟩
          · rw [hS1]; omega
          · rw [wrap_succ hlt (by omega), hS1, show n - (bs.length : Int) - (S1 : Int) = n - bs.length - S - (List.length b : Nat) by omega]
            (try rw [List.length_map])
            rw [← szB_pos h3]
            try rfl
      · simp only [decide_eq_false_iff_not, List.length_map] at h2
        have : i = bs.length := by omega
        subst this
        rw [List.take_length] at hs0 ⊢
        refine fin_i hp ?_
        rw [szB_pos (by simp only [wtTargetS]; omega)]
        simp only [wtTargetS]
        omega
  · exact hp.elim

def wtLa (l : La) : Nat := wtPlace l.pls + l.slots.length + wtTargetS l.tgts
structure bigLa (l : La) : Prop where
  pls : l.pls.length ≤ maxLen
  pl : ∀ p ∈ l.pls, bigPl p
  slots : l.slots.length ≤ maxLen
  tgts : l.tgts.length ≤ maxLen
  tg : ∀ t ∈ l.tgts, bigTgs t
theorem sum_wP (l : List Pl) : (l.map wP).sum = (l.map wPb).sum + 3 * l.length := by
  induction l with
  | nil => rfl
  | cons a l ih => simp only [List.map_cons, List.sum_cons, List.length_cons, ih, wP, wPb]; omega
theorem sum_wT (l : List (List Tg)) : (l.map wT).sum = 3 * (l.map List.length).sum := by
  induction l with
  | nil => rfl
  | cons a l ih => simp only [List.map_cons, List.sum_cons, ih, wT]; omega
theorem smLa_of_wt {l : La} (h : wtLa l ≤ 1048576) : smLa l := by
  simp only [wtLa, wtPlace, wtTargetS] at h
  refine ⟨by omega, fun p hp => ?_, ?_, by omega, by omega, fun t ht => ?_, ?_⟩
  · have := le_sum (f := wPb) hp; simp only [smPl, wPb] at *; omega
  · simp only [sumW]; rw [sum_wP]; omega
  · have := le_sum (f := List.length) ht; simp only [smTgs] at *; omega
  · simp only [sumW]; rw [sum_wT]; omega
def hSzLa : CH := fun args hl K => match args, hl with
  | [a, .v (.int .i64 n)], [] => ∃ l, LaV a l ∧ bigLa l ∧ 0 ≤ n ∧ n ≤ 1048576 ∧ K (.v (.int .i64 (szB n (wtLa l)))) []
  | _, _ => False
def cx_s_szLayout : Ctx := mkC [(34, callM [] true hSzPlace), (35, callM [] true hSzB), (36, callM [] true hSzTargetS)]
theorem cx_s_szLayout_ok : CtxOk Tryz.prog cx_s_szLayout := mkC_ok (mem1 ⟨s_szPlaceS, fnOk Tryz.func34 rfl rfl⟩ (mem1 ⟨s_szIntS, fnOk Tryz.func35 rfl rfl⟩ (mem1 ⟨s_szTargetSS, fnOk Tryz.func36 rfl rfl⟩ mem0)))
set_option maxRecDepth 100000 in
set_option pp.maxSteps 1500 in
set_option maxHeartbeats 4000000 in
theorem s_szLayout : HSound Tryz.prog 8 (callM [] true hSzLa) := by
  refine callM_sound cx_s_szLayout_ok mixed Tryz.func8 rfl fun args hl K hp => ?_
  unfold hSzLa at hp
  split at hp
  · rename_i a n
    obtain ⟨l, ⟨b1, z1, b2, z2, b3, z3, rfl⟩, ⟨g1, g2, g3, g4, g5⟩, hn0, hn1, hp⟩ := hp
    have hml : maxLen ≤ 9223372036854775807 := by decide
    refine Exists.intro l.pls (And.intro rfl (And.intro g2 (And.intro g1 (And.intro hn0 (And.intro hn1 ?_)))))
    refine And.intro (fun h => ?_) (fun h => ?_)
    · have h := szB_lt (by omega) (of_decide_eq_true h)
      refine fin_i hp ?_
      rw [szB_neg (by simp only [wtLa]; omega)]
    have h := of_decide_eq_false h
    have q1 := szB_pos (szB_ge (by omega) h)
    generalize szB n (wtPlace l.pls) = c1 at *
    refine And.intro (by omega) (And.intro (by omega) (And.intro (by rw [List.length_map]; omega) ?_))
    refine And.intro (fun h => ?_) (fun h => ?_)
    · have h := of_decide_eq_true h
      rw [List.length_map] at h
      have h := szB_lt (by omega) h
      refine fin_i hp ?_
      rw [szB_neg (by simp only [wtLa]; omega)]
    have h := of_decide_eq_false h
    rw [List.length_map] at *
    have q2 := szB_pos (szB_ge (by omega) h)
    generalize szB c1 l.slots.length = c2 at *
    refine Exists.intro l.tgts (And.intro rfl (And.intro g5 (And.intro g4 (And.intro (by omega) (And.intro (by omega) ?_)))))
    refine And.intro (fun h => ?_) (fun h => ?_)
    · have h := szB_lt (by omega) (of_decide_eq_true h)
      refine fin_i hp ?_
      rw [szB_neg (by simp only [wtLa]; omega)]
    have h := of_decide_eq_false h
    have q3 := szB_pos (szB_ge (by omega) h)
    generalize szB c2 (wtTargetS l.tgts) = c3 at *
    refine fin_i hp ?_
    rw [szB_pos (by simp only [wtLa]; omega)]
    simp only [wtLa]
    omega
  · exact hp.elim
def hToLa : CH := fun args hl K => match args, hl with
  | [a], [] => ∃ l, LaV a l ∧ smLa l ∧ K (.agg [.slc 0 0 l.pls.length false, .v (.int .i64 l.stack), .slc 1 0 l.slots.length false, .v (.int .i64 l.flash), .v (.int .i64 l.ram), .slc 2 0 l.tgts.length false]) [.lst 4 (l.pls.map plC), .lst 1 (l.slots.map intC), .lst 1 (l.tgts.map tgsC)]
  | _, _ => False
def cx_s_toLayout : Ctx := mkC [(40, callM [] true hToPlace), (41, callM [] true hToInt), (42, callM [] true hToTargetS)]
theorem cx_s_toLayout_ok : CtxOk Tryz.prog cx_s_toLayout := mkC_ok (mem1 ⟨s_toPlaceS, fnOk Tryz.func40 rfl rfl⟩ (mem1 ⟨s_toIntS, fnOk Tryz.func41 rfl rfl⟩ (mem1 ⟨s_toTargetSS, fnOk Tryz.func42 rfl rfl⟩ mem0)))
set_option maxRecDepth 100000 in
set_option pp.maxSteps 1500 in
set_option maxHeartbeats 4000000 in
theorem s_toLayout : HSound Tryz.prog 11 (callM [] true hToLa) := by
  refine callM_sound cx_s_toLayout_ok mixed Tryz.func11 rfl fun args hl K hp => ?_
  unfold hToLa at hp
  split at hp
  · rename_i a
    obtain ⟨l, ⟨b1, z1, b2, z2, b3, z3, rfl⟩, ⟨g1, g2, _, g3, g4, g5, _⟩, hp⟩ := hp
    refine Exists.intro l.pls (And.intro rfl (And.intro g2 (And.intro g1 ?_)))
    refine Exists.intro l.slots (And.intro rfl (And.intro g3 ?_))
    refine Exists.intro l.tgts (And.intro rfl (And.intro g5 (And.intro g4 ?_)))
    refine And.intro (closed_Place _) ?_
    refine And.intro (closed_Int _) ?_
    refine And.intro (closed_TargetS _) ?_
    exact hp
  · exact hp.elim
theorem sh_tg {n : Nat} (el : List AV) (hs : Sh Tryz.prog (n + 2) 51 el) : ∃ e, el = tgC e ∧ I64 e.mod ∧ I64 e.bank ∧ I64 e.pos := by
  unfold Sh at hs
  simp only [Tryz.underlying51] at hs
  obtain ⟨_, _, rfl, s1, _, _, rfl, s2, _, _, rfl, s3, rfl⟩ := hs
  obtain ⟨a, rfl, ha⟩ := sh_intC _ s1
  obtain ⟨b, rfl, hb⟩ := sh_intC _ s2
  obtain ⟨c, rfl, hc⟩ := sh_intC _ s3
  exact ⟨⟨a, b, c⟩, rfl, ha, hb, hc⟩
structure OkPl (p : Pl) : Prop where
  big : bigPl p
  text : I64 p.text
  banks : ∀ x ∈ p.banks, I64 x
  data : I64 p.data
  size : I64 p.size
theorem sh_pl {n : Nat} (el : List AV) (hs : Sh Tryz.prog (n + 3) 141 el) : ∃ p, el = plC p ∧ OkPl p := by
  unfold Sh at hs
  simp only [Tryz.underlying141] at hs
  obtain ⟨_, _, rfl, s1, _, _, rfl, s2, _, _, rfl, s3, _, _, rfl, s4, rfl⟩ := hs
  obtain ⟨a1, rfl, h1⟩ := sh_intC _ s1
  obtain ⟨a2, rfl, h2, g2⟩ := sh_intS _ s2
  obtain ⟨a3, rfl, h3⟩ := sh_intC _ s3
  obtain ⟨a4, rfl, h4⟩ := sh_intC _ s4
  exact ⟨⟨a1, a2, a3, a4⟩, rfl, ⟨g2, h1, h2, h3, h4⟩⟩
theorem sh_tgs {n : Nat} (el : List AV) (hs : Sh Tryz.prog (n + 3) 143 el) : ∃ b, el = tgsC b ∧ bigTgs b := by
  obtain ⟨bs, rfl, h1, h2⟩ := sh_slice Tryz.underlying143 (show Tryz.prog.cellsOf 51 = 3 by kernel_rfl) sh_tg hs
  exact ⟨bs, rfl, h2⟩
structure OkLa (l : La) : Prop where
  big : bigLa l
  pls : ∀ p ∈ l.pls, OkPl p
  stack : I64 l.stack
  slots : ∀ x ∈ l.slots, I64 x
  flash : I64 l.flash
  ram : I64 l.ram
theorem sh_la {n : Nat} (el : List AV) (hs : Sh Tryz.prog (n + 5) 27 el) : ∃ l, el = [.sl 4 (l.pls.map plC), .v (.int .i64 l.stack), .sl 1 (l.slots.map intC), .v (.int .i64 l.flash), .v (.int .i64 l.ram), .sl 1 (l.tgts.map tgsC)] ∧ OkLa l := by
  unfold Sh at hs
  simp only [Tryz.underlying27] at hs
  obtain ⟨_, _, rfl, s1, _, _, rfl, s2, _, _, rfl, s3, _, _, rfl, s4, _, _, rfl, s5, _, _, rfl, s6, rfl⟩ := hs
  obtain ⟨a1, rfl, h1, g1⟩ := sh_slice Tryz.underlying23 (show Tryz.prog.cellsOf 141 = 4 by kernel_rfl) sh_pl s1
  obtain ⟨a2, rfl, h2⟩ := sh_intC _ s2
  obtain ⟨a3, rfl, h3, g3⟩ := sh_intS _ s3
  obtain ⟨a4, rfl, h4⟩ := sh_intC _ s4
  obtain ⟨a5, rfl, h5⟩ := sh_intC _ s5
  obtain ⟨a6, rfl, h6, g6⟩ := sh_slice Tryz.underlying25 (show Tryz.prog.cellsOf 143 = 1 by kernel_rfl) sh_tgs s6
  exact ⟨⟨a1, a2, a3, a4, a5, a6⟩, rfl, ⟨⟨g1, fun p hp => (h1 p hp).big, g3, g6, h6⟩, h1, h2, h3, h4, h5⟩⟩
theorem arg_la {n : Nat} {c : List AV} {x : AV} (hs : Sh Tryz.prog (n + 5) 27 c) (ha : ArgOf Tryz.prog 27 c x) : ∃ l : La, LaV x l ∧ OkLa l := by
  simp only [ArgOf, Tryz.underlying27] at ha
  obtain ⟨l, rfl, hl⟩ := sh_la _ hs
  exact ⟨l, ⟨_, _, _, _, _, _, ha⟩, hl⟩
end Go.Proofs.YtbfjkjdbdejnmaaGreat.Ab
