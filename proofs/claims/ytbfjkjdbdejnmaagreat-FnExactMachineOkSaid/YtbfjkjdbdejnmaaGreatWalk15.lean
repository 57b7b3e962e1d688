/- Functions walked, part 15. No condition. -/
import Derived.Test.YtbfjkjdbdejnmaaGreatWalk14
import Derived.Test.YtbfjkjdbdejnmaaGreatWalk10
import Derived.Test.YtbfjkjdbdejnmaaGreatWalk13
import Derived.Test.YtbfjkjdbdejnmaaGreatWalk12
set_option linter.unusedVariables false
set_option linter.unusedSimpArgs false
/- Plans of the reference: whether all fit. No condition. -/
namespace Go.Proofs.YtbfjkjdbdejnmaaGreat.Ab
set_option linter.unusedVariables false
set_option linter.unusedSimpArgs false
set_option maxRecDepth 100000

def hFits : CH := fun args hl K => match args, hl with
  | [.imm _ _ 8 L, a], [] => ∃ (ms : List Mo) (l : La), L = ms.map moC ∧ ms.length ≤ 1048576 ∧ (∀ m ∈ ms, smMo m) ∧ LaV a l ∧ smLa l ∧ K (.v (.bool (fitsB ms l))) []
  | _, _ => False
theorem plan_pre {ms : List Mo} {l : La} {i : Nat} {m : Mo} {p : Pl} (hk : Lk ms l) (hm : ms[i]? = some m) (hp : l.pls[i]? = some p) {b s : Int} (hb : -1 ≤ b ∧ b < m.banks.length) (hs : slotB l b s = true) :
    ∃ ws, pieceOf m b = some ws ∧ ws.length ≤ 200 ∧ (b = -1 ∨ (0 ≤ b ∧ (s < 0 → b < p.banks.length) ∧ s < l.slots.length)) ∧ I64 p.data ∧ I64 p.size ∧ I64 l.stack ∧ I64 (originF l p b s) := by
  obtain ⟨kb, kt, kd, ks, kbi⟩ := hk.bk i p m hp hm
  have hps : (pieceOf m b).isSome = true := by rw [piece_some, decide_eq_true_eq]; omega
  obtain ⟨ws, hws⟩ := Option.isSome_iff_exists.1 hps
  have hso : s = -1 ∨ (0 ≤ s ∧ s < l.slots.length) := by
    by_cases h : b = -1 ∨ l.slots.length = 0
    · rw [slotB_one h] at hs
      exact .inl hs
    · rw [slotB_many h] at hs
      exact .inr hs
  refine ⟨ws, hws, piece_len (hk.mo m (List.mem_of_getElem? hm)) hws, ?_, kd, ks, hk.stack, ?_⟩
  · by_cases h1 : b = -1
    · exact .inl h1
    · refine .inr ⟨by omega, fun _ => by omega, ?_⟩
      omega
  · unfold originF
    split
    · exact kt
    · rename_i h1
      split
      · rename_i h2
        obtain ⟨B, rfl⟩ := Int.eq_ofNat_of_zero_le (show 0 ≤ b by omega)
        obtain ⟨x, hx⟩ : ∃ x, p.banks[B]? = some x := ⟨_, List.getElem?_eq_getElem (by omega)⟩
        rw [Int.toNat_natCast, List.getD_eq_getElem?_getD, hx]
        exact kbi x (List.mem_of_getElem? hx)
      · rename_i h2
        obtain ⟨S, rfl⟩ := Int.eq_ofNat_of_zero_le (show 0 ≤ s by omega)
        obtain ⟨x, hx⟩ : ∃ x, l.slots[S]? = some x := ⟨_, List.getElem?_eq_getElem (by omega)⟩
        rw [Int.toNat_natCast, List.getD_eq_getElem?_getD, hx]
        exact hk.sl x (List.mem_of_getElem? hx)
def cx_s_FitsS : Ctx := mkC [(37, callM [] true hReal), (38, callM [] true hPlanS)]
theorem cx_s_FitsS_ok : CtxOk Tryz.prog cx_s_FitsS := mkC_ok (mem1 ⟨s_l5Real, fnOk Tryz.func37 rfl rfl⟩ (mem1 ⟨s_l6Plan, fnOk Tryz.func38 rfl rfl⟩ mem0))
set_option maxRecDepth 100000 in
set_option pp.maxSteps 1500 in
set_option maxHeartbeats 16000000 in
theorem s_FitsS : HSound Tryz.prog 9 (callM [] true hFits) := by
  refine callM_sound cx_s_FitsS_ok mixed Tryz.func9 rfl fun args hl K hp => ?_
  unfold hFits at hp
  split at hp
  · rename_i t z L a
    obtain ⟨ms, l, rfl, hlen, hsm, ⟨b1, z1, b2, z2, b3, z3, rfl⟩, hb, hp⟩ := hp
    refine Exists.intro ms (Exists.intro l (And.intro rfl (And.intro hlen (And.intro hsm (And.intro ⟨_, _, _, _, _, _, rfl⟩ (And.intro hb (And.intro (fun hr => ?_) (fun hr => ?_))))))))
    rotate_left
    · rw [fitsB_f (fun h => hr h.1)] at hp
      refine And.intro (fun h1 => ?_) (fun h1 => ?_)
      · exact hp
      · cases h1
    refine And.intro (fun h1 => ?_) (fun h1 => ?_)
    · cases h1
    have hk : Lk ms l := lk_of hr
    have hp1 : FitP ms l → K (.v (.bool true)) [] := fun h => by rw [fitsB_t hr h] at hp; exact hp
    have hp2 : ¬ FitP ms l → K (.v (.bool false)) [] := fun h => by rw [fitsB_f (fun h' => h h'.2)] at hp; exact hp
    clear hp
    refine Exists.intro true (Exists.intro [0, 3, 5] (Exists.intro (fun n vs h => ∃ i : Nat, i ≤ ms.length ∧ n = ms.length - i ∧ FitN ms l i ∧ vs = [.imm t z 8 (ms.map moC), .ptr 0 0 0 6, .v (.int .i64 i)] ∧ h = [.box (laI l b1 z1 b2 z2 b3 z3)]) (And.intro ?_ ?_)))
    · refine Exists.intro [] ?_
      exact Exists.intro ms.length ⟨0, by omega, rfl, fit_zero _ _, rfl, rfl⟩
    intro n vs h hI
    obtain ⟨i, hi, rfl, hfn, rfl, rfl⟩ := hI
    refine And.intro (fun h1 => ?_) (fun h1 => ?_)
    · have h1 := of_decide_eq_true h1
      rw [List.length_map] at h1
      have hlt : i < ms.length := by omega
      obtain ⟨m, hm⟩ : ∃ m, ms[i]? = some m := ⟨_, List.getElem?_eq_getElem hlt⟩
      obtain ⟨p, hpl⟩ : ∃ p, l.pls[i]? = some p := ⟨_, List.getElem?_eq_getElem (by rw [hk.pls]; omega)⟩
      have hmm := hsm m (List.mem_of_getElem? hm)
      have hbl := (hk.mo m (List.mem_of_getElem? hm)).bl
      have hsl := hk.slots
      obtain ⟨ws, hws, hwl, hbs, id, iz, ist, io⟩ := plan_pre hk hm hpl (b := -1) (s := -1) (by omega) ((slotB_one (Or.inl rfl)).2 rfl)
      refine Exists.intro ms (Exists.intro l (Exists.intro p (Exists.intro m (Exists.intro ws (Exists.intro i (And.intro rfl (And.intro ⟨_, _, _, _, _, _, rfl⟩ (And.intro hmm (And.intro rfl (And.intro hpl (And.intro hm (And.intro hws (And.intro hwl (And.intro hbs (And.intro id (And.intro iz (And.intro ist (And.intro io ?_))))))))))))))))))
      clear hws hwl hbs id iz ist io
      refine And.intro (fun h2 => ?_) (fun h2 => ?_)
      · have h2 := of_decide_eq_true h2
        exact hp2 (fit_bad hm hpl (fitM_bad (b := -1) (s := -1) (by omega) (by omega) ((slotB_one (Or.inl rfl)).2 rfl) (by omega)))
      have h2 := of_decide_eq_false h2
      have hf0 : FitM l p m ((0 : Nat) : Int) := fitM_succ (fitM_start l p m) (fitS_one (Or.inl rfl) (by omega))
      refine Exists.intro true (Exists.intro [0, 3, 5, 6] (Exists.intro (fun n vs h => ∃ k : Nat, k ≤ m.banks.length ∧ n = m.banks.length - k ∧ FitM l p m (k : Int) ∧ vs = [.imm t z 8 (ms.map moC), .ptr 0 0 0 6, .v (.int .i64 i), .v (.int .i64 k)] ∧ h = [.box (laI l b1 z1 b2 z2 b3 z3)]) (And.intro ?_ ?_)))
      · refine Exists.intro [] ?_
        exact Exists.intro m.banks.length ⟨0, by omega, rfl, hf0, rfl, rfl⟩
      intro n vs h hI
      obtain ⟨k, hk1, rfl, hfm, rfl, rfl⟩ := hI
      refine Exists.intro i (And.intro rfl (Exists.intro (moC m) (And.intro (get_map hm) ?_)))
      refine And.intro (fun h3 => ?_) (fun h3 => ?_)
      · have h3 := of_decide_eq_true h3
        rw [List.length_map] at h3
        have hbk : -1 ≤ (k : Int) ∧ (k : Int) < m.banks.length := by omega
        have hnb : ∀ s, slotB l (k : Int) s = true → ¬ (planL l p m (k : Int) s).length ≤ 8 → ¬ FitP ms l := fun s hs h8 => fit_bad hm hpl (fitM_bad hbk.1 hbk.2 hs h8)
        have e0 : (l.slots.map intC).length = l.slots.length := List.length_map _
        have hk1' : (k : Int) ≠ -1 := by omega
        refine And.intro (fun h4 => ?_) (fun h4 => ?_)
        · have h4 : l.slots.length = 0 := by have := eq_of_beq h4; rw [e0] at this; omega
          have hone : ((k : Int) = -1 ∨ l.slots.length = 0) := Or.inr h4
          have hsb : slotB l (k : Int) (-1) = true := (slotB_one hone).2 rfl
          obtain ⟨ws, hws, hwl, hbs, id, iz, ist, io⟩ := plan_pre hk hm hpl hbk hsb
          refine Exists.intro ms (Exists.intro l (Exists.intro p (Exists.intro m (Exists.intro ws (Exists.intro i (And.intro rfl (And.intro ⟨_, _, _, _, _, _, rfl⟩ (And.intro hmm (And.intro rfl (And.intro hpl (And.intro hm (And.intro hws (And.intro hwl (And.intro hbs (And.intro id (And.intro iz (And.intro ist (And.intro io ?_))))))))))))))))))
          clear hws hwl hbs id iz ist io
          repeat' ((first
            | refine And.intro (fun h5 => ?_) (fun h5 => ?_)
            | fail) <;> try first | (cases h5; done))
          · have h5 := of_decide_eq_true h5
            exact hp2 (hnb _ hsb (by omega))
          have h5 := of_decide_eq_false h5
          refine Exists.intro true (Exists.intro [0, 3, 5, 6, 7, 8] (Exists.intro (fun n vs h => ∃ q : Nat, q ≤ l.slots.length ∧ n = l.slots.length - q ∧ (planL l p m (k : Int) (-1)).length ≤ 8 ∧ vs = [.imm t z 8 (ms.map moC), .ptr 0 0 0 6, .v (.int .i64 i), .v (.int .i64 k), .ptr 1 0 0 3, .v (.int .i64 q)] ∧ h = [.box (laI l b1 z1 b2 z2 b3 z3), .box [.v (.int .i64 i), .v (.int .i64 k), .v (.int .i64 0)]]) (And.intro ?_ ?_)))
          · refine Exists.intro [] ?_
            exact Exists.intro l.slots.length ⟨0, by omega, rfl, by omega, rfl, rfl⟩
          intro n vs h hI
          obtain ⟨q, hq1, rfl, hfs, rfl, rfl⟩ := hI
          refine And.intro (fun h7 => ?_) (fun h7 => ?_)
          · have h7 := of_decide_eq_true h7
            rw [e0] at h7
            exfalso
            omega
          · have h7 := of_decide_eq_false h7
            rw [e0] at h7
            have hqe : q = l.slots.length := by omega
            subst hqe
            have hfm2 := fitM_succ hfm (fitS_one hone hfs)
            rw [show (k : Int) + 1 = ((k + 1 : Nat) : Int) by omega] at hfm2
            refine Exists.intro [] (Exists.intro (m.banks.length - (k + 1)) (And.intro (by omega) ⟨k + 1, by omega, rfl, hfm2, ?_, rfl⟩))
            rw [show IntKind.i64.wrap ((k : Int) + 1) = ((k + 1 : Nat) : Int) by rw [wrap64 (by omega)]; omega]
        · have h4 : ¬ l.slots.length = 0 := by have := ne_of_beq_false h4; rw [e0] at this; omega
          have hmany : ¬ ((k : Int) = -1 ∨ l.slots.length = 0) := by omega
          repeat' ((first
            | refine And.intro (fun h5 => ?_) (fun h5 => ?_)
            | fail) <;> try first | (cases h5; done))
          refine Exists.intro true (Exists.intro [0, 3, 5, 6, 7, 8] (Exists.intro (fun n vs h => ∃ q : Nat, q ≤ l.slots.length ∧ n = l.slots.length - q ∧ FitS l p m (k : Int) (q : Int) ∧ vs = [.imm t z 8 (ms.map moC), .ptr 0 0 0 6, .v (.int .i64 i), .v (.int .i64 k), .ptr 1 0 0 3, .v (.int .i64 q)] ∧ h = [.box (laI l b1 z1 b2 z2 b3 z3), .box [.v (.int .i64 i), .v (.int .i64 k), .v (.int .i64 0)]]) (And.intro ?_ ?_)))
          · refine Exists.intro [] ?_
            exact Exists.intro l.slots.length ⟨0, by omega, rfl, fitS_start hmany, rfl, rfl⟩
          intro n vs h hI
          obtain ⟨q, hq1, rfl, hfs, rfl, rfl⟩ := hI
          refine And.intro (fun h7 => ?_) (fun h7 => ?_)
          · have h7 := of_decide_eq_true h7
            rw [e0] at h7
            have hsb : slotB l (k : Int) (q : Int) = true := (slotB_many hmany).2 (by omega)
            obtain ⟨ws, hws, hwl, hbs, id, iz, ist, io⟩ := plan_pre hk hm hpl hbk hsb
            refine Exists.intro ms (Exists.intro l (Exists.intro p (Exists.intro m (Exists.intro ws (Exists.intro i (And.intro rfl (And.intro ⟨_, _, _, _, _, _, rfl⟩ (And.intro hmm (And.intro rfl (And.intro hpl (And.intro hm (And.intro hws (And.intro hwl (And.intro hbs (And.intro id (And.intro iz (And.intro ist (And.intro io ?_))))))))))))))))))
            clear hws hwl hbs id iz ist io
            refine And.intro (fun h8 => ?_) (fun h8 => ?_)
            · have h8 := of_decide_eq_true h8
              exact hp2 (hnb _ hsb (by omega))
            have h8 := of_decide_eq_false h8
            refine Exists.intro [] ?_
            refine Exists.intro (l.slots.length - (q + 1)) (And.intro (by omega) ⟨q + 1, by omega, rfl, fitS_succ hfs (by omega), ?_, rfl⟩)
            rw [show IntKind.i64.wrap ((q : Int) + 1) = ((q + 1 : Nat) : Int) by rw [wrap64 (by omega)]; omega]
          · have h7 := of_decide_eq_false h7
            rw [e0] at h7
            have hqe : q = l.slots.length := by omega
            subst hqe
            have hfm2 := fitM_succ hfm (fitS_all hmany hfs)
            rw [show (k : Int) + 1 = ((k + 1 : Nat) : Int) by omega] at hfm2
            refine Exists.intro [] (Exists.intro (m.banks.length - (k + 1)) (And.intro (by omega) ⟨k + 1, by omega, rfl, hfm2, ?_, rfl⟩))
            rw [show IntKind.i64.wrap ((k : Int) + 1) = ((k + 1 : Nat) : Int) by rw [wrap64 (by omega)]; omega]
      · have h3 := of_decide_eq_false h3
        rw [List.length_map] at h3
        have hke : k = m.banks.length := by omega
        subst hke
        refine Exists.intro [] (Exists.intro (ms.length - (i + 1)) (And.intro (by omega) ⟨i + 1, by omega, rfl, fit_succ hfn hm hpl hfm, ?_, rfl⟩))
        rw [wrap_succ hlt (by omega)]
    · have h1 := of_decide_eq_false h1
      rw [List.length_map] at h1
      have hie : i = ms.length := by omega
      subst hie
      exact hp1 hfn
  · exact hp.elim
end Go.Proofs.YtbfjkjdbdejnmaaGreat.Ab

/- Plans of impl: whether all fit. No condition. -/
namespace Go.Proofs.YtbfjkjdbdejnmaaGreat.Ab
set_option linter.unusedVariables false
set_option linter.unusedSimpArgs false
set_option maxRecDepth 100000

def hFitsI : CH := fun args hl K => match args, hl with
  | [.imm _ _ 8 L, a], [] => ∃ (ms : List Mo) (l : La), L = ms.map moC ∧ (∀ m ∈ ms, smMo m) ∧ LaV a l ∧ Lk ms l ∧ (FitP ms l → K (.v (.bool true)) []) ∧ (¬ FitP ms l → K (.v (.bool false)) [])
  | _, _ => False
theorem planF_y {ms : List Mo} {l : La} {I : Nat} {b s : Int} {m : Mo} {p : Pl} {rs : List Rg} (hm : ms[I]? = some m) (hp : l.pls[I]? = some p) (h : planF ms l I b s = some rs) : (planL l p m b s).length ≤ 8 := by
  rw [planF_at hm hp] at h
  split at h
  · rename_i q
    simp only [Bool.and_eq_true, decide_eq_true_eq] at q
    exact q.2
  · cases h
theorem planF_n {ms : List Mo} {l : La} {I : Nat} {b s : Int} {m : Mo} {p : Pl} (hm : ms[I]? = some m) (hp : l.pls[I]? = some p) (hb : -1 ≤ b ∧ b < m.banks.length) (hs : slotB l b s = true) (h : planF ms l I b s = none) : ¬ (planL l p m b s).length ≤ 8 := by
  rw [planF_at hm hp] at h
  split at h
  · cases h
  · rename_i q
    intro h8
    apply q
    rw [piece_some, hs]
    simp [h8, hb]
def cx_s_fits : Ctx := mkC [(65, callM [] true hPlanI)]
theorem cx_s_fits_ok : CtxOk Tryz.prog cx_s_fits := mkC_ok (mem1 ⟨s_plan, fnOk Tryz.func65 rfl rfl⟩ mem0)
set_option maxRecDepth 100000 in
set_option pp.maxSteps 1500 in
set_option maxHeartbeats 16000000 in
theorem s_fits : HSound Tryz.prog 44 (callM [] true hFitsI) := by
  refine callM_sound cx_s_fits_ok mixed Tryz.func44 rfl fun args hl K hp => ?_
  unfold hFitsI at hp
  split at hp
  · rename_i t z L a
    obtain ⟨ms, l, rfl, hsm, ⟨b1, z1, b2, z2, b3, z3, rfl⟩, hk, hp1, hp2⟩ := hp
    refine Exists.intro true (Exists.intro [0, 3, 13, 14] (Exists.intro (fun n vs h => ∃ i : Nat, i ≤ ms.length ∧ n = ms.length - i ∧ FitN ms l i ∧ vs = [.imm t z 8 (ms.map moC), .ptr 0 0 0 6, .v (.int .i64 ms.length), .v (.int .i64 i)] ∧ h = [.box (laI l b1 z1 b2 z2 b3 z3)]) (And.intro ?_ ?_)))
    · refine Exists.intro [] ?_
      refine Exists.intro ms.length ⟨0, by omega, rfl, fit_zero _ _, ?_, rfl⟩
      rw [List.length_map]
      rfl
    intro n vs h hI
    obtain ⟨i, hi, rfl, hfn, rfl, rfl⟩ := hI
    refine And.intro (fun h1 => ?_) (fun h1 => ?_)
    · have h1 := of_decide_eq_true h1
      have hlt : i < ms.length := by omega
      obtain ⟨m, hm⟩ : ∃ m, ms[i]? = some m := ⟨_, List.getElem?_eq_getElem hlt⟩
      obtain ⟨p, hpl⟩ : ∃ p, l.pls[i]? = some p := ⟨_, List.getElem?_eq_getElem (by rw [hk.pls]; omega)⟩
      have hgm := hk.mo m (List.mem_of_getElem? hm)
      have hbl := hgm.bl
      have hsl := hk.slots
      have hln := hk.len
      have hw0 : (-1 : Int) = ((0 : Nat) : Int) - 1 := by omega
      refine Exists.intro true (Exists.intro [0, 3, 5, 6, 13, 14] (Exists.intro (fun n vs h => ∃ k : Nat, k ≤ m.banks.length + 1 ∧ n = m.banks.length + 1 - k ∧ FitM l p m ((k : Int) - 1) ∧ vs = [.imm t z 8 (ms.map moC), .ptr 0 0 0 6, .v (.int .i64 i), .v (.int .i64 ((k : Int) - 1)), .v (.int .i64 ms.length), .v (.int .i64 i)] ∧ h = [.box (laI l b1 z1 b2 z2 b3 z3)]) (And.intro ?_ ?_)))
      · refine Exists.intro [] ?_
        exact Exists.intro (m.banks.length + 1) ⟨0, by omega, rfl, fitM_start _ _ _, rfl, rfl⟩
      intro n vs h hI
      obtain ⟨k, hk1, rfl, hfm, rfl, rfl⟩ := hI
      refine Exists.intro i (And.intro rfl (Exists.intro (moC m) (And.intro (get_map hm) ?_)))
      have hwk : IntKind.i64.wrap ((k : Int) - 1 + 1) = ((k + 1 : Nat) : Int) - 1 := by rw [wrap64 (by omega)]; omega
      refine And.intro (fun h2 => ?_) (fun h2 => ?_)
      · have h2 := of_decide_eq_true h2
        rw [List.length_map] at h2
        have hbk : -1 ≤ (k : Int) - 1 ∧ (k : Int) - 1 < m.banks.length := by omega
        have hnb : ∀ s, slotB l ((k : Int) - 1) s = true → ¬ (planL l p m ((k : Int) - 1) s).length ≤ 8 → ¬ FitP ms l := fun s hs h8 => fit_bad hm hpl (fitM_bad hbk.1 hbk.2 hs h8)
        have e0 : (l.slots.map intC).length = l.slots.length := List.length_map _
        repeat' ((first
          | refine And.intro (fun h5 => ?_) (fun h5 => ?_)
          | fail) <;> try first | (cases h5; done))
        · rename_i h6 _
          have h6 := of_decide_eq_true h6
          have h5 := of_decide_eq_true h5
          rw [e0] at h5
          have hmany : ¬ ((k : Int) - 1 = -1 ∨ l.slots.length = 0) := by omega
          have hw1 : IntKind.i64.wrap (((l.slots.map intC).length : Int) - 1) = (l.slots.length : Int) - 1 := by rw [e0]; exact wrap64 (by omega)
          refine And.intro (show Region.lexB _ _ = true from by kernel_rfl) ?_
          refine Exists.intro true (Exists.intro [0, 3, 5, 6, 8, 9, 13, 14] (Exists.intro (fun n vs h => ∃ q : Nat, q ≤ l.slots.length ∧ n = l.slots.length - q ∧ FitS l p m ((k : Int) - 1) (q : Int) ∧ vs = [.imm t z 8 (ms.map moC), .ptr 0 0 0 6, .v (.int .i64 i), .v (.int .i64 ((k : Int) - 1)), .v (.int .i64 ((l.slots.length : Int) - 1)), .v (.int .i64 (q : Int)), .v (.int .i64 ms.length), .v (.int .i64 i)] ∧ h = [.box (laI l b1 z1 b2 z2 b3 z3)]) (And.intro ?_ ?_)))
          · refine Exists.intro [] ?_
            refine Exists.intro l.slots.length ⟨0, by omega, rfl, fitS_start hmany, ?_, rfl⟩
            rw [hw1]
            rfl
          intro n vs h hI
          obtain ⟨q, hq1, rfl, hfs, rfl, rfl⟩ := hI
          refine And.intro (fun h7 => ?_) (fun h7 => ?_)
          · have h7 := of_decide_eq_true h7
            have hsb : slotB l ((k : Int) - 1) (q : Int) = true := (slotB_many hmany).2 (by omega)
            refine Exists.intro ms (Exists.intro l (And.intro rfl (And.intro hsm (And.intro ⟨_, _, _, _, _, _, rfl⟩ (And.intro hk (And.intro (fun rs hrs => ?_) (fun hno => ?_)))))))
            · refine And.intro (fun h8 => ?_) (fun h8 => ?_)
              · cases h8
              refine Exists.intro [] ?_
              refine Exists.intro (l.slots.length - (q + 1)) (And.intro (by omega) ⟨q + 1, by omega, rfl, fitS_succ hfs (planF_y hm hpl hrs), ?_, rfl⟩)
              rw [show IntKind.i64.wrap ((q : Int) + 1) = ((q + 1 : Nat) : Int) by rw [wrap64 (by omega)]; omega]
            · refine And.intro (fun h8 => ?_) (fun h8 => ?_)
              · exact hp2 (hnb _ hsb (planF_n hm hpl hbk hsb hno))
              · cases h8
          · have h7 := of_decide_eq_false h7
            have hqe : q = l.slots.length := by omega
            subst hqe
            have hfm2 := fitM_succ hfm (fitS_all hmany hfs)
            rw [show (k : Int) - 1 + 1 = ((k + 1 : Nat) : Int) - 1 by omega] at hfm2
            refine Exists.intro [] (Exists.intro (m.banks.length + 1 - (k + 1)) (And.intro (by omega) ⟨k + 1, by omega, rfl, hfm2, ?_, rfl⟩))
            rw [hwk]
        all_goals have hone : ((k : Int) - 1 = -1 ∨ l.slots.length = 0) := by first | (have h5 := of_decide_eq_false h5; rw [e0] at h5; omega) | (have h5 := of_decide_eq_false (by assumption : decide ((k : Int) - 1 ≥ 0) = false); omega)
        all_goals refine Exists.intro true (Exists.intro [0, 3, 5, 6, 8, 9, 13, 14] (Exists.intro (fun n vs h => ∃ q : Nat, q ≤ 1 ∧ n = 1 - q ∧ FitS l p m ((k : Int) - 1) ((q : Int) - 1) ∧ vs = [.imm t z 8 (ms.map moC), .ptr 0 0 0 6, .v (.int .i64 i), .v (.int .i64 ((k : Int) - 1)), .v (.int .i64 (-1)), .v (.int .i64 ((q : Int) - 1)), .v (.int .i64 ms.length), .v (.int .i64 i)] ∧ h = [.box (laI l b1 z1 b2 z2 b3 z3)]) (And.intro ?_ ?_)))
        · refine Exists.intro [] ?_
          exact Exists.intro 1 ⟨0, by omega, rfl, fitS_start1 hone, rfl, rfl⟩
        rotate_left
        · refine Exists.intro [] ?_
          exact Exists.intro 1 ⟨0, by omega, rfl, fitS_start1 hone, rfl, rfl⟩
        all_goals intro n vs h hI
        all_goals obtain ⟨q, hq1, rfl, hfs, rfl, rfl⟩ := hI
        all_goals refine And.intro (fun h7 => ?_) (fun h7 => ?_)
        · have h7 := of_decide_eq_true h7
          have hq0 : q = 0 := by omega
          subst hq0
          have hsb : slotB l ((k : Int) - 1) (((0 : Nat) : Int) - 1) = true := (slotB_one hone).2 (by omega)
          refine Exists.intro ms (Exists.intro l (And.intro rfl (And.intro hsm (And.intro ⟨_, _, _, _, _, _, rfl⟩ (And.intro hk (And.intro (fun rs hrs => ?_) (fun hno => ?_)))))))
          · refine And.intro (fun h8 => ?_) (fun h8 => ?_)
            · cases h8
            refine Exists.intro [] ?_
            refine Exists.intro 0 (And.intro (by omega) ⟨1, by omega, rfl, ?_, rfl, rfl⟩)
            exact fitS_succ hfs (planF_y hm hpl hrs)
          · refine And.intro (fun h8 => ?_) (fun h8 => ?_)
            · exact hp2 (hnb _ hsb (planF_n hm hpl hbk hsb hno))
            · cases h8
        · have h7 := of_decide_eq_false h7
          have hqe : q = 1 := by omega
          subst hqe
          have hfm2 := fitM_succ hfm (fitS_one hone (hfs (-1) (by omega) ((slotB_one hone).2 rfl)))
          rw [show (k : Int) - 1 + 1 = ((k + 1 : Nat) : Int) - 1 by omega] at hfm2
          refine Exists.intro [] (Exists.intro (m.banks.length + 1 - (k + 1)) (And.intro (by omega) ⟨k + 1, by omega, rfl, hfm2, ?_, rfl⟩))
          rw [hwk]
        · have h7 := of_decide_eq_true h7
          have hq0 : q = 0 := by omega
          subst hq0
          have hsb : slotB l ((k : Int) - 1) (((0 : Nat) : Int) - 1) = true := (slotB_one hone).2 (by omega)
          refine Exists.intro ms (Exists.intro l (And.intro rfl (And.intro hsm (And.intro ⟨_, _, _, _, _, _, rfl⟩ (And.intro hk (And.intro (fun rs hrs => ?_) (fun hno => ?_)))))))
          · refine And.intro (fun h8 => ?_) (fun h8 => ?_)
            · cases h8
            refine Exists.intro [] ?_
            refine Exists.intro 0 (And.intro (by omega) ⟨1, by omega, rfl, ?_, rfl, rfl⟩)
            exact fitS_succ hfs (planF_y hm hpl hrs)
          · refine And.intro (fun h8 => ?_) (fun h8 => ?_)
            · exact hp2 (hnb _ hsb (planF_n hm hpl hbk hsb hno))
            · cases h8
        · have h7 := of_decide_eq_false h7
          have hqe : q = 1 := by omega
          subst hqe
          have hfm2 := fitM_succ hfm (fitS_one hone (hfs (-1) (by omega) ((slotB_one hone).2 rfl)))
          rw [show (k : Int) - 1 + 1 = ((k + 1 : Nat) : Int) - 1 by omega] at hfm2
          refine Exists.intro [] (Exists.intro (m.banks.length + 1 - (k + 1)) (And.intro (by omega) ⟨k + 1, by omega, rfl, hfm2, ?_, rfl⟩))
          rw [hwk]
      · have h2 := of_decide_eq_false h2
        rw [List.length_map] at h2
        have hke : k = m.banks.length + 1 := by omega
        subst hke
        have hfm' : FitM l p m m.banks.length := by
          rw [show ((m.banks.length + 1 : Nat) : Int) - 1 = m.banks.length by omega] at hfm
          exact hfm
        refine Exists.intro [] (Exists.intro (ms.length - (i + 1)) (And.intro (by omega) ⟨i + 1, by omega, rfl, fit_succ hfn hm hpl hfm', ?_, rfl⟩))
        rw [wrap_succ hlt (by omega)]
    · have h1 := of_decide_eq_false h1
      have hie : i = ms.length := by omega
      subst hie
      exact hp1 hfn
  · exact hp.elim
end Go.Proofs.YtbfjkjdbdejnmaaGreat.Ab

/- Plans of impl: Fits, Plan. No condition. -/
namespace Go.Proofs.YtbfjkjdbdejnmaaGreat.Ab
set_option linter.unusedVariables false
set_option linter.unusedSimpArgs false
set_option maxRecDepth 100000

end Go.Proofs.YtbfjkjdbdejnmaaGreat.Ab

/- Plans of the reference: Plan. No condition. -/
namespace Go.Proofs.YtbfjkjdbdejnmaaGreat.Ab
set_option linter.unusedVariables false
set_option linter.unusedSimpArgs false
set_option maxRecDepth 100000

def thereB (ms : List Mo) (i b : Int) : Bool := decide (0 ≤ i) && match ms[i.toNat]? with | some m => (pieceOf m b).isSome | none => false
def hThere : CH := fun args hl K => match args, hl with
  | [.imm _ _ 8 L, .v (.int .i64 i), .v (.int .i64 b)], [] => ∃ ms : List Mo, L = ms.map moC ∧ (∀ m ∈ ms, smMo m) ∧ K (.v (.bool (thereB ms i b))) []
  | _, _ => False
theorem there_out {ms : List Mo} {i b : Int} (h : ¬ (0 ≤ i ∧ i < ms.length)) : thereB ms i b = false := by
  unfold thereB
  by_cases h0 : 0 ≤ i
  · rw [List.getElem?_eq_none (by omega)]
    simp
  · simp [h0]
theorem there_at {ms : List Mo} {I : Nat} {b : Int} {m : Mo} (hm : ms[I]? = some m) : thereB ms I b = (pieceOf m b).isSome := by
  unfold thereB
  rw [Int.toNat_natCast, hm]
  simp
def cx_s_l6There : Ctx := mkC [(91, callM [] false hPiece)]
theorem cx_s_l6There_ok : CtxOk Tryz.prog cx_s_l6There := mkC_ok (mem1 ⟨s_l4Piece, fnOk Tryz.func91 rfl rfl⟩ mem0)
set_option maxRecDepth 100000 in
set_option pp.maxSteps 1500 in
set_option maxHeartbeats 4000000 in
theorem s_l6There : HSound Tryz.prog 64 (callM [] true hThere) := by
  refine callM_sound cx_s_l6There_ok mixed Tryz.func64 rfl fun args hl K hp => ?_
  unfold hThere at hp
  split at hp
  · rename_i t z L i b
    obtain ⟨ms, rfl, hsm, hp⟩ := hp
    by_cases hi : 0 ≤ i ∧ i < ms.length
    rotate_left
    · rw [there_out hi] at hp
      repeat' ((first
        | refine And.intro (fun h1 => ?_) (fun h1 => ?_)
        | fail) <;> try first | (cases h1; done))
      all_goals first
        | exact hp
        | (exfalso; simp only [List.length_map, decide_eq_false_iff_not, decide_eq_true_eq, ge_iff_le] at *; omega)
    obtain ⟨I, rfl⟩ := Int.eq_ofNat_of_zero_le hi.1
    obtain ⟨m, hm⟩ : ∃ m, ms[I]? = some m := ⟨_, List.getElem?_eq_getElem (by omega)⟩
    have hmm := hsm m (List.mem_of_getElem? hm)
    rw [there_at hm] at hp
    have hnI : decide ((I : Int) < 0) = false := decide_eq_false (by omega)
    have hnL : decide ((I : Int) ≥ ((ms.map moC).length : Int)) = false := decide_eq_false (by rw [List.length_map]; omega)
    refine And.intro (fun h1 => absurd (hnI.symm.trans h1) Bool.false_ne_true) (fun h1 => ?_)
    refine And.intro (fun h2 => Bool.noConfusion h2) (fun h2 => ?_)
    refine And.intro (fun h3 => absurd (hnL.symm.trans h3) Bool.false_ne_true) (fun h3 => ?_)
    refine Exists.intro I (And.intro rfl (Exists.intro (moC m) (And.intro (get_map hm) ?_)))
    refine Exists.intro m (And.intro ⟨_, _, _, _, _, _, _, _, _, _, _, _, rfl⟩ (And.intro hmm ?_))
    cases hpc : pieceOf m b with
    | none =>
      rw [hpc] at hp
      exact hp
    | some ws =>
      rw [hpc] at hp
      intro t' z'
      exact hp
  · exact hp.elim
end Go.Proofs.YtbfjkjdbdejnmaaGreat.Ab

/- Machines that are valid: in plain words. No condition. -/
namespace Go.Proofs.YtbfjkjdbdejnmaaGreat.Ab
set_option linter.unusedVariables false
set_option linter.unusedSimpArgs false

def holdP (m b : Int) (s : Sl) : Bool := s.used && decide (s.mod = m) && decide (s.bank = b)
def holdsF (ss : List Sl) (m b : Int) : Int := match ss.findIdx? (holdP m b) with | some i => (i : Int) | none => -1
theorem holds_at {ss : List Sl} {m b : Int} {i : Nat} {s : Sl} (hs : ss[i]? = some s) (h : holdP m b s = true) (hno : ∀ j s', j < i → ss[j]? = some s' → holdP m b s' = false) : holdsF ss m b = i := by
  have : ss.findIdx? (holdP m b) = some i := by
    rw [List.findIdx?_eq_some_iff_getElem]
    obtain ⟨hi, he⟩ := List.getElem?_eq_some_iff.1 hs
    refine ⟨hi, by rw [he]; exact h, fun j hj => ?_⟩
    have := hno j ss[j] hj (List.getElem?_eq_getElem (by omega))
    simp [this]
  rw [holdsF, this]
theorem holds_none {ss : List Sl} {m b : Int} (hno : ∀ j s', j < ss.length → ss[j]? = some s' → holdP m b s' = false) : holdsF ss m b = -1 := by
  have : ss.findIdx? (holdP m b) = none := by
    rw [List.findIdx?_eq_none_iff]
    intro x hx
    obtain ⟨j, hj, rfl⟩ := List.mem_iff_getElem.1 hx
    exact hno j _ hj (List.getElem?_eq_getElem hj)
  rw [holdsF, this]
def clashB (s o : Sl) : Bool := o.used && (decide (o.turn = s.turn) || (decide (o.mod = s.mod) && decide (o.bank = s.bank)))
def slotOkB (ms : List Mo) (ss : List Sl) (T : Int) (i : Nat) : Bool := match ss[i]? with
  | some s => if s.used then thereB ms s.mod s.bank && decide (0 ≤ s.bank ∧ 1 ≤ s.turn ∧ s.turn ≤ T) && (ss.take i).all (fun o => !clashB s o) else decide (s.mod = 0 ∧ s.bank = 0 ∧ s.turn = 0)
  | none => true
def bankW (ms : List Mo) (m b : Int) : List Int := match ms[m.toNat]? with | some x => x.banks.getD b.toNat [] | none => []
def slotBy (ms : List Mo) (w m b : Int) : List Int := pourN (List.replicate (rup (4 * w.toNat)) 0) 0 (bankW ms m b) (bankW ms m b).length
def ramAt (r : List Int) (a : Int) (n : Nat) : List Int := (r.drop (a - 65536).toNat).take n
def slotIn (m : Mc) (l : La) (i : Nat) : Bool := match m.slots[i]? with
  | some s => !s.used || decide (ramAt m.r (l.slots.getD i 0) (rup (4 * m.cfg.words.toNat)) = slotBy m.mods m.cfg.words s.mod s.bank)
  | none => true
def slotsB (m : Mc) (l : La) : Bool := decide ((m.slots.length : Int) = m.cfg.slots) && (List.range m.slots.length).all (fun i => slotOkB m.mods m.slots m.turn i && slotIn m l i) && (decide (m.slots.length = 0 ∨ m.bank = -1) || decide (0 ≤ holdsF m.slots m.mod m.bank))
def frameB (ms : List Mo) (f : Fr) : Bool := thereB ms f.mod f.bank && decide (0 ≤ f.base ∧ f.base ≤ 4294967295 ∧ 0 ≤ f.pos ∧ f.pos ≤ match ms[f.mod.toNat]? with | some x => pieceLen x f.bank | none => 0)
def framesB (m : Mc) : Bool := decide ((m.shadow.length : Int) ≤ m.cfg.depth) && m.shadow.all (frameB m.mods)
/-- The layout of a machine's modules. -/
def layM (m : Mc) : La := linkL m.mods m.cfg
open Classical in
noncomputable def mcOk (m : Mc) : Bool := decide (linkC m.mods m.cfg = 0) && fitsB m.mods (layM m) && coreOk m.pc m.regs && memOk m.f.length m.r.length m.o.length && decide (flashN m.mods (layM m) m.mods.length = m.f) && decide ((m.r.length : Int) = (layM m).ram) &&
  decide (0 ≤ m.turn ∧ m.turn ≤ 1000000000) && thereB m.mods m.mod m.bank && slotsB m (layM m) && framesB m
end Go.Proofs.YtbfjkjdbdejnmaaGreat.Ab

/- Machines: bytes compared, banks found. No condition. -/
namespace Go.Proofs.YtbfjkjdbdejnmaaGreat.Ab
set_option linter.unusedVariables false
set_option linter.unusedSimpArgs false
set_option maxRecDepth 100000

def hEqByt : CH := fun args hl K => match args, hl with
  | [.imm _ _ 1 l, .imm _ _ 1 r], [] => ∃ xs ys : List Int, l = xs.map byteC ∧ r = ys.map byteC ∧ xs.length ≤ 1048576 ∧ K (.v (.bool (decide (xs = ys)))) []
  | _, _ => False
def cx_s_EqualByt : Ctx := mkC []
theorem cx_s_EqualByt_ok : CtxOk Tryz.prog cx_s_EqualByt := cx0_ok
set_option maxRecDepth 100000 in
set_option pp.maxSteps 1500 in
theorem s_EqualByt : HSound Tryz.prog 188 (callM [] true hEqByt) := by
  refine callM_sound cx_s_EqualByt_ok mixed Tryz.func188 rfl fun args hl K hp => ?_
  unfold hEqByt at hp
  split at hp
  · rename_i t z l t' z' r
    obtain ⟨xs, ys, rfl, rfl, ha, hp⟩ := hp
    have hp1 : xs = ys → K (.v (.bool true)) [] := fun h => by rw [decide_eq_true h] at hp; exact hp
    have hp2 : xs ≠ ys → K (.v (.bool false)) [] := fun h => by rw [decide_eq_false h] at hp; exact hp
    clear hp
    refine And.intro (fun h1 => ?_) (fun h1 => ?_)
    · exact hp2 (by rintro rfl; simp at h1)
    have hlen : xs.length = ys.length := by simp at h1; omega
    clear h1
    refine Exists.intro false (Exists.intro [0, 1, 12, 13] (Exists.intro (fun m vs h => ∃ i : Nat, i ≤ xs.length ∧ m = xs.length - i ∧ xs.take i = ys.take i ∧ vs = [.imm t z 1 (xs.map byteC), .imm t' z' 1 (ys.map byteC), .v (.int .i64 xs.length), .v (.int .i64 i)] ∧ h = []) (And.intro ?_ ?_)))
    · refine Exists.intro xs.length ?_
      exact ⟨0, by omega, rfl, rfl, by rw [List.length_map]; rfl, rfl⟩
    · intro m vs h hI
      obtain ⟨i, hi, rfl, htk, rfl, rfl⟩ := hI
      refine And.intro (fun h1 => ?_) (fun h1 => ?_)
      · have h1 := of_decide_eq_true h1
        have hlt : i < xs.length := by omega
        obtain ⟨a, hai⟩ : ∃ a, xs[i]? = some a := ⟨_, List.getElem?_eq_getElem hlt⟩
        obtain ⟨b, hbi⟩ : ∃ b, ys[i]? = some b := ⟨_, List.getElem?_eq_getElem (by omega)⟩
        refine And.intro (show Region.lexB _ _ = true from by kernel_rfl) ?_
        refine Exists.intro i (And.intro rfl (Exists.intro (byteC a) (And.intro (get_map hai) ?_)))
        refine Exists.intro i (And.intro rfl (Exists.intro (byteC b) (And.intro (get_map hbi) ?_)))
        refine And.intro (fun h2 => ?_) (fun h2 => ?_)
        · exact hp2 (ne_at hai hbi (by simpa using h2))
        · have hab : a = b := by simpa using h2
          subst hab
          refine Exists.intro (xs.length - (i + 1)) (And.intro (by omega) ⟨i + 1, by omega, rfl, take_stepG htk hai hbi, ?_, rfl⟩)
          rw [wrap_succ hlt (by omega)]
      · have h1 := of_decide_eq_false h1
        exact hp1 (take_end htk hlen (by omega))
  · exact hp.elim
def cx_s_l7Bytes : Ctx := mkC []
theorem cx_s_l7Bytes_ok : CtxOk Tryz.prog cx_s_l7Bytes := cx0_ok
set_option maxRecDepth 100000 in
set_option pp.maxSteps 1500 in
theorem s_l7Bytes : HSound Tryz.prog 122 (callM [] true hEqByt) := by
  refine callM_sound cx_s_l7Bytes_ok mixed Tryz.func122 rfl fun args hl K hp => ?_
  unfold hEqByt at hp
  split at hp
  · rename_i t z l t' z' r
    obtain ⟨xs, ys, rfl, rfl, ha, hp⟩ := hp
    have hp1 : xs = ys → K (.v (.bool true)) [] := fun h => by rw [decide_eq_true h] at hp; exact hp
    have hp2 : xs ≠ ys → K (.v (.bool false)) [] := fun h => by rw [decide_eq_false h] at hp; exact hp
    clear hp
    refine And.intro (fun h1 => ?_) (fun h1 => ?_)
    · exact hp2 (by rintro rfl; simp at h1)
    have hlen : xs.length = ys.length := by simp at h1; omega
    clear h1
    refine Exists.intro false (Exists.intro [0, 1, 5] (Exists.intro (fun m vs h => ∃ i : Nat, i ≤ xs.length ∧ m = xs.length - i ∧ xs.take i = ys.take i ∧ vs = [.imm t z 1 (xs.map byteC), .imm t' z' 1 (ys.map byteC), .v (.int .i64 i)] ∧ h = []) (And.intro ?_ ?_)))
    · refine Exists.intro xs.length ?_
      exact ⟨0, by omega, rfl, rfl, rfl, rfl⟩
    · intro m vs h hI
      obtain ⟨i, hi, rfl, htk, rfl, rfl⟩ := hI
      refine And.intro (fun h1 => ?_) (fun h1 => ?_)
      · have h1 := of_decide_eq_true h1
        rw [List.length_map] at h1
        have hlt : i < xs.length := by omega
        obtain ⟨a, hai⟩ : ∃ a, xs[i]? = some a := ⟨_, List.getElem?_eq_getElem hlt⟩
        obtain ⟨b, hbi⟩ : ∃ b, ys[i]? = some b := ⟨_, List.getElem?_eq_getElem (by omega)⟩
        refine And.intro (show Region.lexB _ _ = true from by kernel_rfl) ?_
        refine Exists.intro i (And.intro rfl (Exists.intro (byteC a) (And.intro (get_map hai) ?_)))
        refine Exists.intro i (And.intro rfl (Exists.intro (byteC b) (And.intro (get_map hbi) ?_)))
        refine And.intro (fun h2 => ?_) (fun h2 => ?_)
        · exact hp2 (ne_at hai hbi (by simpa using h2))
        · have hab : a = b := by simpa using h2
          subst hab
          refine Exists.intro (xs.length - (i + 1)) (And.intro (by omega) ⟨i + 1, by omega, rfl, take_stepG htk hai hbi, ?_, rfl⟩)
          rw [wrap_succ hlt (by omega)]
      · have h1 := of_decide_eq_false h1
        rw [List.length_map] at h1
        exact hp1 (take_end htk hlen (by omega))
  · exact hp.elim
def hHolds : CH := fun args hl K => match args, hl with
  | [.imm _ _ 4 L, .v (.int .i64 m), .v (.int .i64 b)], [] => ∃ ss : List Sl, L = ss.map slC ∧ ss.length ≤ 1048576 ∧ K (.v (.int .i64 (holdsF ss m b))) []
  | _, _ => False
def cx_s_l7Holds : Ctx := mkC []
theorem cx_s_l7Holds_ok : CtxOk Tryz.prog cx_s_l7Holds := cx0_ok
set_option maxRecDepth 100000 in
set_option pp.maxSteps 1500 in
set_option maxHeartbeats 4000000 in
theorem s_l7Holds : HSound Tryz.prog 161 (callM [] true hHolds) := by
  refine callM_sound cx_s_l7Holds_ok mixed Tryz.func161 rfl fun args hl K hp => ?_
  unfold hHolds at hp
  split at hp
  · rename_i t z L m b
    obtain ⟨ss, rfl, hlen, hp⟩ := hp
    refine Exists.intro false (Exists.intro [0, 1, 2, 7] (Exists.intro (fun n vs h => ∃ i : Nat, i ≤ ss.length ∧ n = ss.length - i ∧ (∀ j s, j < i → ss[j]? = some s → holdP m b s = false) ∧ vs = [.imm t z 4 (ss.map slC), .v (.int .i64 m), .v (.int .i64 b), .v (.int .i64 i)] ∧ h = []) (And.intro ?_ ?_)))
    · refine Exists.intro ss.length ?_
      exact ⟨0, by omega, rfl, fun j s h => absurd h (Nat.not_lt_zero _), rfl, rfl⟩
    intro n vs h hI
    obtain ⟨i, hi, rfl, hno, rfl, rfl⟩ := hI
    refine And.intro (fun h1 => ?_) (fun h1 => ?_)
    · have h1 := of_decide_eq_true h1
      rw [List.length_map] at h1
      have hlt : i < ss.length := by omega
      obtain ⟨s, hs⟩ : ∃ s, ss[i]? = some s := ⟨_, List.getElem?_eq_getElem hlt⟩
      have hyes : holdP m b s = true → holdsF ss m b = i := fun h => holds_at hs h hno
      have hnext : holdP m b s = false → ∀ j s', j < i + 1 → ss[j]? = some s' → holdP m b s' = false := fun h j s' hj hs' => by
        rcases Nat.lt_or_ge j i with r | r
        · exact hno j s' r hs'
        · have : j = i := by omega
          subst this
          rw [hs] at hs'
          cases hs'
          exact h
      repeat' ((first
        | refine Exists.intro i (And.intro rfl (Exists.intro (slC s) (And.intro (get_map hs) ?_)))
        | refine And.intro (fun h5 => ?_) (fun h5 => ?_)
        | fail) <;> try first | (cases h5; done))
      · rename_i u1 _ u2 _
        rw [hyes (by simp only [holdP, u1, eq_of_beq u2, eq_of_beq h5, decide_true, Bool.and_self])] at hp
        exact hp
      all_goals have hF : holdP m b s = false := by (clear hyes hnext hno hp; simp only [holdP]; simp_all)
      all_goals refine Exists.intro (ss.length - (i + 1)) (And.intro (by omega) ⟨i + 1, by omega, rfl, hnext hF, ?_, rfl⟩)
      all_goals rw [wrap_succ hlt (by omega)]
    · have h1 := of_decide_eq_false h1
      rw [List.length_map] at h1
      have hie : i = ss.length := by omega
      subst hie
      rw [holds_none hno] at hp
      exact hp
  · exact hp.elim
end Go.Proofs.YtbfjkjdbdejnmaaGreat.Ab

/- Machines of the reference: slots and frames. No condition. -/
namespace Go.Proofs.YtbfjkjdbdejnmaaGreat.Ab
set_option linter.unusedVariables false
set_option linter.unusedSimpArgs false
set_option maxRecDepth 100000

def hSlotOk : CH := fun args hl K => match args, hl with
  | [a, .v (.int .i64 i)], [] => ∃ (m : Mc) (I : Nat), McV a m ∧ smMc m ∧ i = I ∧ I < m.slots.length ∧ K (.v (.bool (slotOkB m.mods m.slots m.turn I))) []
  | _, _ => False
def cx_s_l7SlotOk : Ctx := mkC [(64, callM [] true hThere)]
theorem cx_s_l7SlotOk_ok : CtxOk Tryz.prog cx_s_l7SlotOk := mkC_ok (mem1 ⟨s_l6There, fnOk Tryz.func64 rfl rfl⟩ mem0)
set_option maxRecDepth 100000 in
set_option pp.maxSteps 1500 in
set_option maxHeartbeats 8000000 in
theorem s_l7SlotOk : HSound Tryz.prog 159 (callM [] true hSlotOk) := by
  refine callM_sound cx_s_l7SlotOk_ok mixed Tryz.func159 rfl fun args hl K hp => ?_
  unfold hSlotOk at hp
  split at hp
  · rename_i a i
    obtain ⟨m, I, ⟨b1, z1, b2, z2, b3, z3, b4, z4, b5, z5, b6, z6, b7, z7, rfl⟩, hsm, rfl, hI, hp⟩ := hp
    obtain ⟨s, hs⟩ : ∃ s, m.slots[I]? = some s := ⟨_, List.getElem?_eq_getElem hI⟩
    rw [slotOkB, hs] at hp
    have hln := hsm.slots
    refine Exists.intro I (And.intro rfl (Exists.intro (slC s) (And.intro (get_map hs) ?_)))
    refine And.intro (fun h1 => ?_) (fun h1 => ?_)
    · have hu : s.used = false := by simpa using h1
      simp only [hu, Bool.false_eq_true, if_false] at hp
      refine fin_b hp ?_
      rw [hu, Bool.eq_iff_iff]
      simp [slC]
    have hu : s.used = true := by simpa using h1
    simp only [hu, if_true] at hp
    refine Exists.intro m.mods (And.intro rfl (And.intro hsm.mo ?_))
    have hmo := hsm.mo
    clear hsm h1
    generalize hT : thereB m.mods s.mod s.bank = T at *
    clear hT
    generalize hA : (m.slots.take I).all (fun o => !clashB s o) = A at *
    repeat' ((first
      | refine And.intro (fun h5 => ?_) (fun h5 => ?_)
      | fail) <;> try first | (cases h5; done))
    · exact fin_b hp (by clear hp; cases T <;> first | rfl | (simp at *; done))
    · exact fin_b hp (by clear hp; cases T <;> first | rfl | (simp only [decide_eq_true_eq, decide_eq_false_iff_not, gt_iff_lt, Bool.true_and] at *; rw [decide_eq_false (by omega)]; rfl))
    · exact fin_b hp (by clear hp; cases T <;> first | rfl | (simp only [decide_eq_true_eq, decide_eq_false_iff_not, gt_iff_lt, Bool.true_and] at *; rw [decide_eq_false (by omega)]; rfl))
    · exact fin_b hp (by clear hp; cases T <;> first | rfl | (simp only [decide_eq_true_eq, decide_eq_false_iff_not, gt_iff_lt, Bool.true_and] at *; rw [decide_eq_false (by omega)]; rfl))
    have hD : (T && decide (0 ≤ s.bank ∧ 1 ≤ s.turn ∧ s.turn ≤ m.turn)) = true := by
      clear hp
      cases T
      · simp at *
      · simp only [decide_eq_true_eq, decide_eq_false_iff_not, gt_iff_lt, Bool.true_and] at *
        omega
    rw [hD, Bool.true_and] at hp
    refine Exists.intro true (Exists.intro [1, 2, 5, 6] (Exists.intro (fun n vs h => ∃ k : Nat, k ≤ I ∧ n = I - k ∧ ((m.slots.take k).all (fun o => !clashB s o)) = true ∧ vs = [.v (.int .i64 I), .ptr 0 0 0 15, .ptr 1 0 0 4, .v (.int .i64 k)] ∧ h = [.box (mcI m b1 z1 b2 z2 b3 z3 b4 z4 b5 z5 b6 z6 b7 z7), .box (slC s)]) (And.intro ?_ ?_)))
    · refine Exists.intro [] ?_
      exact Exists.intro I ⟨0, by omega, rfl, rfl, rfl, rfl⟩
    intro n vs h hJ
    obtain ⟨k, hk, rfl, hcl, rfl, rfl⟩ := hJ
    refine And.intro (fun h6 => ?_) (fun h6 => ?_)
    · have h6 := of_decide_eq_true h6
      have hlt : k < I := by omega
      obtain ⟨o, ho⟩ : ∃ o, m.slots[k]? = some o := ⟨_, List.getElem?_eq_getElem (by omega)⟩
      have hyes : clashB s o = true → A = false := fun h => by
        rw [← hA]
        exact all_bad (i := k) (a := o) (by rw [List.getElem?_take, if_pos hlt]; exact ho) (by rw [h]; rfl)
      have hno : clashB s o = false → ((m.slots.take (k + 1)).all (fun o => !clashB s o)) = true := fun h => all_take ho hcl (by rw [h]; rfl)
      refine Exists.intro k (And.intro rfl (Exists.intro (slC o) (And.intro (get_map ho) ?_)))
      repeat' ((first
        | refine And.intro (fun h7 => ?_) (fun h7 => ?_)
        | fail) <;> try first | (cases h7; done))
      · exact fin_b hp (hyes (by clear hp hyes hno hcl hA hD; simp only [clashB]; simp_all))
      · exact fin_b hp (hyes (by clear hp hyes hno hcl hA hD; simp only [clashB]; simp_all))
      all_goals have hF : clashB s o = false := by (clear hp hyes hno hcl hA hD; simp only [clashB]; simp_all)
      all_goals refine Exists.intro [] (Exists.intro (I - (k + 1)) (And.intro (by omega) ⟨k + 1, by omega, rfl, hno hF, ?_, rfl⟩))
      all_goals rw [wrap_succ hlt (by omega)]
    · have h6 := of_decide_eq_false h6
      have hke : k = I := by omega
      subst hke
      rw [hA] at hcl
      exact fin_b hp hcl
  · exact hp.elim
def hSlotBy : CH := fun args hl K => match args, hl with
  | [a, .agg [.v (.bool u), .v (.int .i64 i), .v (.int .i64 b), .v (.int .i64 t)]], [] => ∃ (m : Mc) (x : Mo) (I B W : Nat) (ws : List Int), McV a m ∧ smMc m ∧ i = I ∧ b = B ∧ m.mods[I]? = some x ∧ x.banks[B]? = some ws ∧ m.cfg.words = W ∧ W ≤ 64 ∧ wordsB ws = true ∧ ws.length ≤ W ∧ K (.slc 0 0 (slotBy m.mods m.cfg.words I B).length false) [.lst 1 ((slotBy m.mods m.cfg.words I B).map byteC)]
  | _, _ => False
theorem slotBy_at {ms : List Mo} {x : Mo} {I B : Nat} {w : Int} {ws : List Int} (h : ms[I]? = some x) (h2 : x.banks[B]? = some ws) : slotBy ms w I B = pourN (List.replicate (rup (4 * w.toNat)) 0) 0 ws ws.length := by
  simp only [slotBy, bankW, Int.toNat_natCast, h, List.getD_eq_getElem?_getD, h2, Option.getD_some]
def cx_s_l7SlotBytes : Ctx := mkC [(94, callM [] false hRup), (49, callM [.rw] false hPour)]
theorem cx_s_l7SlotBytes_ok : CtxOk Tryz.prog cx_s_l7SlotBytes := mkC_ok (mem1 ⟨s_l5Round, fnOk Tryz.func94 rfl rfl⟩ (mem1 ⟨s_l5Pour, fnOk Tryz.func49 rfl rfl⟩ mem0))
set_option maxRecDepth 100000 in
set_option pp.maxSteps 1500 in
set_option maxHeartbeats 8000000 in
theorem s_l7SlotBytes : HSound Tryz.prog 160 (callM [] true hSlotBy) := by
  refine callM_sound cx_s_l7SlotBytes_ok mixed Tryz.func160 rfl fun args hl K hp => ?_
  unfold hSlotBy at hp
  split at hp
  · rename_i a u i b t
    obtain ⟨m, x, I, B, W, ws, ⟨b1, z1, b2, z2, b3, z3, b4, z4, b5, z5, b6, z6, b7, z7, rfl⟩, hsm, rfl, rfl, hx, hws, hW, hW6, hwb, hwl, hp⟩ := hp
    rw [slotBy_at hx hws] at hp
    have hr := rup_le (4 * W)
    have hr2 := rup_ge (4 * W)
    refine Or.inl ?_
    refine Exists.intro (4 * W) (And.intro (by rw [hW, wrap64 (by omega)]; omega) (And.intro (by omega) ?_))
    refine Exists.intro (rup (4 * W)) (And.intro rfl (And.intro rfl (And.intro (by simp only; omega) ?_)))
    have e1 : (slotBy m.mods m.cfg.words I B) = pourN (List.replicate (rup (4 * W)) 0) 0 ws ws.length := by rw [slotBy_at hx hws, hW, Int.toNat_natCast]
    rw [hW, Int.toNat_natCast] at hp
    have hpl := pourN_len (List.replicate (rup (4 * W)) 0) 0 ws ws.length
    rw [List.length_replicate] at hpl
    rw [hpl] at hp
    refine Or.inl ?_
    refine And.intro (show wfB _ = true from by kernel_rfl) ?_
    repeat' (first
      | refine Exists.intro I (And.intro rfl (Exists.intro (moC x) (And.intro (get_map hx) ?_)))
      | refine Exists.intro B (And.intro rfl (Exists.intro (bankC ws) (And.intro (get_map hws) ?_)))
      | fail)
    apply HeldC.intro
    · refine And.intro (closed_rep _) ?_
      refine Exists.intro (List.replicate (rup (4 * W)) 0) ?_
      refine Exists.intro ws ?_
      refine Exists.intro (0 : Nat) ?_
      refine And.intro (show _ = List.map byteC (List.replicate (rup (4 * W)) 0) from by rw [List.map_replicate]; rfl) (And.intro List.length_replicate.symm (And.intro rfl (And.intro rfl (And.intro hwb (And.intro (by rw [List.length_replicate]; omega) (And.intro (by rw [List.length_replicate]; omega) ?_))))))
      exact And.intro rfl rfl
    refine And.intro (closed_bytes _) ?_
    exact hp
  · exact hp.elim
end Go.Proofs.YtbfjkjdbdejnmaaGreat.Ab
