/- Functions walked, part 13. No condition. -/
import Derived.Test.YtbfjkjdbdejnmaaGreatWalk12
import Derived.Test.YtbfjkjdbdejnmaaGreatWalk11
set_option linter.unusedVariables false
set_option linter.unusedSimpArgs false
/- Images of impl. No condition. -/
namespace Go.Proofs.YtbfjkjdbdejnmaaGreat.Ab
set_option linter.unusedVariables false
set_option linter.unusedSimpArgs false
set_option maxRecDepth 100000

theorem low_lend2 {Q : List Int} {o n : Nat} (h : o + 4 ≤ Q.length) (hn : n = 4) : List.take n (List.drop o (Q.map byteC)) = ((Q.drop o).take 4).map byteC ∧ (((Q.drop o).take 4).map byteC).length = n := by
  subst hn
  rw [List.map_take, List.map_drop]
  refine ⟨rfl, ?_⟩
  simp only [List.length_take, List.length_drop, List.length_map]
  omega
def hImg : CH := fun args hl K => match args, hl with
  | [.imm _ _ 8 L, a], [] => ∃ (ms : List Mo) (l : La), L = ms.map moC ∧ (∀ m ∈ ms, BytesOk m.data) ∧ LaV a l ∧ Lim ms l ∧
      K (.agg [.slc 0 0 (flashN ms l ms.length).length false, .slc 1 0 (ramN ms l ms.length).length false, .slc 2 0 0 false]) [.lst 1 ((flashN ms l ms.length).map byteC), .lst 1 ((ramN ms l ms.length).map byteC), .lst 1 []]
  | _, _ => False
def cx_s_image : Ctx := mkCut [(112, callM [] true hNum), (111, callM [.rw] false hPut4), (110, callM [.ro, .ro, .rw] false hPourC)]
theorem cx_s_image_ok : CtxOk Tryz.prog cx_s_image := mkCut_ok (mem1 ⟨s_number, fnOk Tryz.func112 rfl rfl⟩ (mem1 ⟨s_put, fnOk Tryz.func111 rfl rfl⟩ (mem1 ⟨s_pourC, fnOk Tryz.func110 rfl rfl⟩ mem0)))
set_option maxRecDepth 100000 in
set_option pp.maxSteps 1500 in
set_option maxHeartbeats 32000000 in
theorem s_image : HSound Tryz.prog 53 (callM [] true hImg) := by
  refine callM_sound cx_s_image_ok mixed Tryz.func53 rfl fun args hl K hp => ?_
  unfold hImg at hp
  split at hp
  · rename_i t z L a
    obtain ⟨ms, l, rfl, hby, ⟨b1, z1, b2, z2, b3, z3, rfl⟩, hlim, hp⟩ := hp
    have hlen := hlim.len
    have hfl := hlim.fl
    have hrm := hlim.ram
    refine Or.inr (Exists.intro true (Exists.intro [0, 3, 4, 5] (Exists.intro (fun vs h => vs = [.imm t z 8 (ms.map moC), .ptr 0 0 0 6, .ptr 1 0 0 3, .ptr 2 0 0 3] ∧ h = [.box (laI l b1 z1 b2 z2 b3 z3), .box [.sl 1 [], .sl 1 [], .sl 1 []], .box [.sl 1 (List.replicate l.flash.toNat (byteC 0)), .sl 1 (List.replicate l.ram.toNat (byteC 0)), .sl 1 []]]) (And.intro ?_ ?_))))
    · refine Or.inl ?_
      refine And.intro (show wfB _ = true from by kernel_rfl) ?_
      repeat' (first
        | (refine Exists.intro l.flash.toNat ?_; refine And.intro (by omega) ?_; refine And.intro (by omega) ?_; refine And.intro (by simp only; omega) ?_; exact And.intro rfl rfl)
        | (refine Exists.intro l.ram.toNat ?_; refine And.intro (by omega) ?_; refine And.intro (by omega) ?_; refine And.intro (by simp only; omega) ?_; exact And.intro rfl rfl)
        | refine And.intro (show wfB _ = true from by kernel_rfl) ?_ | refine And.intro (And.intro rfl rfl) ?_ | exact And.intro rfl rfl | apply HeldC.intro | exact AV.top | (apply HeldF.intro; refine Exists.intro _ (And.intro (by assumption) ?_); refine And.intro (by decide) ?_; exact And.intro rfl rfl) | (refine And.intro (by (refine Exists.intro _ (And.intro (by assumption) ?_); refine And.intro (by decide) ?_; exact And.intro rfl rfl)) ?_) | refine Or.inl ?_
        | refine And.intro ?_ ?_
        | fail)
      all_goals refine Exists.intro [] ?_
      all_goals repeat' (first
        | refine Exists.intro [] (And.intro rfl (And.intro rfl (And.intro closed_nil ?_)))
        | refine Exists.intro (List.replicate l.flash.toNat (byteC 0)) (And.intro (rep_take _ _) (And.intro List.length_replicate (And.intro (closed_rep _) ?_)))
        | refine Exists.intro (List.replicate l.ram.toNat (byteC 0)) (And.intro (rep_take _ _) (And.intro List.length_replicate (And.intro (closed_rep _) ?_)))
        | fail)
      all_goals exact And.intro rfl rfl
    rintro vs h ⟨rfl, rfl⟩
    have hf0 : List.replicate l.flash.toNat (byteC 0) = (flashN ms l 0).map byteC := by rw [flashN, List.map_replicate]
    have hr0 : List.replicate l.ram.toNat (byteC 0) = (ramN ms l 0).map byteC := by rw [ramN, List.map_replicate]
    rw [hf0, hr0]
    clear hf0 hr0
    refine Exists.intro true (Exists.intro [0, 3, 4, 5, 6, 23, 24] (Exists.intro (fun n vs h => ∃ i : Nat, i ≤ ms.length ∧ n = ms.length - i ∧ vs = [.imm t z 8 (ms.map moC), .ptr 0 0 0 6, .ptr 1 0 0 3, .ptr 2 0 0 3, .fn 110 [.ptr 2 0 0 3], .v (.int .i64 ms.length), .v (.int .i64 i)] ∧ h = [.box (laI l b1 z1 b2 z2 b3 z3), .box [.sl 1 [], .sl 1 [], .sl 1 []], .box [.sl 1 ((flashN ms l i).map byteC), .sl 1 ((ramN ms l i).map byteC), .sl 1 []]]) (And.intro ?_ ?_)))
    · refine Exists.intro [] ?_
      refine Exists.intro ms.length ⟨0, by omega, rfl, ?_, rfl⟩
      rw [List.length_map]
      rfl
    intro n vs h hI
    obtain ⟨i, hi, rfl, rfl, rfl⟩ := hI
    refine Or.inl ?_
    refine And.intro (fun h1 => ?_) (fun h1 => ?_)
    · have h1 := of_decide_eq_true h1
      have hlt : i < ms.length := by omega
      obtain ⟨m, hm⟩ : ∃ m, ms[i]? = some m := ⟨_, List.getElem?_eq_getElem hlt⟩
      obtain ⟨p, hpl⟩ : ∃ p, l.pls[i]? = some p := ⟨_, List.getElem?_eq_getElem (by rw [hlim.pls]; omega)⟩
      obtain ⟨⟨at1, at2⟩, hbn, hat3, ⟨at4, at5⟩, hat6, hgm⟩ := hlim.at' i p m hpl hm
      have hml := hgm.bl
      have hrl := hgm.rl
      have hdl := hgm.dl
      have hfN := flashN_len ms l i
      have hrN := ramN_len hlim i
      refine Exists.intro i (And.intro rfl (Exists.intro (plC p) (And.intro (get_map hpl) ?_)))
      refine Or.inl (Or.inl ?_)
      refine And.intro (show wfB _ = true from by kernel_rfl) ?_
      refine Exists.intro i (And.intro rfl (Exists.intro (moC m) (And.intro (get_map hm) ?_)))
      apply HeldC.intro
      · repeat' (first
          | refine Exists.intro [] (And.intro rfl (And.intro rfl (And.intro closed_nil ?_)))
          | refine Exists.intro _ (And.intro List.take_length (And.intro rfl (And.intro (closed_bytes _) ?_)))
          | fail)
        refine Exists.intro (flashN ms l i) ?_
        refine Exists.intro m.text ?_
        refine Exists.intro p.text.toNat ?_
        refine And.intro rfl (And.intro (by omega) (And.intro rfl (And.intro hgm.tw (And.intro (by omega) (And.intro (by omega) ?_)))))
        exact And.intro rfl rfl
      have hF0 : (pourN (flashN ms l i) p.text.toNat m.text m.text.length).length = l.flash.toNat := by rw [pourN_len, hfN]
      have hf1 : flashN ms l (i + 1) = banksN (pourN (flashN ms l i) p.text.toNat m.text m.text.length) p m m.banks.length := by rw [flashN, hm, hpl]
      have hr1 : ramN ms l (i + 1) = relsN (layB (ramN ms l i) (p.data - 65536).toNat m.data) (p.data - 65536).toNat p.data m.rels m.rels.length := by rw [ramN, hm, hpl]
      have hro := ramN_ok hby l i
      generalize pourN (flashN ms l i) p.text.toNat m.text m.text.length = F0 at *
      generalize ramN ms l i = R0 at *
      refine Exists.intro i (And.intro rfl (Exists.intro (moC m) (And.intro (get_map hm) ?_)))
      refine Exists.intro true (Exists.intro [0, 3, 4, 5, 6, 7, 8, 23, 24, 45, 46, 47] (Exists.intro (fun n vs h => ∃ k : Nat, k ≤ m.banks.length ∧ n = m.banks.length - k ∧ vs = [.imm t z 8 (ms.map moC), .ptr 0 0 0 6, .ptr 1 0 0 3, .ptr 2 0 0 3, .fn 110 [.ptr 2 0 0 3], .v (.int .i64 i), .ptr 3 0 0 4, .v (.int .i64 ms.length), .v (.int .i64 i), .imm t false 1 (m.banks.map bankC), .v (.int .i64 m.banks.length), .v (.int .i64 k)] ∧
        h = [.box (laI l b1 z1 b2 z2 b3 z3), .box [.sl 1 [], .sl 1 [], .sl 1 []], .box [.sl 1 ((banksN F0 p m k).map byteC), .sl 1 (R0.map byteC), .sl 1 []], .box [.v (.int .i64 p.text), .imm b1 false 1 (p.banks.map intC), .v (.int .i64 p.data), .v (.int .i64 p.size)]]) (And.intro ?_ ?_)))
      · refine Exists.intro [] ?_
        repeat' (first
          | refine Exists.intro [] (And.intro rfl (And.intro rfl (And.intro closed_nil ?_)))
          | refine Exists.intro _ (And.intro List.take_length (And.intro rfl (And.intro (closed_bytes _) ?_)))
          | fail)
        refine Exists.intro m.banks.length ⟨0, by omega, rfl, ?_, rfl⟩
        rw [List.length_map]
        rfl
      intro n vs h hI
      obtain ⟨k, hk1, rfl, rfl, rfl⟩ := hI
      refine Or.inl ?_
      refine And.intro (fun h2 => ?_) (fun h2 => ?_)
      · have h2 := of_decide_eq_true h2
        have hltk : k < m.banks.length := by omega
        obtain ⟨bk, hbk⟩ : ∃ b, m.banks[k]? = some b := ⟨_, List.getElem?_eq_getElem hltk⟩
        obtain ⟨ak, hak⟩ : ∃ a, p.banks[k]? = some a := ⟨_, List.getElem?_eq_getElem (by omega)⟩
        obtain ⟨ba1, ba2⟩ := hat3 k ak bk hak hbk
        have hbw := (hgm.bk bk (List.mem_of_getElem? hbk)).2
        have hst : banksN F0 p m (k + 1) = pourN (banksN F0 p m k) ak.toNat bk bk.length := by
          rw [banksN]
          simp only [List.getD_eq_getElem?_getD, hak, hbk, Option.getD_some]
        have hBl := banksN_len F0 p m k
        generalize banksN F0 p m k = B0 at *
        refine Exists.intro k (And.intro rfl (Exists.intro (bankC bk) (And.intro (get_map hbk) ?_)))
        refine Exists.intro k (And.intro rfl (Exists.intro (intC ak) (And.intro (get_map hak) ?_)))
        repeat' (first
          | refine Exists.intro [] (And.intro rfl (And.intro rfl (And.intro closed_nil ?_)))
          | refine Exists.intro _ (And.intro List.take_length (And.intro rfl (And.intro (closed_bytes _) ?_)))
          | fail)
        refine Exists.intro B0 ?_
        refine Exists.intro bk ?_
        refine Exists.intro ak.toNat ?_
        refine And.intro rfl (And.intro (by omega) (And.intro rfl (And.intro hbw (And.intro (by omega) (And.intro (by omega) ?_)))))
        refine Exists.intro [] ?_
        refine Exists.intro (m.banks.length - (k + 1)) (And.intro (by omega) ⟨k + 1, by omega, rfl, ?_, ?_⟩)
        · rw [wrap_succ hltk (by omega)]
        · rw [hst]
      have h2 := of_decide_eq_false h2
      have hke : k = m.banks.length := by omega
      subst hke
      rw [← hf1]
      have hF1 := flashN_len ms l (i + 1)
      generalize hFe : flashN ms l (i + 1) = F1 at *
      have hwd : IntKind.i64.wrap (p.data - 65536) = ((p.data - 65536).toNat : Int) := by rw [wrap64 (by omega)]; omega
      refine Exists.intro (p.data - 65536).toNat (And.intro hwd (And.intro (by rw [List.length_map]; omega) (And.intro (Nat.le_refl _) ?_)))
      refine Exists.intro i (And.intro rfl (Exists.intro (moC m) (And.intro (get_map hm) ?_)))
      refine And.intro (by rw [List.length_map]; omega) ?_
      refine And.intro (bytes_notSl _) ?_
      have hly := lay_eq (R := R0) (D := m.data) (a := (p.data - 65536).toNat) (by omega)
      conv => whnf
      rw [hly]
      clear hly
      have hLl : (layB R0 (p.data - 65536).toNat m.data).length = R0.length := layB_len (by omega)
      have hLo : BytesOk (layB R0 (p.data - 65536).toNat m.data) := layB_ok hro (hby m (List.mem_of_getElem? hm)) _
      have hR0l : (List.map byteC R0).length = l.ram.toNat := by rw [List.length_map, hrN]
      rw [hR0l]
      generalize hA : (p.data - 65536).toNat = A at *
      generalize layB R0 A m.data = R1 at *
      have hR1l : R1.length = l.ram.toNat := by omega
      refine Exists.intro i (And.intro rfl (Exists.intro (moC m) (And.intro (get_map hm) ?_)))
      refine Exists.intro false (Exists.intro [0, 3, 4, 5, 6, 8, 11, 23, 24, 78, 79, 80] (Exists.intro (fun n vs h => ∃ k : Nat, k ≤ m.rels.length ∧ n = m.rels.length - k ∧ vs = [.imm t z 8 (ms.map moC), .ptr 0 0 0 6, .ptr 1 0 0 3, .ptr 2 0 0 3, .fn 110 [.ptr 2 0 0 3], .ptr 3 0 0 4, .slc 4 A (l.ram.toNat - A) false, .v (.int .i64 ms.length), .v (.int .i64 i), .imm t false 1 (m.rels.map intC), .v (.int .i64 m.rels.length), .v (.int .i64 k)] ∧
        ((k = 0 ∧ h = [.box (laI l b1 z1 b2 z2 b3 z3), .box [.sl 1 [], .sl 1 [], .sl 1 []], .box [.sl 1 (F1.map byteC), .slc 4 0 l.ram.toNat false, .sl 1 []], .box [.v (.int .i64 p.text), .imm b1 false 1 (p.banks.map intC), .v (.int .i64 p.data), .v (.int .i64 p.size)], .lst 1 ((relsN R1 A p.data m.rels k).map byteC)]) ∨ h = [.box (laI l b1 z1 b2 z2 b3 z3), .box [.slc 5 0 0 false, .slc 6 0 0 false, .slc 7 0 0 false], .box [.slc 8 0 (F1.map byteC).length false, .slc 4 0 l.ram.toNat false, .slc 9 0 0 false], .box [.v (.int .i64 p.text), .imm b1 false 1 (p.banks.map intC), .v (.int .i64 p.data), .v (.int .i64 p.size)], .lst 1 ((relsN R1 A p.data m.rels k).map byteC), .lst 1 [], .lst 1 [], .lst 1 [], .lst 1 (F1.map byteC), .lst 1 []])) (And.intro ?_ ?_)))
      · refine Exists.intro m.rels.length ⟨0, by omega, rfl, ?_, Or.inl ⟨rfl, rfl⟩⟩
        rw [Nat.zero_add, List.length_map]
        rfl
      intro n vs h hI
      obtain ⟨k, hk1, rfl, rfl, hI⟩ := hI
      rcases hI with ⟨hk0, rfl⟩ | rfl
      · refine Or.inl ?_
        refine And.intro (fun h2 => ?_) (fun h2 => ?_)
        · have h2 := of_decide_eq_true h2
          have hltk : k < m.rels.length := by omega
          obtain ⟨rk, hrk⟩ : ∃ r, m.rels[k]? = some r := ⟨_, List.getElem?_eq_getElem hltk⟩
          obtain ⟨rk0, rk4⟩ := hat6 rk (List.mem_of_getElem? hrk)
          have hst := relsN_at (r := R1) (a := A) (d := p.data) hrk
          have hQl := relsN_len R1 A p.data m.rels k
          have hQo := relsN_ok hLo A p.data m.rels k
          generalize relsN R1 A p.data m.rels k = Q0 at *
          refine Exists.intro k (And.intro rfl (Exists.intro (intC rk) (And.intro (get_map hrk) ?_)))
          have hwq : rk = ((rk.toNat : Nat) : Int) := by omega
          have hwq4 : IntKind.i64.wrap (rk + 4) = ((rk.toNat + 4 : Nat) : Int) := by rw [wrap64 (by omega)]; omega
          refine Or.inl ?_
          refine And.intro (show wfB _ = true from by kernel_rfl) ?_
          apply HeldF.intro
          · refine Exists.intro rk.toNat (And.intro hwq (Exists.intro (rk.toNat + 4) (And.intro hwq4 (And.intro (by omega) (And.intro (by omega) ?_)))))
            exact And.intro rfl rfl
          apply HeldF.intro
          · refine Exists.intro rk.toNat (And.intro hwq (Exists.intro (rk.toNat + 4) (And.intro hwq4 (And.intro (by omega) (And.intro (by omega) ?_)))))
            exact And.intro rfl rfl
          apply HeldC.intro
          · refine Exists.intro _ (And.intro (low_lend2 (Q := Q0) (o := A + rk.toNat) (by omega) (by omega)).1 (And.intro (low_lend2 (Q := Q0) (o := A + rk.toNat) (by omega) (by omega)).2 (And.intro (closed_bytes _) ?_)))
            refine Exists.intro ((Q0.drop (A + rk.toNat)).take 4) (And.intro rfl (And.intro (low_ok hQo _) (And.intro (Or.inr (Or.inr (low_len (by omega)))) ?_)))
            exact And.intro rfl rfl
          have hlb := lowAt_bd hQo (q := A + rk.toNat) (by omega)
          have hlw : IntKind.i64.wrap (lowB ((Q0.drop (A + rk.toNat)).take 4) + p.data) = lowAt Q0 (A + rk.toNat) + p.data := wrap64 (by simp only [lowAt] at hlb; omega)
          rw [putY_mod _ _ _ 4 (by omega)] at hst
          repeat' (first
            | refine And.intro (And.intro rfl rfl) ?_
            | refine And.intro (by (refine Exists.intro rk.toNat (And.intro hwq (Exists.intro (rk.toNat + 4) (And.intro hwq4 (And.intro (by omega) (And.intro (by omega) ?_))))); exact And.intro rfl rfl)) ?_
            | fail)
          apply HeldC.intro
          · refine And.intro (closed_bytes _) ?_
            refine Exists.intro Q0 (And.intro rfl (And.intro (by omega) (And.intro (by omega) ?_)))
            rw [hlw, ← hst]
            exact And.intro rfl rfl
          repeat' (refine And.intro (And.intro rfl rfl) ?_)
          refine Exists.intro (m.rels.length - (k + 1)) (And.intro (by omega) ⟨k + 1, by omega, rfl, ?_, Or.inr rfl⟩)
          rw [wrap_succ hltk (by omega)]
        · have h2 := of_decide_eq_false h2
          have hke : k = m.rels.length := by omega
          subst hke
          refine Exists.intro [] ?_
          have hN1 := relsN_len R1 A p.data m.rels m.rels.length
          have htk := tkL (C := byteC) (show (relsN R1 A p.data m.rels m.rels.length).length = l.ram.toNat by omega)
          repeat' (first
            | refine Exists.intro [] (And.intro rfl (And.intro rfl (And.intro closed_nil ?_)))
            | refine Exists.intro _ (And.intro htk.1 (And.intro htk.2 (And.intro (closed_bytes _) ?_)))
            | refine Exists.intro _ (And.intro List.take_length (And.intro rfl (And.intro (closed_bytes _) ?_)))
            | fail)
          refine Exists.intro (ms.length - (i + 1)) (And.intro (by omega) ⟨i + 1, by omega, rfl, ?_, ?_⟩)
          · rw [wrap_succ hlt (by omega)]
          · rw [hFe, hr1]
      · refine Or.inl ?_
        refine And.intro (fun h2 => ?_) (fun h2 => ?_)
        · have h2 := of_decide_eq_true h2
          have hltk : k < m.rels.length := by omega
          obtain ⟨rk, hrk⟩ : ∃ r, m.rels[k]? = some r := ⟨_, List.getElem?_eq_getElem hltk⟩
          obtain ⟨rk0, rk4⟩ := hat6 rk (List.mem_of_getElem? hrk)
          have hst := relsN_at (r := R1) (a := A) (d := p.data) hrk
          have hQl := relsN_len R1 A p.data m.rels k
          have hQo := relsN_ok hLo A p.data m.rels k
          generalize relsN R1 A p.data m.rels k = Q0 at *
          refine Exists.intro k (And.intro rfl (Exists.intro (intC rk) (And.intro (get_map hrk) ?_)))
          have hwq : rk = ((rk.toNat : Nat) : Int) := by omega
          have hwq4 : IntKind.i64.wrap (rk + 4) = ((rk.toNat + 4 : Nat) : Int) := by rw [wrap64 (by omega)]; omega
          refine Or.inl ?_
          refine And.intro (show wfB _ = true from by kernel_rfl) ?_
          apply HeldF.intro
          · refine Exists.intro rk.toNat (And.intro hwq (Exists.intro (rk.toNat + 4) (And.intro hwq4 (And.intro (by omega) (And.intro (by omega) ?_)))))
            exact And.intro rfl rfl
          apply HeldF.intro
          · refine Exists.intro rk.toNat (And.intro hwq (Exists.intro (rk.toNat + 4) (And.intro hwq4 (And.intro (by omega) (And.intro (by omega) ?_)))))
            exact And.intro rfl rfl
          apply HeldC.intro
          · refine Exists.intro _ (And.intro (low_lend2 (Q := Q0) (o := A + rk.toNat) (by omega) (by omega)).1 (And.intro (low_lend2 (Q := Q0) (o := A + rk.toNat) (by omega) (by omega)).2 (And.intro (closed_bytes _) ?_)))
            refine Exists.intro ((Q0.drop (A + rk.toNat)).take 4) (And.intro rfl (And.intro (low_ok hQo _) (And.intro (Or.inr (Or.inr (low_len (by omega)))) ?_)))
            exact And.intro rfl rfl
          have hlb := lowAt_bd hQo (q := A + rk.toNat) (by omega)
          have hlw : IntKind.i64.wrap (lowB ((Q0.drop (A + rk.toNat)).take 4) + p.data) = lowAt Q0 (A + rk.toNat) + p.data := wrap64 (by simp only [lowAt] at hlb; omega)
          rw [putY_mod _ _ _ 4 (by omega)] at hst
          repeat' (first
            | refine And.intro (And.intro rfl rfl) ?_
            | refine And.intro (by (refine Exists.intro rk.toNat (And.intro hwq (Exists.intro (rk.toNat + 4) (And.intro hwq4 (And.intro (by omega) (And.intro (by omega) ?_))))); exact And.intro rfl rfl)) ?_
            | fail)
          apply HeldC.intro
          · refine And.intro (closed_bytes _) ?_
            refine Exists.intro Q0 (And.intro rfl (And.intro (by omega) (And.intro (by omega) ?_)))
            rw [hlw, ← hst]
            exact And.intro rfl rfl
          repeat' (refine And.intro (And.intro rfl rfl) ?_)
          refine Exists.intro (m.rels.length - (k + 1)) (And.intro (by omega) ⟨k + 1, by omega, rfl, ?_, Or.inr rfl⟩)
          rw [wrap_succ hltk (by omega)]
        · have h2 := of_decide_eq_false h2
          have hke : k = m.rels.length := by omega
          subst hke
          refine Exists.intro [] ?_
          have hN1 := relsN_len R1 A p.data m.rels m.rels.length
          have htk := tkL (C := byteC) (show (relsN R1 A p.data m.rels m.rels.length).length = l.ram.toNat by omega)
          repeat' (first
            | refine Exists.intro [] (And.intro rfl (And.intro rfl (And.intro closed_nil ?_)))
            | refine Exists.intro _ (And.intro htk.1 (And.intro htk.2 (And.intro (closed_bytes _) ?_)))
            | refine Exists.intro _ (And.intro List.take_length (And.intro rfl (And.intro (closed_bytes _) ?_)))
            | fail)
          refine Exists.intro (ms.length - (i + 1)) (And.intro (by omega) ⟨i + 1, by omega, rfl, ?_, ?_⟩)
          · rw [wrap_succ hlt (by omega)]
          · rw [hFe, hr1]
    · have h1 := of_decide_eq_false h1
      have hie : i = ms.length := by omega
      subst hie
      refine And.intro (closed_bytes _) ?_
      refine And.intro (closed_bytes _) ?_
      refine And.intro closed_nil ?_
      rw [List.length_map, List.length_map]
      exact hp
  · exact hp.elim
end Go.Proofs.YtbfjkjdbdejnmaaGreat.Ab

/- Images of impl: Image. No condition. -/
namespace Go.Proofs.YtbfjkjdbdejnmaaGreat.Ab
set_option linter.unusedVariables false
set_option linter.unusedSimpArgs false
set_option maxRecDepth 100000

def cx_s_ImageI : Ctx := mkC [(43, callM [] true hReal), (53, callM [] true hImg)]
theorem cx_s_ImageI_ok : CtxOk Tryz.prog cx_s_ImageI := mkC_ok (mem1 ⟨s_linked, fnOk Tryz.func43 rfl rfl⟩ (mem1 ⟨s_image, fnOk Tryz.func53 rfl rfl⟩ mem0))
set_option maxRecDepth 100000 in
set_option pp.maxSteps 1500 in
set_option maxHeartbeats 16000000 in
theorem s_ImageI : HSound Tryz.prog 16 (callM [] true hImage) := by
  refine callM_sound cx_s_ImageI_ok mixed Tryz.func16 rfl fun args hl K hp => ?_
  unfold hImage at hp
  split at hp
  · rename_i t z L a
    obtain ⟨ms, l, rfl, hlen, hsm, hby, ⟨b1, z1, b2, z2, b3, z3, rfl⟩, hb, hp⟩ := hp
    refine Exists.intro ms ?_
    refine Exists.intro l (And.intro rfl (And.intro hlen (And.intro hsm (And.intro ⟨_, _, _, _, _, _, rfl⟩ (And.intro hb (And.intro (fun hr => ?_) (fun hr => ?_)))))))
    rotate_left
    · refine And.intro (fun h1 => ?_) (fun h1 => ?_)
      · refine And.intro closed_nil ?_
        refine And.intro closed_nil ?_
        refine And.intro closed_nil ?_
        exact fin_im hp (img_n hr)
      · cases h1
    refine And.intro (fun h1 => ?_) (fun h1 => ?_)
    · cases h1
    refine Exists.intro ms ?_
    refine Exists.intro l (And.intro rfl (And.intro hby (And.intro ⟨_, _, _, _, _, _, rfl⟩ (And.intro (lim_of hr) ?_))))
    refine And.intro (closed_bytes _) ?_
    refine And.intro (closed_bytes _) ?_
    refine And.intro closed_nil ?_
    exact fin_im hp (img_y hr)
  · exact hp.elim
end Go.Proofs.YtbfjkjdbdejnmaaGreat.Ab

/- Layouts: laid, measured; what a law's argument is. No condition. -/
namespace Go.Proofs.YtbfjkjdbdejnmaaGreat.Ab
set_option linter.unusedVariables false
set_option linter.unusedSimpArgs false
set_option maxRecDepth 100000

def wPb (p : Pl) : Nat := p.banks.length
def bigPl (p : Pl) : Prop := p.banks.length ≤ maxLen
def bigTgs (t : List Tg) : Prop := t.length ≤ maxLen
def hSzPl : CH := fun args hl K => match args, hl with
  | [a, .v (.int .i64 n)], [] => ∃ p, PlV a p ∧ bigPl p ∧ 0 ≤ n ∧ n ≤ 1048576 ∧ K (.v (.int .i64 (szB n (wPb p)))) []
  | _, _ => False
def cx_s_szPlace : Ctx := mkC [(35, callM [] true hSzB)]
theorem cx_s_szPlace_ok : CtxOk Tryz.prog cx_s_szPlace := mkC_ok (mem1 ⟨s_szIntS, fnOk Tryz.func35 rfl rfl⟩ mem0)
set_option maxRecDepth 100000 in
set_option pp.maxSteps 1500 in
theorem s_szPlace : HSound Tryz.prog 86 (callM [] true hSzPl) := by
  refine callM_sound cx_s_szPlace_ok mixed Tryz.func86 rfl fun args hl K hp => ?_
  unfold hSzPl at hp
  split at hp
  · rename_i a n
    obtain ⟨p, ⟨b, z, rfl⟩, hb, hn0, hn1, hp⟩ := hp
    simp only [bigPl] at hb
    have hml : maxLen ≤ 9223372036854775807 := by decide
    refine And.intro hn0 (And.intro hn1 (And.intro (by rw [List.length_map]; omega) ?_))
    refine And.intro (fun h => ?_) (fun h => ?_)
    · have h := of_decide_eq_true h
      rw [List.length_map] at h
      refine fin_i hp ?_
      show szB n p.banks.length = -1
      rw [szB_neg (szB_lt hn0 h)]
    · have h := of_decide_eq_false h
      rw [List.length_map] at *
      exact hp
  · exact hp.elim
def hSzTgs : CH := fun args hl K => match args, hl with
  | [.imm _ _ 3 l, .v (.int .i64 n)], [] => 0 ≤ n ∧ n ≤ 1048576 ∧ (l.length : Int) ≤ 9223372036854775807 ∧ K (.v (.int .i64 (szB n l.length))) []
  | _, _ => False
def cx_s_szTargetSc : Ctx := mkC []
theorem cx_s_szTargetSc_ok : CtxOk Tryz.prog cx_s_szTargetSc := cx0_ok
set_option maxRecDepth 100000 in
set_option pp.maxSteps 1500 in
theorem s_szTargetSc : HSound Tryz.prog 87 (callM [] true hSzTgs) := by
  refine callM_sound cx_s_szTargetSc_ok mixed Tryz.func87 rfl fun args hl K hp => ?_
  unfold hSzTgs at hp
  split at hp
  · rename_i l n
    obtain ⟨h0, h1, h2, hp⟩ := hp
    have hw : IntKind.i64.wrap (n - l.length) = n - l.length := wrap64 (by omega)
    repeat' ((first | refine And.intro (fun h1 => ?_) (fun h1 => ?_) | refine And.intro (by decide) ?_ | refine And.intro (show wfB _ = true from by kernel_rfl) ?_ | refine And.intro (And.intro rfl rfl) ?_ | exact And.intro rfl rfl | apply HeldC.intro | exact AV.top | (apply HeldF.intro; refine Exists.intro _ (And.intro (by assumption) ?_); refine And.intro (by decide) ?_; exact And.intro rfl rfl) | (refine And.intro (by (refine Exists.intro _ (And.intro (by assumption) ?_); refine And.intro (by decide) ?_; exact And.intro rfl rfl)) ?_) | refine Or.inl ?_) <;> try cases h1)
    all_goals refine fin_i hp ?_
    all_goals clear hp
    all_goals rw [hw] at *
    all_goals simp only [szB, decide_eq_true_eq, decide_eq_false_iff_not] at *
    all_goals split <;> omega
  · exact hp.elim
/-! ### Place: the size of a slice with what its elements hold (printed by gen/szl.py) -/

def wtPlace (bs : List Pl) : Nat := bs.length + (bs.map wPb).sum
def hSzPlace : CH := fun args hl K => match args, hl with
  | [.imm _ _ 4 l, .v (.int .i64 n)], [] => ∃ bs : List Pl, l = bs.map plC ∧ (∀ b ∈ bs, bigPl b) ∧ bs.length ≤ maxLen ∧ 0 ≤ n ∧ n ≤ 1048576 ∧ K (.v (.int .i64 (szB n (wtPlace bs)))) []
  | _, _ => False
def cx_s_szPlaceS : Ctx := mkC [(86, callM [] true hSzPl)]
theorem cx_s_szPlaceS_ok : CtxOk Tryz.prog cx_s_szPlaceS := mkC_ok (mem1 ⟨s_szPlace, fnOk Tryz.func86 rfl rfl⟩ mem0)
set_option maxRecDepth 100000 in
set_option pp.maxSteps 1500 in
theorem s_szPlaceS : HSound Tryz.prog 34 (callM [] true hSzPlace) := by
  refine callM_sound cx_s_szPlaceS_ok mixed Tryz.func34 rfl fun args hl K hp => ?_
  unfold hSzPlace at hp
  split at hp
  · rename_i t z l n
    obtain ⟨bs, rfl, hbig, hlen, hn0, hn1, hp⟩ := hp
    have hml : maxLen ≤ 9223372036854775807 := by decide
    have hw : IntKind.i64.wrap (n - ((bs.map plC).length : Int)) = n - bs.length := by rw [List.length_map]; exact wrap64 (by omega)
    refine And.intro (fun h1 => ?_) (fun h1 => ?_)
    · have h1 := of_decide_eq_true h1
      rw [hw] at h1
      refine fin_i hp ?_
      rw [szB_neg (by simp only [wtPlace]; omega)]
    have h1 := of_decide_eq_false h1
    refine Exists.intro false (Exists.intro [0, 1, 5] (Exists.intro (fun m vs h => ∃ i : Nat, i ≤ bs.length ∧ m = bs.length - i ∧ 0 ≤ n - bs.length - ((bs.take i).map wPb).sum ∧ vs = [.imm t z 4 (bs.map plC), .v (.int .i64 (n - bs.length - ((bs.take i).map wPb).sum)), .v (.int .i64 i)] ∧ h = []) (And.intro ?_ ?_)))
    · refine Exists.intro bs.length ?_
      refine ⟨0, by omega, rfl, ?_, ?_, rfl⟩
      · rw [hw] at h1; simp; omega
      · rw [hw]; simp
    · rw [hw] at h1
      clear hw
      intro m vs h hI
      obtain ⟨i, hi, rfl, hs0, rfl, rfl⟩ := hI
      refine And.intro (fun h2 => ?_) (fun h2 => ?_)
      · simp only [decide_eq_true_eq, List.length_map] at h2
        have hlt : i < bs.length := by omega
        obtain ⟨b, hbi⟩ : ∃ b, bs[i]? = some b := ⟨_, List.getElem?_eq_getElem hlt⟩
        have hbb := hbig b (List.mem_of_getElem? hbi)
        have hst := sum_take (f := wPb) hbi
        have hle := sum_take_le wPb bs (i + 1)
        generalize hS : ((bs.take i).map wPb).sum = S at *
        generalize hS1 : ((bs.take (i + 1)).map wPb).sum = S1 at *
        have hlt2 : i < (bs.length : Int) := by omega
        refine Exists.intro i (And.intro rfl (Exists.intro (plC b) (And.intro (get_map hbi) ?_)))
        refine Exists.intro b (And.intro ⟨_, _, rfl⟩ (And.intro hbb (And.intro hs0 (And.intro (by omega) ?_))))
        refine And.intro (fun h3 => ?_) (fun h3 => ?_)
        · have h3 := of_decide_eq_true h3
          refine fin_i hp ?_
          try rw [List.length_map] at h3
          have h3 : n - bs.length - (S : Int) < (wPb b : Nat) := szB_lt hs0 h3
          rw [szB_neg (by simp only [wtPlace]; omega)]
        · have h3 := of_decide_eq_false h3
          refine Exists.intro (bs.length - (i + 1)) (And.intro (by omega) ?_)
          try rw [List.length_map] at h3
          have h3 : (wPb b : Nat) ≤ n - bs.length - (S : Int) := szB_ge hs0 h3
          refine ⟨i + 1, by omega, rfl, ?_, ?_, rfl⟩
          · rw [hS1]; omega
          · rw [wrap_succ hlt (by omega), hS1, show n - (bs.length : Int) - (S1 : Int) = n - bs.length - S - (wPb b : Nat) by omega]
            (try rw [List.length_map])
            rw [← szB_pos h3]
            try rfl
      · simp only [decide_eq_false_iff_not, List.length_map] at h2
        have : i = bs.length := by omega
        subst this
        rw [List.take_length] at hs0 ⊢
        refine fin_i hp ?_
        rw [szB_pos (by simp only [wtPlace]; omega)]
        simp only [wtPlace]
        omega
  · exact hp.elim

/-! ### TargetS: the size of a slice with what its elements hold (printed by gen/szl.py) -/

def wtTargetS (bs : List (List Tg)) : Nat := bs.length + (bs.map List.length).sum
def hSzTargetS : CH := fun args hl K => match args, hl with
  | [.imm _ _ 1 l, .v (.int .i64 n)], [] => ∃ bs : List (List Tg), l = bs.map tgsC ∧ (∀ b ∈ bs, bigTgs b) ∧ bs.length ≤ maxLen ∧ 0 ≤ n ∧ n ≤ 1048576 ∧ K (.v (.int .i64 (szB n (wtTargetS bs)))) []
  | _, _ => False
def cx_s_szTargetSS : Ctx := mkC [(87, callM [] true hSzTgs)]
theorem cx_s_szTargetSS_ok : CtxOk Tryz.prog cx_s_szTargetSS := mkC_ok (mem1 ⟨s_szTargetSc, fnOk Tryz.func87 rfl rfl⟩ mem0)
set_option maxRecDepth 100000 in
set_option pp.maxSteps 1500 in
theorem s_szTargetSS : HSound Tryz.prog 36 (callM [] true hSzTargetS) := by
  refine callM_sound cx_s_szTargetSS_ok mixed Tryz.func36 rfl fun args hl K hp => ?_
  unfold hSzTargetS at hp
  split at hp
  · rename_i t z l n
    obtain ⟨bs, rfl, hbig, hlen, hn0, hn1, hp⟩ := hp
    have hml : maxLen ≤ 9223372036854775807 := by decide
    have hw : IntKind.i64.wrap (n - ((bs.map tgsC).length : Int)) = n - bs.length := by rw [List.length_map]; exact wrap64 (by omega)
    refine And.intro (fun h1 => ?_) (fun h1 => ?_)
    · have h1 := of_decide_eq_true h1
      rw [hw] at h1
      refine fin_i hp ?_
      rw [szB_neg (by simp only [wtTargetS]; omega)]
    have h1 := of_decide_eq_false h1
    refine Exists.intro false (Exists.intro [0, 1, 5] (Exists.intro (fun m vs h => ∃ i : Nat, i ≤ bs.length ∧ m = bs.length - i ∧ 0 ≤ n - bs.length - ((bs.take i).map List.length).sum ∧ vs = [.imm t z 1 (bs.map tgsC), .v (.int .i64 (n - bs.length - ((bs.take i).map List.length).sum)), .v (.int .i64 i)] ∧ h = []) (And.intro ?_ ?_)))
    · refine Exists.intro bs.length ?_
      refine ⟨0, by omega, rfl, ?_, ?_, rfl⟩
      · rw [hw] at h1; simp; omega
      · rw [hw]; simp
    · rw [hw] at h1
      clear hw
      intro m vs h hI
      obtain ⟨i, hi, rfl, hs0, rfl, rfl⟩ := hI
      refine And.intro (fun h2 => ?_) (fun h2 => ?_)
      · simp only [decide_eq_true_eq, List.length_map] at h2
        have hlt : i < bs.length := by omega
        obtain ⟨b, hbi⟩ : ∃ b, bs[i]? = some b := ⟨_, List.getElem?_eq_getElem hlt⟩
        have hbb := hbig b (List.mem_of_getElem? hbi)
        have hst := sum_take (f := List.length) hbi
        have hle := sum_take_le List.length bs (i + 1)
        generalize hS : ((bs.take i).map List.length).sum = S at *
        generalize hS1 : ((bs.take (i + 1)).map List.length).sum = S1 at *
        have hlt2 : i < (bs.length : Int) := by omega
        refine Exists.intro i (And.intro rfl (Exists.intro (tgsC b) (And.intro (get_map hbi) ?_)))
        refine And.intro hs0 (And.intro (by omega) (And.intro (by simp only [bigTgs] at hbb; rw [List.length_map]; omega) ?_))
        refine And.intro (fun h3 => ?_) (fun h3 => ?_)
        · have h3 := of_decide_eq_true h3
          refine fin_i hp ?_
          try rw [List.length_map] at h3
          have h3 : n - bs.length - (S : Int) < (List.length b : Nat) := szB_lt hs0 h3
          rw [szB_neg (by simp only [wtTargetS]; omega)]
        · have h3 := of_decide_eq_false h3
          refine Exists.intro (bs.length - (i + 1)) (And.intro (by omega) ?_)
          try rw [List.length_map] at h3
          have h3 : (List.length b : Nat) ≤ n - bs.length - (S : Int) := szB_ge hs0 h3
          refine ⟨i + 1, by omega, rfl, ?_, ?_, rfl⟩
          · rw [hS1]; omega
          · rw [wrap_succ hlt (by omega), hS1, show n - (bs.length : Int) - (S1 : Int) = n - bs.length - S - (List.length b : Nat) by omega]
            (try rw [List.length_map])
            rw [← szB_pos h3]
            try rfl
      · simp only [decide_eq_false_iff_not, List.length_map] at h2
        have : i = bs.length := by omega
        subst this
        rw [List.take_length] at hs0 ⊢
        refine fin_i hp ?_
        rw [szB_pos (by simp only [wtTargetS]; omega)]
        simp only [wtTargetS]
        omega
  · exact hp.elim

def wtLa (l : La) : Nat := wtPlace l.pls + l.slots.length + wtTargetS l.tgts
structure bigLa (l : La) : Prop where
  pls : l.pls.length ≤ maxLen
  pl : ∀ p ∈ l.pls, bigPl p
  slots : l.slots.length ≤ maxLen
  tgts : l.tgts.length ≤ maxLen
  tg : ∀ t ∈ l.tgts, bigTgs t
theorem sum_wP (l : List Pl) : (l.map wP).sum = (l.map wPb).sum + 3 * l.length := by
  induction l with
  | nil => rfl
  | cons a l ih => simp only [List.map_cons, List.sum_cons, List.length_cons, ih, wP, wPb]; omega
theorem sum_wT (l : List (List Tg)) : (l.map wT).sum = 3 * (l.map List.length).sum := by
  induction l with
  | nil => rfl
  | cons a l ih => simp only [List.map_cons, List.sum_cons, ih, wT]; omega
theorem smLa_of_wt {l : La} (h : wtLa l ≤ 1048576) : smLa l := by
  simp only [wtLa, wtPlace, wtTargetS] at h
  refine ⟨by omega, fun p hp => ?_, ?_, by omega, by omega, fun t ht => ?_, ?_⟩
  · have := le_sum (f := wPb) hp; simp only [smPl, wPb] at *; omega
  · simp only [sumW]; rw [sum_wP]; omega
  · have := le_sum (f := List.length) ht; simp only [smTgs] at *; omega
  · simp only [sumW]; rw [sum_wT]; omega
def hSzLa : CH := fun args hl K => match args, hl with
  | [a, .v (.int .i64 n)], [] => ∃ l, LaV a l ∧ bigLa l ∧ 0 ≤ n ∧ n ≤ 1048576 ∧ K (.v (.int .i64 (szB n (wtLa l)))) []
  | _, _ => False
def cx_s_szLayout : Ctx := mkC [(34, callM [] true hSzPlace), (35, callM [] true hSzB), (36, callM [] true hSzTargetS)]
theorem cx_s_szLayout_ok : CtxOk Tryz.prog cx_s_szLayout := mkC_ok (mem1 ⟨s_szPlaceS, fnOk Tryz.func34 rfl rfl⟩ (mem1 ⟨s_szIntS, fnOk Tryz.func35 rfl rfl⟩ (mem1 ⟨s_szTargetSS, fnOk Tryz.func36 rfl rfl⟩ mem0)))
set_option maxRecDepth 100000 in
set_option pp.maxSteps 1500 in
set_option maxHeartbeats 4000000 in
theorem s_szLayout : HSound Tryz.prog 8 (callM [] true hSzLa) := by
  refine callM_sound cx_s_szLayout_ok mixed Tryz.func8 rfl fun args hl K hp => ?_
  unfold hSzLa at hp
  split at hp
  · rename_i a n
    obtain ⟨l, ⟨b1, z1, b2, z2, b3, z3, rfl⟩, ⟨g1, g2, g3, g4, g5⟩, hn0, hn1, hp⟩ := hp
    have hml : maxLen ≤ 9223372036854775807 := by decide
    refine Exists.intro l.pls (And.intro rfl (And.intro g2 (And.intro g1 (And.intro hn0 (And.intro hn1 ?_)))))
    refine And.intro (fun h => ?_) (fun h => ?_)
    · have h := szB_lt (by omega) (of_decide_eq_true h)
      refine fin_i hp ?_
      rw [szB_neg (by simp only [wtLa]; omega)]
    have h := of_decide_eq_false h
    have q1 := szB_pos (szB_ge (by omega) h)
    generalize szB n (wtPlace l.pls) = c1 at *
    refine And.intro (by omega) (And.intro (by omega) (And.intro (by rw [List.length_map]; omega) ?_))
    refine And.intro (fun h => ?_) (fun h => ?_)
    · have h := of_decide_eq_true h
      rw [List.length_map] at h
      have h := szB_lt (by omega) h
      refine fin_i hp ?_
      rw [szB_neg (by simp only [wtLa]; omega)]
    have h := of_decide_eq_false h
    rw [List.length_map] at *
    have q2 := szB_pos (szB_ge (by omega) h)
    generalize szB c1 l.slots.length = c2 at *
    refine Exists.intro l.tgts (And.intro rfl (And.intro g5 (And.intro g4 (And.intro (by omega) (And.intro (by omega) ?_)))))
    refine And.intro (fun h => ?_) (fun h => ?_)
    · have h := szB_lt (by omega) (of_decide_eq_true h)
      refine fin_i hp ?_
      rw [szB_neg (by simp only [wtLa]; omega)]
    have h := of_decide_eq_false h
    have q3 := szB_pos (szB_ge (by omega) h)
    generalize szB c2 (wtTargetS l.tgts) = c3 at *
    refine fin_i hp ?_
    rw [szB_pos (by simp only [wtLa]; omega)]
    simp only [wtLa]
    omega
  · exact hp.elim
def hToLa : CH := fun args hl K => match args, hl with
  | [a], [] => ∃ l, LaV a l ∧ smLa l ∧ K (.agg [.slc 0 0 l.pls.length false, .v (.int .i64 l.stack), .slc 1 0 l.slots.length false, .v (.int .i64 l.flash), .v (.int .i64 l.ram), .slc 2 0 l.tgts.length false]) [.lst 4 (l.pls.map plC), .lst 1 (l.slots.map intC), .lst 1 (l.tgts.map tgsC)]
  | _, _ => False
def cx_s_toLayout : Ctx := mkC [(40, callM [] true hToPlace), (41, callM [] true hToInt), (42, callM [] true hToTargetS)]
theorem cx_s_toLayout_ok : CtxOk Tryz.prog cx_s_toLayout := mkC_ok (mem1 ⟨s_toPlaceS, fnOk Tryz.func40 rfl rfl⟩ (mem1 ⟨s_toIntS, fnOk Tryz.func41 rfl rfl⟩ (mem1 ⟨s_toTargetSS, fnOk Tryz.func42 rfl rfl⟩ mem0)))
set_option maxRecDepth 100000 in
set_option pp.maxSteps 1500 in
set_option maxHeartbeats 4000000 in
theorem s_toLayout : HSound Tryz.prog 11 (callM [] true hToLa) := by
  refine callM_sound cx_s_toLayout_ok mixed Tryz.func11 rfl fun args hl K hp => ?_
  unfold hToLa at hp
  split at hp
  · rename_i a
    obtain ⟨l, ⟨b1, z1, b2, z2, b3, z3, rfl⟩, ⟨g1, g2, _, g3, g4, g5, _⟩, hp⟩ := hp
    refine Exists.intro l.pls (And.intro rfl (And.intro g2 (And.intro g1 ?_)))
    refine Exists.intro l.slots (And.intro rfl (And.intro g3 ?_))
    refine Exists.intro l.tgts (And.intro rfl (And.intro g5 (And.intro g4 ?_)))
    refine And.intro (closed_Place _) ?_
    refine And.intro (closed_Int _) ?_
    refine And.intro (closed_TargetS _) ?_
    exact hp
  · exact hp.elim
theorem sh_tg {n : Nat} (el : List AV) (hs : Sh Tryz.prog (n + 2) 51 el) : ∃ e, el = tgC e ∧ I64 e.mod ∧ I64 e.bank ∧ I64 e.pos := by
  unfold Sh at hs
  simp only [Tryz.underlying51] at hs
  obtain ⟨_, _, rfl, s1, _, _, rfl, s2, _, _, rfl, s3, rfl⟩ := hs
  obtain ⟨a, rfl, ha⟩ := sh_intC _ s1
  obtain ⟨b, rfl, hb⟩ := sh_intC _ s2
  obtain ⟨c, rfl, hc⟩ := sh_intC _ s3
  exact ⟨⟨a, b, c⟩, rfl, ha, hb, hc⟩
structure OkPl (p : Pl) : Prop where
  big : bigPl p
  text : I64 p.text
  banks : ∀ x ∈ p.banks, I64 x
  data : I64 p.data
  size : I64 p.size
theorem sh_pl {n : Nat} (el : List AV) (hs : Sh Tryz.prog (n + 3) 141 el) : ∃ p, el = plC p ∧ OkPl p := by
  unfold Sh at hs
  simp only [Tryz.underlying141] at hs
  obtain ⟨_, _, rfl, s1, _, _, rfl, s2, _, _, rfl, s3, _, _, rfl, s4, rfl⟩ := hs
  obtain ⟨a1, rfl, h1⟩ := sh_intC _ s1
  obtain ⟨a2, rfl, h2, g2⟩ := sh_intS _ s2
  obtain ⟨a3, rfl, h3⟩ := sh_intC _ s3
  obtain ⟨a4, rfl, h4⟩ := sh_intC _ s4
  exact ⟨⟨a1, a2, a3, a4⟩, rfl, ⟨g2, h1, h2, h3, h4⟩⟩
theorem sh_tgs {n : Nat} (el : List AV) (hs : Sh Tryz.prog (n + 3) 143 el) : ∃ b, el = tgsC b ∧ bigTgs b := by
  obtain ⟨bs, rfl, h1, h2⟩ := sh_slice Tryz.underlying143 (show Tryz.prog.cellsOf 51 = 3 by kernel_rfl) sh_tg hs
  exact ⟨bs, rfl, h2⟩
structure OkLa (l : La) : Prop where
  big : bigLa l
  pls : ∀ p ∈ l.pls, OkPl p
  stack : I64 l.stack
  slots : ∀ x ∈ l.slots, I64 x
  flash : I64 l.flash
  ram : I64 l.ram
theorem sh_la {n : Nat} (el : List AV) (hs : Sh Tryz.prog (n + 5) 27 el) : ∃ l, el = [.sl 4 (l.pls.map plC), .v (.int .i64 l.stack), .sl 1 (l.slots.map intC), .v (.int .i64 l.flash), .v (.int .i64 l.ram), .sl 1 (l.tgts.map tgsC)] ∧ OkLa l := by
  unfold Sh at hs
  simp only [Tryz.underlying27] at hs
  obtain ⟨_, _, rfl, s1, _, _, rfl, s2, _, _, rfl, s3, _, _, rfl, s4, _, _, rfl, s5, _, _, rfl, s6, rfl⟩ := hs
  obtain ⟨a1, rfl, h1, g1⟩ := sh_slice Tryz.underlying23 (show Tryz.prog.cellsOf 141 = 4 by kernel_rfl) sh_pl s1
  obtain ⟨a2, rfl, h2⟩ := sh_intC _ s2
  obtain ⟨a3, rfl, h3, g3⟩ := sh_intS _ s3
  obtain ⟨a4, rfl, h4⟩ := sh_intC _ s4
  obtain ⟨a5, rfl, h5⟩ := sh_intC _ s5
  obtain ⟨a6, rfl, h6, g6⟩ := sh_slice Tryz.underlying25 (show Tryz.prog.cellsOf 143 = 1 by kernel_rfl) sh_tgs s6
  exact ⟨⟨a1, a2, a3, a4, a5, a6⟩, rfl, ⟨⟨g1, fun p hp => (h1 p hp).big, g3, g6, h6⟩, h1, h2, h3, h4, h5⟩⟩
theorem arg_la {n : Nat} {c : List AV} {x : AV} (hs : Sh Tryz.prog (n + 5) 27 c) (ha : ArgOf Tryz.prog 27 c x) : ∃ l : La, LaV x l ∧ OkLa l := by
  simp only [ArgOf, Tryz.underlying27] at ha
  obtain ⟨l, rfl, hl⟩ := sh_la _ hs
  exact ⟨l, ⟨_, _, _, _, _, _, ha⟩, hl⟩
end Go.Proofs.YtbfjkjdbdejnmaaGreat.Ab

/- Modules of a list: marked, with a bound. No condition. -/
namespace Go.Proofs.YtbfjkjdbdejnmaaGreat.Ab
set_option linter.unusedVariables false
set_option linter.unusedSimpArgs false

def hMarkMoS2 : CH := fun args hl K => match args, hl with
  | [.slc 0 0 n _, .v (.int .i64 k)], [.lst 8 L] => ∃ bs : List Mo, L = bs.map moC ∧ n = bs.length ∧ wtModule bs ≤ 1048576 ∧ k = 1 ∧ ∀ (q : Int) (cs : List Mo), 0 ≤ q → q ≤ 8388608 → cs.length = bs.length → K (.v (.int .i64 q)) [.lst 8 (cs.map moC)]
  | _, _ => False
def cx_s_markModuleS2 : Ctx := mkC [(55, callM [] false hMkText), (56, callM [.rw] false hMarkInt), (57, callM [.rw] false hMarkIntSS), (58, callM [.rw] false hMarkByte), (59, callM [.rw] false hMarkString), (60, callM [.rw] false hMarkExport)]
theorem cx_s_markModuleS2_ok : CtxOk Tryz.prog cx_s_markModuleS2 := mkC_ok (mem1 ⟨s_markText, fnOk Tryz.func55 rfl rfl⟩ (mem1 ⟨s_markIntS, fnOk Tryz.func56 rfl rfl⟩ (mem1 ⟨s_markIntSS, fnOk Tryz.func57 rfl rfl⟩ (mem1 ⟨s_markByteS, fnOk Tryz.func58 rfl rfl⟩ (mem1 ⟨s_markStringS, fnOk Tryz.func59 rfl rfl⟩ (mem1 ⟨s_markExportS, fnOk Tryz.func60 rfl rfl⟩ mem0))))))
set_option maxRecDepth 100000 in
set_option pp.maxSteps 1500 in
set_option maxHeartbeats 8000000 in
theorem s_markModuleS2 : HSound Tryz.prog 18 (callM [.rw] false hMarkMoS2) := by
  refine callM_sound cx_s_markModuleS2_ok mixed Tryz.func18 rfl fun args hl K hp => ?_
  unfold hMarkMoS2 at hp
  split at hp
  · rename_i n z0 k _
    obtain ⟨bs, rfl, rfl, hw, rfl, hp⟩ := hp
    simp only [wtModule] at hw
    refine Exists.intro true (Exists.intro [0, 1, 5] (Exists.intro (fun m vs h => ∃ (i : Nat) (q : Int) (cs : List Mo), i ≤ bs.length ∧ m = bs.length - i ∧ 0 ≤ q ∧ q ≤ 1 + 3 * (((bs.take i).map wtMo).sum : Nat) + 2 * (i : Int) ∧ cs.length = bs.length ∧ (∀ k, i ≤ k → cs[k]? = bs[k]?) ∧ vs = [.slc 0 0 bs.length false, .v (.int .i64 q), .v (.int .i64 i)] ∧ h = [.lst 8 (cs.map moC)]) (And.intro ?_ ?_)))
    · refine Exists.intro [] ?_
      refine And.intro (closed_Module _) ?_
      exact Exists.intro bs.length ⟨0, 1, bs, by omega, rfl, by omega, by simp, rfl, fun _ _ => rfl, rfl, rfl⟩
    intro m vs h hI
    obtain ⟨i, q, cs, hi, rfl, hq0, hq1, hcl, hck, rfl, rfl⟩ := hI
    refine And.intro (fun h1 => ?_) (fun h1 => ?_)
    · have h1 := of_decide_eq_true h1
      have hlt : i < bs.length := by omega
      obtain ⟨b, hb⟩ : ∃ b, bs[i]? = some b := ⟨_, List.getElem?_eq_getElem hlt⟩
      have hcb : cs[i]? = some b := by rw [hck i (Nat.le_refl i), hb]
      have hst := sum_take (f := wtMo) hb
      have hle := sum_take_le wtMo bs (i + 1)
      have hwb : wtMo b ≤ 1048576 := by omega
      have hsm := sm_of_wt hwb
      have hbk : lensB b.banks ≤ 1048576 := by simp only [wtMo, wtIntS] at hwb; simp only [lensB]; omega
      have hW : (b.text.length + lensB b.banks + b.data.length + b.rels.length + b.imps.length + 3 * b.exps.length : Int) ≤ 3 * (wtMo b : Nat) := by
        simp only [wtMo, wtIntS, wtString, wtExport, lensB]
        omega
      generalize ((bs.take i).map wtMo).sum = S0 at *
      generalize hS1 : ((bs.take (i + 1)).map wtMo).sum = S1 at *
      have hg : (cs.map moC)[0 + i]? = some (moC b) := by rw [Nat.zero_add]; exact get_map hcb
      have hLl : (cs.map moC).length = bs.length := by rw [List.length_map, hcl]
      have hiL : 0 + i < (cs.map moC).length := by omega
      have hcs : ∀ m' : Mo, ((cs.set i m').map moC) = (cs.map moC).set (0 + i) (moC m') := fun m' => by rw [Nat.zero_add, List.map_set]
      generalize cs.map moC = L at *
      obtain ⟨g0, g1, g2, g3, g4, g5, g6, g7, g8, g9⟩ := hsm
      have hgs : ∀ (M : List (List AV)) (e : List AV), M.length = L.length → (M.set (0 + i) e)[0 + i]? = some e := fun M e hM => get_set (by omega)
      have j1 : (b.text.map intC).length = b.text.length := List.length_map _
      have j2 : (b.banks.map bankC).length = b.banks.length := List.length_map _
      have j3 : (b.data.map byteC).length = b.data.length := List.length_map _
      have j4 : (b.rels.map intC).length = b.rels.length := List.length_map _
      have j5 : (b.imps.map strC).length = b.imps.length := List.length_map _
      have j6 : (b.exps.map exC).length = b.exps.length := List.length_map _
      have hw1 : IntKind.i64.wrap (q + 1) = q + 1 := wrap64 (by omega)
      have hw2 : IntKind.i64.wrap (IntKind.i64.wrap (q + 1) + ((b.text.map intC).length : Int) + (lensB b.banks : Int) + ((b.data.map byteC).length : Int) + 1) = q + 1 + b.text.length + lensB b.banks + b.data.length + 1 := by rw [hw1, j1, j3]; exact wrap64 (by omega)
      repeat' (first
        | refine And.intro (by omega) (And.intro (by omega) ?_)
        | refine Exists.intro i (And.intro rfl (And.intro hlt ?_))
        | refine Exists.intro _ (And.intro hg (And.intro (by decide) ?_))
        | refine Exists.intro _ (And.intro (hgs _ _ (by simp only [List.length_set])) (And.intro (by decide) ?_))
        | refine And.intro (closed_Int _) ?_
        | refine And.intro (closed_bytes _) ?_
        | refine And.intro (closed_IntS _) ?_
        | refine And.intro (closed_String _) ?_
        | refine And.intro (closed_Export _) ?_
        | refine Exists.intro b.text (And.intro rfl (And.intro (List.length_map _) (And.intro g1 (And.intro (by omega) (And.intro (by omega) ?_)))))
        | refine Exists.intro b.banks (And.intro rfl (And.intro (List.length_map _) (And.intro g2 (And.intro hbk (And.intro (by omega) (And.intro (by omega) ?_))))))
        | refine Exists.intro b.data (And.intro rfl (And.intro (List.length_map _) (And.intro g4 (And.intro (by omega) (And.intro (by omega) ?_)))))
        | refine Exists.intro b.rels (And.intro rfl (And.intro (List.length_map _) (And.intro g5 (And.intro (by omega) (And.intro (by omega) ?_)))))
        | refine Exists.intro b.imps (And.intro rfl (And.intro (List.length_map _) (And.intro g6 (And.intro (by omega) (And.intro (by omega) ?_)))))
        | refine Exists.intro b.exps (And.intro rfl (And.intro (List.length_map _) (And.intro g8 (And.intro (by omega) (And.intro (by omega) ?_)))))
        | fail)
      have hkS : ∀ (k : Int) (n : Nat), ((marksString k n).map strC).length = n := fun k n => by simp [marksString]
      have hkE : ∀ (k : Int) (n : Nat), ((marksExport k n).map exC).length = n := fun k n => by simp [marksExport]
      have hkI : ∀ (k : Int) (n : Nat), ((marksInt k n).map intC).length = n := fun k n => by simp [marksInt]
      have hkB : ∀ (k : Int) (n : Nat), ((marksByte k n).map byteC).length = n := fun k n => by simp [marksByte]
      have hkK : ∀ (k : Int), ((markBk k b.banks).map bankC).length = (b.banks.map bankC).length := fun k => by rw [List.length_map, List.length_map, markBk_len]
      refine Exists.intro [(0, 0 + i, 1), (0, 0 + i, 2), (0, 0 + i, 3), (0, 0 + i, 5), (0, 0 + i, 6), (0, 0 + i, 7)] ?_
      repeat' (first
        | refine Exists.intro _ (And.intro (hgs _ _ (by simp only [List.length_set])) ?_)
        | refine Exists.intro _ (And.intro (List.take_of_length_le (Nat.le_of_eq (hkI _ _))) (And.intro (hkI _ _) (And.intro (closed_Int _) ?_)))
        | refine Exists.intro _ (And.intro (List.take_of_length_le (Nat.le_of_eq (hkK _))) (And.intro (hkK _) (And.intro (closed_IntS _) ?_)))
        | refine Exists.intro _ (And.intro (List.take_of_length_le (Nat.le_of_eq (hkB _ _))) (And.intro (hkB _ _) (And.intro (closed_bytes _) ?_)))
        | refine Exists.intro _ (And.intro (List.take_of_length_le (Nat.le_of_eq (hkS _ _))) (And.intro (hkS _ _) (And.intro (closed_String _) ?_)))
        | refine Exists.intro _ (And.intro (List.take_of_length_le (Nat.le_of_eq (hkE _ _))) (And.intro (hkE _ _) (And.intro (closed_Export _) ?_)))
        | fail)
      simp only [List.set_set]
      refine And.intro (clo_set hcs ⟨_, _, _, _, _, _, _, _⟩) ?_
      refine Exists.intro (bs.length - (i + 1)) (And.intro (by omega) ⟨i + 1, IntKind.i64.wrap (IntKind.i64.wrap (q + 1) + ((b.text.map intC).length : Int) + (lensB b.banks : Int) + ((b.data.map byteC).length : Int) + 1) + ((b.rels.map intC).length : Int) + ((b.imps.map strC).length : Int) + 3 * ((b.exps.map exC).length : Int), cs.set i ⟨_, _, _, _, _, _, _, _⟩, by omega, rfl, ?_, ?_, by rw [List.length_set, hcl], fun k hk => ?_, ?_, congrArg (fun l => [Root.lst 8 l]) (hcs ⟨_, _, _, _, _, _, _, _⟩).symm⟩)
      · rw [hw2]
        omega
      · rw [hw2, hS1]
        omega
      · rw [List.getElem?_set_ne (by omega)]
        exact hck k (by omega)
      · rw [wrap_succ hlt (by omega)]
    · have h1 := of_decide_eq_false h1
      refine And.intro (closed_Module _) ?_
      exact hp q cs hq0 (by have := sum_take_le wtMo bs i; omega) hcl
  · exact hp.elim
end Go.Proofs.YtbfjkjdbdejnmaaGreat.Ab
