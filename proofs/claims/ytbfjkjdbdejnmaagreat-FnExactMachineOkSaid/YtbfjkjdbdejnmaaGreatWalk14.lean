/- Functions walked, part 14. No condition. -/
import Derived.Test.YtbfjkjdbdejnmaaGreatWalk13
import Derived.Test.YtbfjkjdbdejnmaaGreatWalk11
set_option linter.unusedVariables false
set_option linter.unusedSimpArgs false
/- Plans of the reference. No condition. -/
namespace Go.Proofs.YtbfjkjdbdejnmaaGreat.Ab
set_option linter.unusedVariables false
set_option linter.unusedSimpArgs false
set_option maxRecDepth 100000

def hWithS : CH := fun args hl K => match args, hl with
  | [.slc 0 0 n _, .v (.int .i64 a), .v (.int .i64 s), .v (.bool r), .v (.bool w), .v (.bool x)], [.lst 6 L] => ∃ rs : List Rg, L = rs.map regC ∧ n = rs.length ∧ rs.length ≤ 1048576 ∧ I64 a ∧ I64 s ∧
      (covW a s r w x = [] → K (.slc 0 0 rs.length false) [.lst 6 (rs.map regC)]) ∧ K (.slc 1 0 (rs ++ covW a s r w x).length false) [.dead, .lst 6 ((rs ++ covW a s r w x).map regC)]
  | _, _ => False
theorem covW_take {C : List Rg} {r w x : Bool} {i : Nat} {g : Rg} (h : C[i]? = some g) : (C.take (i + 1)).map (rgW r w x) = (C.take i).map (rgW r w x) ++ [rgW r w x g] := by
  rw [List.take_add_one, h]
  simp
def cx_s_l6With : Ctx := mkC [(143, callM [] false hCover)]
theorem cx_s_l6With_ok : CtxOk Tryz.prog cx_s_l6With := mkC_ok (mem1 ⟨s_spec_Cover, fnOk Tryz.func143 rfl rfl⟩ mem0)
set_option maxRecDepth 100000 in
set_option pp.maxSteps 1500 in
set_option maxHeartbeats 8000000 in
theorem s_l6With : HSound Tryz.prog 92 (callM [.rw] false hWithS) := by
  refine callM_sound cx_s_l6With_ok mixed Tryz.func92 rfl fun args hl K hp => ?_
  unfold hWithS at hp
  split at hp
  · rename_i n z0 a s r w x L
    obtain ⟨rs, rfl, rfl, hrs, ia, is, hp1, hp2⟩ := hp
    refine Or.inl ?_
    refine And.intro ia (And.intro is ?_)
    have hcl := covL_len a s
    unfold covW at hp1 hp2
    generalize hC : covL a s = C at *
    refine Exists.intro true (Exists.intro [0, 3, 4, 5, 13, 15] (Exists.intro (fun m vs h => ∃ i : Nat, i ≤ C.length ∧ m = C.length - i ∧ ((i = 0 ∧ vs = [.slc 0 0 rs.length false, .v (.bool r), .v (.bool w), .v (.bool x), .slc 1 0 C.length false, .v (.int .i64 0)] ∧ h = [.lst 6 (rs.map regC), .lst 6 (C.map regC)]) ∨
      (vs = [.slc 1 0 (rs ++ (C.take i).map (rgW r w x)).length false, .v (.bool r), .v (.bool w), .v (.bool x), .slc 2 0 C.length false, .v (.int .i64 i)] ∧ h = [.dead, .lst 6 ((rs ++ (C.take i).map (rgW r w x)).map regC), .lst 6 (C.map regC)]))) (And.intro ?_ ?_)))
    · refine Exists.intro [] ?_
      refine And.intro (closed_Region _) (And.intro (closed_Region _) ?_)
      exact Exists.intro C.length ⟨0, by omega, rfl, Or.inl ⟨rfl, rfl, rfl⟩⟩
    · intro m vs h hI
      obtain ⟨i, hi, rfl, hI⟩ := hI
      rcases hI with ⟨rfl, rfl, rfl⟩ | ⟨rfl, rfl⟩
      · refine And.intro (fun h1 => ?_) (fun h1 => ?_)
        · have h1 := of_decide_eq_true h1
          have hlt : 0 < C.length := by omega
          obtain ⟨g, hg⟩ : ∃ g, C[0]? = some g := ⟨_, List.getElem?_eq_getElem hlt⟩
          have hst := covW_take (r := r) (w := w) (x := x) hg
          have hgm := get_map (f := regC) hg
          have hwi : IntKind.i64.wrap (0 + 1) = ((0 + 1 : Nat) : Int) := by decide
          refine Exists.intro 0 (And.intro rfl (And.intro hlt ?_))
          refine Exists.intro _ (And.intro hgm (And.intro (by decide) ?_))
          refine Exists.intro [regC (rgW r w x g)] (And.intro rfl (And.intro rfl (And.intro (reg_notSl _) ?_)))
          refine And.intro (List.length_map _) (And.intro (by simp; omega) (And.intro (by simp; omega) ?_))
          refine Exists.intro [] ?_
          refine And.intro (closed_app (closed_Region rs) (closed_Region [rgW r w x g])) (And.intro (closed_Region _) ?_)
          refine Exists.intro (C.length - 1) (And.intro (by omega) ⟨1, by omega, rfl, Or.inr ⟨?_, ?_⟩⟩)
          · rw [hwi, hst]
            simp
          · rw [hst]
            simp
        · have h1 := of_decide_eq_false h1
          have hc : C = [] := List.eq_nil_of_length_eq_zero (by omega)
          subst hc
          refine And.intro (closed_Region _) ?_
          exact hp1 rfl
      · refine And.intro (fun h1 => ?_) (fun h1 => ?_)
        · have h1 := of_decide_eq_true h1
          have hlt : i < C.length := by omega
          obtain ⟨g, hg⟩ : ∃ g, C[i]? = some g := ⟨_, List.getElem?_eq_getElem hlt⟩
          have hst := covW_take (r := r) (w := w) (x := x) hg
          have hgm : (C.map regC)[0 + i]? = some (regC g) := by rw [Nat.zero_add]; exact get_map hg
          have hwi : IntKind.i64.wrap ((i : Int) + 1) = ((i + 1 : Nat) : Int) := wrap_succ hlt (by omega)
          have htl : ((C.take i).map (rgW r w x)).length ≤ 8192 := by rw [List.length_map, List.length_take]; omega
          generalize (C.take i).map (rgW r w x) = T at *
          refine Exists.intro i (And.intro rfl (And.intro hlt ?_))
          refine Exists.intro _ (And.intro hgm (And.intro (by decide) ?_))
          refine Exists.intro [regC (rgW r w x g)] (And.intro rfl (And.intro rfl (And.intro (reg_notSl _) ?_)))
          refine And.intro (List.length_map _) (And.intro (by simp; omega) (And.intro (by simp; omega) ?_))
          refine Exists.intro [] ?_
          refine And.intro (closed_app (closed_Region (rs ++ T)) (closed_Region [rgW r w x g])) (And.intro (closed_Region _) ?_)
          refine Exists.intro (C.length - (i + 1)) (And.intro (by omega) ⟨i + 1, by omega, rfl, Or.inr ⟨?_, ?_⟩⟩)
          · rw [hwi, hst]
            simp
            try omega
          · rw [hst]
            simp
        · have h1 := of_decide_eq_false h1
          rw [List.take_of_length_le (by omega)]
          refine And.intro (closed_Region _) ?_
          exact hp2
  · exact hp.elim
def hOrigin : CH := fun args hl K => match args, hl with
  | [a, .agg [.v (.int .i64 i), .v (.int .i64 b), .v (.int .i64 _)], .v (.int .i64 s)], [] => ∃ (l : La) (p : Pl) (I : Nat), LaV a l ∧ i = I ∧ l.pls[I]? = some p ∧ (b = -1 ∨ (0 ≤ b ∧ (s < 0 → b < p.banks.length) ∧ s < l.slots.length)) ∧ K (.v (.int .i64 (originF l p b s))) []
  | _, _ => False
def cx_s_l6Origin : Ctx := mkC []
theorem cx_s_l6Origin_ok : CtxOk Tryz.prog cx_s_l6Origin := cx0_ok
set_option maxRecDepth 100000 in
set_option pp.maxSteps 1500 in
theorem s_l6Origin : HSound Tryz.prog 93 (callM [] true hOrigin) := by
  refine callM_sound cx_s_l6Origin_ok mixed Tryz.func93 rfl fun args hl K hp => ?_
  unfold hOrigin at hp
  split at hp
  · rename_i a i b e s
    obtain ⟨l, p, I, ⟨b1, z1, b2, z2, b3, z3, rfl⟩, rfl, hpl, hbs, hp⟩ := hp
    unfold originF at hp
    refine Exists.intro I (And.intro rfl (Exists.intro (plC p) (And.intro (get_map hpl) ?_)))
    refine And.intro (fun h1 => ?_) (fun h1 => ?_)
    · rw [if_pos (by simpa using h1)] at hp
      exact hp
    have h1 : ¬ b = -1 := by simpa using h1
    rw [if_neg h1] at hp
    have hbs : 0 ≤ b ∧ (s < 0 → b < p.banks.length) ∧ s < l.slots.length := by rcases hbs with h | h; exact absurd h h1; exact h
    obtain ⟨B, rfl⟩ := Int.eq_ofNat_of_zero_le hbs.1
    refine And.intro (fun h2 => ?_) (fun h2 => ?_)
    · have h2 := of_decide_eq_true h2
      have h3 := hbs.2.1 h2
      obtain ⟨x, hx⟩ : ∃ x, p.banks[B]? = some x := ⟨_, List.getElem?_eq_getElem (by omega)⟩
      refine Exists.intro B (And.intro rfl (Exists.intro (intC x) (And.intro (get_map hx) ?_)))
      rw [if_pos h2, Int.toNat_natCast, List.getD_eq_getElem?_getD, hx] at hp
      exact hp
    · have h2 := of_decide_eq_false h2
      obtain ⟨S, rfl⟩ := Int.eq_ofNat_of_zero_le (show 0 ≤ s by omega)
      obtain ⟨x, hx⟩ : ∃ x, l.slots[S]? = some x := ⟨_, List.getElem?_eq_getElem (by omega)⟩
      refine Exists.intro S (And.intro rfl (Exists.intro (intC x) (And.intro (get_map hx) ?_)))
      rw [if_neg h2, Int.toNat_natCast, List.getD_eq_getElem?_getD, hx] at hp
      exact hp
  · exact hp.elim
end Go.Proofs.YtbfjkjdbdejnmaaGreat.Ab

/- Plans of the reference: one plan. No condition. -/
namespace Go.Proofs.YtbfjkjdbdejnmaaGreat.Ab
set_option linter.unusedVariables false
set_option linter.unusedSimpArgs false
set_option maxRecDepth 100000

def hPlanS : CH := fun args hl K => match args, hl with
  | [.imm _ _ 8 L, a, .agg [.v (.int .i64 i), .v (.int .i64 b), .v (.int .i64 e)], .v (.int .i64 s)], [] => ∃ (ms : List Mo) (l : La) (p : Pl) (m : Mo) (ws : List Int) (I : Nat), L = ms.map moC ∧ LaV a l ∧ smMo m ∧ i = I ∧ l.pls[I]? = some p ∧ ms[I]? = some m ∧ pieceOf m b = some ws ∧ ws.length ≤ 200 ∧ (b = -1 ∨ (0 ≤ b ∧ (s < 0 → b < p.banks.length) ∧ s < l.slots.length)) ∧
      I64 p.data ∧ I64 p.size ∧ I64 l.stack ∧ I64 (originF l p b s) ∧ K (.slc 0 0 (planL l p m b s).length false) [.lst 6 ((planL l p m b s).map regC)]
  | _, _ => False
theorem wrapI (x : Int) : I64 (IntKind.i64.wrap x) := by
  simp only [I64, IntKind.wrap, IntKind.bits, IntKind.signed, Bool.true_and]
  split <;> rename_i q <;> simp at q <;> omega
theorem covW_len (a s : Int) (r w x : Bool) : (covW a s r w x).length ≤ 8192 := by
  unfold covW
  rw [List.length_map]
  exact covL_len a s
theorem fin_rs {K : AV → HP → Prop} {A B : List Rg} (hp : K (.slc 0 0 A.length false) [.lst 6 (A.map regC)]) (e : A = B) : K (.slc 0 0 B.length false) [.lst 6 (B.map regC)] := e ▸ hp
def cx_s_l6Plan : Ctx := mkCut [(91, callM [] false hPiece), (92, callM [.rw] false hWithS), (88, callM [] true hEnds), (93, callM [] true hOrigin), (94, callM [] false hRup)]
theorem cx_s_l6Plan_ok : CtxOk Tryz.prog cx_s_l6Plan := mkCut_ok (mem1 ⟨s_l4Piece, fnOk Tryz.func91 rfl rfl⟩ (mem1 ⟨s_l6With, fnOk Tryz.func92 rfl rfl⟩ (mem1 ⟨s_l5Ends, fnOk Tryz.func88 rfl rfl⟩ (mem1 ⟨s_l6Origin, fnOk Tryz.func93 rfl rfl⟩ (mem1 ⟨s_l5Round, fnOk Tryz.func94 rfl rfl⟩ mem0)))))
set_option maxRecDepth 100000 in
set_option pp.maxSteps 1500 in
set_option maxHeartbeats 32000000 in
theorem s_l6Plan : HSound Tryz.prog 38 (callM [] true hPlanS) := by
  refine callM_sound cx_s_l6Plan_ok mixed Tryz.func38 rfl fun args hl K hp => ?_
  unfold hPlanS at hp
  split at hp
  · rename_i t z L a i b e s
    obtain ⟨ms, l, p, m, ws, I, rfl, ⟨b1, z1, b2, z2, b3, z3, rfl⟩, hsm, rfl, hpl, hm, hpc, hws, hbs, id, iz, ist, io, hp⟩ := hp
    refine Or.inl ?_
    refine Exists.intro I (And.intro rfl (Exists.intro (plC p) (And.intro (get_map hpl) ?_)))
    have hwI : ∀ x, I64 (IntKind.i64.wrap x) := fun x => wrapI x
    have hl1 := covW_len p.data p.size true true false
    have hl2 := covW_len l.stack (stackF l) true true false
    refine Or.inl (Or.inl ?_)
    refine And.intro (show wfB _ = true from by kernel_rfl) ?_
    refine Exists.intro I (And.intro rfl (Exists.intro (moC m) (And.intro (get_map hm) ?_)))
    apply HeldC.all (fun x h2 => ∃ t' z', x = .tup [.imm t' z' 1 (ws.map intC), .v (.bool true)] ∧ h2 = [.box (laI l b1 z1 b2 z2 b3 z3), .box [.v (.int .i64 I), .v (.int .i64 b), .v (.int .i64 e)], .box [.v (.int .i64 p.text), .imm b1 false 1 (p.banks.map intC), .v (.int .i64 p.data), .v (.int .i64 p.size)]])
    · refine Exists.intro m (And.intro ⟨_, _, _, _, _, _, _, _, _, _, _, _, rfl⟩ (And.intro hsm ?_))
      rw [hpc]
      intro t' z'
      exact ⟨_, _, ⟨t', z', rfl, rfl⟩, rfl, rfl⟩
    rintro x h2 ⟨t', z', rfl, rfl⟩
    have c3 := covW_len 131072 32 false true false
    have c4 := covW_len (originF l p b s) (rup (4 * pieceLen m b)) false false true
    have hru := rup_le (4 * ws.length)
    have hpe : pieceLen m b = ws.length := by rw [pieceLen, hpc]
    rw [hpe] at c4
    have hplan : planL l p m b s = covW p.data p.size true true false ++ covW l.stack (stackF l) true true false ++ covW 131072 32 false true false ++ covW (originF l p b s) (rup (4 * ws.length) : Nat) false false true := by rw [planL, hpe]
    rw [hplan] at hp
    obtain ⟨R2, hR2⟩ : ∃ R2 : List Rg, R2 = covW p.data p.size true true false ++ covW l.stack (stackF l) true true false := ⟨_, rfl⟩
    have hR2l : R2.length ≤ 100000 := by rw [hR2, List.length_append]; omega
    rw [← hR2] at hp
    refine And.intro closed_nil ?_
    refine Exists.intro [] (And.intro rfl (And.intro rfl (And.intro (Nat.zero_le _) (And.intro id (And.intro iz (And.intro (fun hz1 => ?_) ?_))))))
    · refine Or.inr (Exists.intro true (Exists.intro [0, 3, 5, 6, 9, 10, 12] (Exists.intro (fun vs h => vs = [.imm t z 8 (ms.map moC), .v (.int .i64 s), .ptr 0 0 0 6, .ptr 1 0 0 3, .ptr 2 0 0 4, .imm t' z' 1 (ws.map intC), .slc 3 0 R2.length false] ∧
        h = [.box (laI l b1 z1 b2 z2 b3 z3), .box [.v (.int .i64 I), .v (.int .i64 b), .v (.int .i64 e)], .box [.v (.int .i64 p.text), .imm b1 false 1 (p.banks.map intC), .v (.int .i64 p.data), .v (.int .i64 p.size)], .lst 6 (R2.map regC)]) (And.intro ?_ ?_))))
      · refine Or.inl ?_
        refine And.intro (show wfB _ = true from by kernel_rfl) ?_
        apply HeldC.intro
        · refine Exists.intro l ?_
          refine And.intro ⟨_, _, _, _, _, _, rfl⟩ ?_
          exact And.intro rfl rfl
        repeat' (refine And.intro (And.intro rfl rfl) ?_)
        apply HeldC.all (fun x h2 => (covW l.stack (stackF l) true true false = [] ∧ x = .slc 3 0 ([] : List Rg).length false ∧ h2 = [.box (laI l b1 z1 b2 z2 b3 z3), .box [.v (.int .i64 I), .v (.int .i64 b), .v (.int .i64 e)], .box [.v (.int .i64 p.text), .imm b1 false 1 (p.banks.map intC), .v (.int .i64 p.data), .v (.int .i64 p.size)], .lst 6 (([] : List Rg).map regC)]) ∨
          (x = .slc 4 0 R2.length false ∧ h2 = [.box (laI l b1 z1 b2 z2 b3 z3), .box [.v (.int .i64 I), .v (.int .i64 b), .v (.int .i64 e)], .box [.v (.int .i64 p.text), .imm b1 false 1 (p.banks.map intC), .v (.int .i64 p.data), .v (.int .i64 p.size)], .dead, .lst 6 (R2.map regC)]))
        · refine And.intro (closed_Region _) ?_
          refine Exists.intro ([] : List Rg) ?_
          refine And.intro rfl (And.intro rfl (And.intro (by exact Nat.zero_le _) (And.intro ist (And.intro (hwI _) (And.intro (fun hz2 => ?_) ?_)))))
          · exact ⟨_, _, Or.inl ⟨hz2, rfl, rfl⟩, rfl, rfl⟩
          · rw [show ([] : List Rg) ++ covW l.stack (IntKind.i64.wrap (endsF l - l.stack)) true true false = R2 by rw [hR2, hz1]; rfl]
            exact ⟨_, _, Or.inr ⟨rfl, rfl⟩, rfl, rfl⟩
        rintro x h2 (⟨hz2, rfl, rfl⟩ | ⟨rfl, rfl⟩)
        · have hE : ([] : List Rg) = R2 := by rw [hR2, hz2, List.append_nil]; exact hz1.symm
          rw [hE]
          repeat' (refine And.intro (And.intro rfl rfl) ?_)
          refine Exists.intro [] ?_
          refine And.intro (closed_Region _) ?_
          exact And.intro rfl rfl
        · repeat' (refine And.intro (And.intro rfl rfl) ?_)
          refine Exists.intro [] ?_
          refine And.intro (closed_Region _) ?_
          exact And.intro rfl rfl
      · rintro vs h ⟨rfl, rfl⟩
        refine And.intro (closed_Region _) ?_
        refine Exists.intro R2 (And.intro rfl (And.intro rfl (And.intro (by omega) (And.intro (show I64 131072 by simp [I64]) (And.intro (show I64 32 by simp [I64]) (And.intro (fun hz3 => ?_) ?_))))))
        · refine Exists.intro l ?_
          refine Exists.intro p ?_
          refine Exists.intro I (And.intro ⟨_, _, _, _, _, _, rfl⟩ (And.intro rfl (And.intro hpl (And.intro hbs ?_))))
          refine Exists.intro (4 * ws.length) (And.intro (by rw [List.length_map, wrap64 (by omega)]; omega) (And.intro (by omega) ?_))
          refine And.intro (closed_Region _) ?_
          refine Exists.intro R2 ?_
          refine And.intro rfl (And.intro rfl (And.intro (by omega) (And.intro io (And.intro (show I64 ((rup (4 * ws.length) : Nat) : Int) by simp only [I64]; omega) (And.intro (fun hz4 => ?_) ?_)))))
          · refine And.intro (closed_Region _) ?_
            exact fin_rs hp (by rw [hz3, hz4]; simp)
          · refine And.intro (closed_Region _) ?_
            exact fin_rs hp (by rw [hz3]; simp)
        · refine Exists.intro l ?_
          refine Exists.intro p ?_
          refine Exists.intro I (And.intro ⟨_, _, _, _, _, _, rfl⟩ (And.intro rfl (And.intro hpl (And.intro hbs ?_))))
          refine Exists.intro (4 * ws.length) (And.intro (by rw [List.length_map, wrap64 (by omega)]; omega) (And.intro (by omega) ?_))
          refine And.intro (closed_Region _) ?_
          refine Exists.intro (R2 ++ covW 131072 32 false true false) ?_
          refine And.intro rfl (And.intro rfl (And.intro (by rw [List.length_append]; omega) (And.intro io (And.intro (show I64 ((rup (4 * ws.length) : Nat) : Int) by simp only [I64]; omega) (And.intro (fun hz4 => ?_) ?_)))))
          · refine And.intro (closed_Region _) ?_
            exact fin_rs hp (by rw [hz4]; simp)
          · refine And.intro (closed_Region _) ?_
            exact fin_rs hp (by rfl)
    · refine Or.inr (Exists.intro true (Exists.intro [0, 3, 5, 6, 9, 10, 12] (Exists.intro (fun vs h => vs = [.imm t z 8 (ms.map moC), .v (.int .i64 s), .ptr 0 0 0 6, .ptr 1 0 0 3, .ptr 2 0 0 4, .imm t' z' 1 (ws.map intC), .slc 3 0 R2.length false] ∧
        h = [.box (laI l b1 z1 b2 z2 b3 z3), .box [.v (.int .i64 I), .v (.int .i64 b), .v (.int .i64 e)], .box [.v (.int .i64 p.text), .imm b1 false 1 (p.banks.map intC), .v (.int .i64 p.data), .v (.int .i64 p.size)], .lst 6 (R2.map regC)]) (And.intro ?_ ?_))))
      · refine Or.inl ?_
        refine And.intro (show wfB _ = true from by kernel_rfl) ?_
        apply HeldC.intro
        · refine Exists.intro l ?_
          refine And.intro ⟨_, _, _, _, _, _, rfl⟩ ?_
          exact And.intro rfl rfl
        repeat' (refine And.intro (And.intro rfl rfl) ?_)
        apply HeldC.all (fun x h2 => (covW l.stack (stackF l) true true false = [] ∧ x = .slc 4 0 (covW p.data p.size true true false).length false ∧ h2 = [.box (laI l b1 z1 b2 z2 b3 z3), .box [.v (.int .i64 I), .v (.int .i64 b), .v (.int .i64 e)], .box [.v (.int .i64 p.text), .imm b1 false 1 (p.banks.map intC), .v (.int .i64 p.data), .v (.int .i64 p.size)], .dead, .lst 6 ((covW p.data p.size true true false).map regC)]) ∨
          (x = .slc 5 0 R2.length false ∧ h2 = [.box (laI l b1 z1 b2 z2 b3 z3), .box [.v (.int .i64 I), .v (.int .i64 b), .v (.int .i64 e)], .box [.v (.int .i64 p.text), .imm b1 false 1 (p.banks.map intC), .v (.int .i64 p.data), .v (.int .i64 p.size)], .dead, .dead, .lst 6 (R2.map regC)]))
        · refine And.intro (closed_Region _) ?_
          refine Exists.intro (covW p.data p.size true true false) ?_
          refine And.intro rfl (And.intro rfl (And.intro (by omega) (And.intro ist (And.intro (hwI _) (And.intro (fun hz2 => ?_) ?_)))))
          · exact ⟨_, _, Or.inl ⟨hz2, rfl, rfl⟩, rfl, rfl⟩
          · rw [show (covW p.data p.size true true false) ++ covW l.stack (IntKind.i64.wrap (endsF l - l.stack)) true true false = R2 by rw [hR2]; rfl]
            exact ⟨_, _, Or.inr ⟨rfl, rfl⟩, rfl, rfl⟩
        rintro x h2 (⟨hz2, rfl, rfl⟩ | ⟨rfl, rfl⟩)
        · have hE : (covW p.data p.size true true false) = R2 := by rw [hR2, hz2, List.append_nil]
          rw [hE]
          repeat' (refine And.intro (And.intro rfl rfl) ?_)
          refine Exists.intro [] ?_
          refine And.intro (closed_Region _) ?_
          exact And.intro rfl rfl
        · repeat' (refine And.intro (And.intro rfl rfl) ?_)
          refine Exists.intro [] ?_
          refine And.intro (closed_Region _) ?_
          exact And.intro rfl rfl
      · rintro vs h ⟨rfl, rfl⟩
        refine And.intro (closed_Region _) ?_
        refine Exists.intro R2 (And.intro rfl (And.intro rfl (And.intro (by omega) (And.intro (show I64 131072 by simp [I64]) (And.intro (show I64 32 by simp [I64]) (And.intro (fun hz3 => ?_) ?_))))))
        · refine Exists.intro l ?_
          refine Exists.intro p ?_
          refine Exists.intro I (And.intro ⟨_, _, _, _, _, _, rfl⟩ (And.intro rfl (And.intro hpl (And.intro hbs ?_))))
          refine Exists.intro (4 * ws.length) (And.intro (by rw [List.length_map, wrap64 (by omega)]; omega) (And.intro (by omega) ?_))
          refine And.intro (closed_Region _) ?_
          refine Exists.intro R2 ?_
          refine And.intro rfl (And.intro rfl (And.intro (by omega) (And.intro io (And.intro (show I64 ((rup (4 * ws.length) : Nat) : Int) by simp only [I64]; omega) (And.intro (fun hz4 => ?_) ?_)))))
          · refine And.intro (closed_Region _) ?_
            exact fin_rs hp (by rw [hz3, hz4]; simp)
          · refine And.intro (closed_Region _) ?_
            exact fin_rs hp (by rw [hz3]; simp)
        · refine Exists.intro l ?_
          refine Exists.intro p ?_
          refine Exists.intro I (And.intro ⟨_, _, _, _, _, _, rfl⟩ (And.intro rfl (And.intro hpl (And.intro hbs ?_))))
          refine Exists.intro (4 * ws.length) (And.intro (by rw [List.length_map, wrap64 (by omega)]; omega) (And.intro (by omega) ?_))
          refine And.intro (closed_Region _) ?_
          refine Exists.intro (R2 ++ covW 131072 32 false true false) ?_
          refine And.intro rfl (And.intro rfl (And.intro (by rw [List.length_append]; omega) (And.intro io (And.intro (show I64 ((rup (4 * ws.length) : Nat) : Int) by simp only [I64]; omega) (And.intro (fun hz4 => ?_) ?_)))))
          · refine And.intro (closed_Region _) ?_
            exact fin_rs hp (by rw [hz4]; simp)
          · refine And.intro (closed_Region _) ?_
            exact fin_rs hp (by rfl)
  · exact hp.elim
end Go.Proofs.YtbfjkjdbdejnmaaGreat.Ab

/- Plans of impl: rights given, lists joined. No condition. -/
namespace Go.Proofs.YtbfjkjdbdejnmaaGreat.Ab
set_option linter.unusedVariables false
set_option linter.unusedSimpArgs false
set_option maxRecDepth 100000

theorem with_step {rs : List Rg} {r w x : Bool} {i : Nat} {g : Rg} (h : rs[i]? = some g) : ((rs.take i).map (rgW r w x) ++ rs.drop i).set i (rgW r w x g) = (rs.take (i + 1)).map (rgW r w x) ++ rs.drop (i + 1) := by
  obtain ⟨hi, hb⟩ := List.getElem?_eq_some_iff.1 h
  have hl : ((rs.take i).map (rgW r w x)).length = i := by rw [List.length_map, List.length_take]; omega
  rw [List.set_append_right _ _ (by omega), hl, Nat.sub_self, List.drop_eq_getElem_cons hi, List.set_cons_zero, List.take_add_one, h]
  simp
theorem with_at {rs : List Rg} {r w x : Bool} {i : Nat} {g : Rg} (h : rs[i]? = some g) : ((rs.take i).map (rgW r w x) ++ rs.drop i)[i]? = some g := by
  obtain ⟨hi, hb⟩ := List.getElem?_eq_some_iff.1 h
  have hl : ((rs.take i).map (rgW r w x)).length = i := by rw [List.length_map, List.length_take]; omega
  rw [List.getElem?_append_right (by omega), hl, Nat.sub_self, List.getElem?_drop, Nat.add_zero, h]
def hWithI : CH := fun args hl K => match args, hl with
  | [.v (.bool r), .v (.bool w), .v (.bool x), .slc 0 0 n _], [.lst 6 L] => ∃ rs : List Rg, L = rs.map regC ∧ n = rs.length ∧ rs.length ≤ 1048576 ∧ K (.slc 0 0 rs.length false) [.lst 6 ((rs.map (rgW r w x)).map regC)]
  | _, _ => False
def cx_s_with : Ctx := mkC []
theorem cx_s_with_ok : CtxOk Tryz.prog cx_s_with := cx0_ok
set_option maxRecDepth 100000 in
set_option pp.maxSteps 1500 in
set_option maxHeartbeats 8000000 in
theorem s_with : HSound Tryz.prog 119 (callM [.ro, .ro, .ro, .rw] false hWithI) := by
  refine callM_sound cx_s_with_ok mixed Tryz.func119 rfl fun args hl K hp => ?_
  unfold hWithI at hp
  split at hp
  · rename_i r w x n z0 L
    obtain ⟨rs, rfl, rfl, hrs, hp⟩ := hp
    refine Or.inl ?_
    refine Exists.intro true (Exists.intro [0, 1, 2, 3, 11, 12] (Exists.intro (fun m vs h => ∃ i : Nat, i ≤ rs.length ∧ m = rs.length - i ∧ vs = [.v (.bool r), .v (.bool w), .v (.bool x), .slc 0 0 rs.length false, .v (.int .i64 rs.length), .v (.int .i64 i)] ∧ h = [.lst 6 (((rs.take i).map (rgW r w x) ++ rs.drop i).map regC)]) (And.intro ?_ ?_)))
    · refine Exists.intro [] ?_
      refine And.intro (closed_Region _) ?_
      exact Exists.intro rs.length ⟨0, by omega, rfl, rfl, rfl⟩
    · intro m vs h hI
      obtain ⟨i, hi, rfl, rfl, rfl⟩ := hI
      refine And.intro (fun h1 => ?_) (fun h1 => ?_)
      · have h1 := of_decide_eq_true h1
        have hlt : i < rs.length := by omega
        obtain ⟨g, hg⟩ : ∃ g, rs[i]? = some g := ⟨_, List.getElem?_eq_getElem hlt⟩
        have hst := with_step (r := r) (w := w) (x := x) hg
        have hat := get_map (f := regC) (with_at (r := r) (w := w) (x := x) hg)
        have hlen : (((rs.take i).map (rgW r w x) ++ rs.drop i).map regC).length = rs.length := by simp; omega
        have hst2 : ((rs.take (i + 1)).map (rgW r w x) ++ rs.drop (i + 1)).map regC = (((rs.take i).map (rgW r w x) ++ rs.drop i).map regC).set i (regC (rgW r w x g)) := by rw [← hst, List.map_set]
        have hcl := closed_Region ((rs.take (i + 1)).map (rgW r w x) ++ rs.drop (i + 1))
        rw [hst2] at hcl
        generalize ((rs.take i).map (rgW r w x) ++ rs.drop i).map regC = M at *
        have hat0 : M[0 + i]? = some (regC g) := by rw [Nat.zero_add]; exact hat
        have hgs : ∀ (N : List (List AV)) (e : List AV), N.length = M.length → (N.set (0 + i) e)[0 + i]? = some e := fun N e hN => get_set (by omega)
        repeat' (first
          | refine Exists.intro i (And.intro rfl (And.intro hlt ?_))
          | refine Exists.intro _ (And.intro hat0 (And.intro (by decide) ?_))
          | refine Exists.intro _ (And.intro (hgs _ _ (by simp only [List.length_set])) (And.intro (by decide) ?_))
          | refine And.intro (by decide) ?_
          | fail)
        refine Exists.intro [] ?_
        simp only [List.set_set, Nat.zero_add]
        refine And.intro (show ClosedL (M.set i (regC (rgW r w x g))) from hcl) ?_
        refine Exists.intro (rs.length - (i + 1)) (And.intro (by omega) ⟨i + 1, by omega, rfl, ?_, ?_⟩)
        · rw [wrap_succ hlt (by omega)]
        · rw [hst2]
          rfl
      · have h1 := of_decide_eq_false h1
        rw [List.take_of_length_le (by omega), List.drop_of_length_le (by omega), List.append_nil]
        refine And.intro (closed_Region _) ?_
        exact hp
  · exact hp.elim
def regsC (rs : List Rg) : List AV := [.sl 6 (rs.map regC)]
def hJoined : CH := fun args hl K => match args, hl with
  | [.imm _ _ 1 L], [] => ∃ ls : List (List Rg), L = ls.map regsC ∧ ls.length ≤ 8 ∧ (∀ rs ∈ ls, rs.length ≤ 10000) ∧ K (.slc 0 0 ls.flatten.length false) [.lst 6 (ls.flatten.map regC)]
  | _, _ => False
theorem flat_tk {ls : List (List Rg)} {i : Nat} {rs : List Rg} (h : ls[i]? = some rs) : (ls.take (i + 1)).flatten = (ls.take i).flatten ++ rs := by
  rw [List.take_add_one, h]
  simp
theorem flat_bd {ls : List (List Rg)} (h : ∀ rs ∈ ls, rs.length ≤ 10000) : ∀ i, (ls.take i).flatten.length ≤ 10000 * i
  | 0 => by simp
  | i + 1 => by
    have ih := flat_bd h i
    cases hi : ls[i]? with
    | some rs =>
      rw [flat_tk hi, List.length_append]
      have := h rs (List.mem_of_getElem? hi)
      omega
    | none =>
      rw [List.take_add_one, hi]
      simp only [Option.toList, List.append_nil]
      omega
theorem regs_notSl (rs : List Rg) : ∀ e ∈ rs.map regC, ∀ x ∈ e, x.isSl = false := by
  intro e he x hx
  obtain ⟨r, _, rfl⟩ := List.mem_map.1 he
  simp [regC] at hx
  rcases hx with rfl | rfl | rfl | rfl | rfl | rfl <;> rfl
def cx_s_joined : Ctx := mkC []
theorem cx_s_joined_ok : CtxOk Tryz.prog cx_s_joined := cx0_ok
set_option maxRecDepth 100000 in
set_option pp.maxSteps 1500 in
set_option maxHeartbeats 8000000 in
theorem s_joined : HSound Tryz.prog 118 (callM [] true hJoined) := by
  refine callM_sound cx_s_joined_ok mixed Tryz.func118 rfl fun args hl K hp => ?_
  unfold hJoined at hp
  split at hp
  · rename_i t z L
    obtain ⟨ls, rfl, hl8, hls, hp⟩ := hp
    refine Or.inl ?_
    refine Or.inr ?_
    refine Exists.intro true (Exists.intro [3, 6, 7, 8] (Exists.intro (fun m vs h => ∃ i : Nat, i ≤ ls.length ∧ m = ls.length - i ∧ vs = [.slc 0 0 (ls.take i).flatten.length false, .imm t z 1 (ls.map regsC), .v (.int .i64 ls.length), .v (.int .i64 i)] ∧ h = [.lst 6 ((ls.take i).flatten.map regC)]) (And.intro ?_ ?_)))
    · refine Exists.intro [] ?_
      refine And.intro closed_nil ?_
      exact Exists.intro ls.length ⟨0, by omega, rfl, by rw [List.length_map]; rfl, rfl⟩
    · intro m vs h hI
      obtain ⟨i, hi, rfl, rfl, rfl⟩ := hI
      refine And.intro (fun h1 => ?_) (fun h1 => ?_)
      · have h1 := of_decide_eq_true h1
        have hlt : i < ls.length := by omega
        obtain ⟨rs, hr⟩ : ∃ rs, ls[i]? = some rs := ⟨_, List.getElem?_eq_getElem hlt⟩
        have hrs := hls rs (List.mem_of_getElem? hr)
        have hst := flat_tk hr
        have hbd := flat_bd hls i
        generalize (ls.take i).flatten = T at *
        refine Exists.intro i (And.intro rfl (Exists.intro (regsC rs) (And.intro (get_map hr) ?_)))
        refine And.intro (regs_notSl rs) ?_
        refine And.intro (List.length_map _) (And.intro (by simp; omega) (And.intro (by simp; omega) ?_))
        refine Exists.intro [] ?_
        refine And.intro (closed_app (closed_Region T) (closed_Region rs)) ?_
        refine Exists.intro (ls.length - (i + 1)) (And.intro (by omega) ⟨i + 1, by omega, rfl, ?_, ?_⟩)
        · rw [wrap_succ hlt (by omega), hst]
          simp
        · rw [hst]
          simp
      · have h1 := of_decide_eq_false h1
        rw [List.take_of_length_le (by omega)]
        refine And.intro (closed_Region _) ?_
        exact hp
  · exact hp.elim
end Go.Proofs.YtbfjkjdbdejnmaaGreat.Ab

/- Plans of impl: pieces of modules that are read in place. No condition. -/
namespace Go.Proofs.YtbfjkjdbdejnmaaGreat.Ab
set_option linter.unusedVariables false
set_option linter.unusedSimpArgs false
set_option maxRecDepth 100000

def hHasR : CH := fun args hl K => match args, hl with
  | [.iptr _ cells, .v (.int .i64 b)], [] => ∃ m, cells = moC m ∧ smMo m ∧ K (.v (.bool (pieceOf m b).isSome)) []
  | _, _ => False
def cx_s_hasPieceR : Ctx := mkC []
theorem cx_s_hasPieceR_ok : CtxOk Tryz.prog cx_s_hasPieceR := cx0_ok
set_option maxRecDepth 100000 in
set_option pp.maxSteps 1500 in
set_option maxHeartbeats 4000000 in
theorem s_hasPieceR : HSound Tryz.prog 114 (callM [] true hHasR) := by
  refine callM_sound cx_s_hasPieceR_ok mixed Tryz.func114 rfl fun args hl K hp => ?_
  unfold hHasR at hp
  split at hp
  · rename_i t cells b
    obtain ⟨m, rfl, hb, hp⟩ := hp
    rw [piece_some] at hp
    repeat' ((first
      | refine And.intro (fun h2 => ?_) (fun h2 => ?_)
      | fail) <;> try cases h2)
    · refine fin_b hp ?_
      have h2 := of_decide_eq_true h2
      rw [List.length_map]
      rw [decide_eq_decide]
      omega
    · have h2 := of_decide_eq_false h2
      refine fin_b hp (decide_eq_false ?_)
      omega
  · exact hp.elim
def hPieceR : CH := fun args hl K => match args, hl with
  | [.iptr t cells, .v (.int .i64 b)], [] => ∃ m ws, cells = moC m ∧ smMo m ∧ pieceOf m b = some ws ∧ ∀ t' z', K (.imm t' z' 1 (ws.map intC)) []
  | _, _ => False
def cx_s_pieceR : Ctx := mkC []
theorem cx_s_pieceR_ok : CtxOk Tryz.prog cx_s_pieceR := cx0_ok
set_option maxRecDepth 100000 in
set_option pp.maxSteps 1500 in
set_option maxHeartbeats 4000000 in
theorem s_pieceR : HSound Tryz.prog 117 (callM [] false hPieceR) := by
  refine callM_sound cx_s_pieceR_ok mixed Tryz.func117 rfl fun args hl K hp => ?_
  unfold hPieceR at hp
  split at hp
  · rename_i t cells b
    obtain ⟨m, ws, rfl, hb, he, hp⟩ := hp
    have hs : (pieceOf m b).isSome = true := by rw [he]; rfl
    rw [piece_some, decide_eq_true_eq] at hs
    refine Or.inl ?_
    refine And.intro (fun h2 => ?_) (fun h2 => ?_)
    · have h2 := of_decide_eq_true h2
      rw [show pieceOf m b = some m.text from if_pos (by omega)] at he
      cases he
      exact hp t false
    · have h2 := of_decide_eq_false h2
      obtain ⟨j, rfl⟩ := Int.eq_ofNat_of_zero_le (by omega : 0 ≤ b)
      have hg : m.banks[j]? = some m.banks[j] := List.getElem?_eq_getElem (by omega)
      rw [show pieceOf m (j : Int) = m.banks[j]? from by unfold pieceOf; rw [if_neg (by omega), if_pos (by omega), Int.toNat_natCast], hg] at he
      cases he
      refine Exists.intro j (And.intro rfl (Exists.intro (bankC m.banks[j]) (And.intro (get_map hg) ?_)))
      exact hp t false
  · exact hp.elim
end Go.Proofs.YtbfjkjdbdejnmaaGreat.Ab

/- Plans of impl: one plan. No condition. -/
namespace Go.Proofs.YtbfjkjdbdejnmaaGreat.Ab
set_option linter.unusedVariables false
set_option linter.unusedSimpArgs false
set_option maxRecDepth 100000

def hPlanI : CH := fun args hl K => match args, hl with
  | [.imm _ _ 8 L, a, .v (.int .i64 i), .v (.int .i64 b), .v (.int .i64 s)], [] => ∃ (ms : List Mo) (l : La), L = ms.map moC ∧ (∀ m ∈ ms, smMo m) ∧ LaV a l ∧ Lk ms l ∧
      (∀ rs, planF ms l i b s = some rs → K (.tup [.slc 0 0 rs.length false, .v (.bool true)]) [.lst 6 (rs.map regC)]) ∧ (planF ms l i b s = none → K (.tup [.slc 0 0 0 false, .v (.bool false)]) [.lst 6 []])
  | _, _ => False
theorem wrapI2 (x : Int) : I64 (IntKind.i64.wrap x) := by
  simp only [I64, IntKind.wrap, IntKind.bits, IntKind.signed, Bool.true_and]
  split <;> rename_i q <;> simp at q <;> omega
theorem planF_out {ms : List Mo} {l : La} {i b s : Int} (h : ¬ (0 ≤ i ∧ i < ms.length)) : planF ms l i b s = none := by
  unfold planF
  split
  · rw [List.getElem?_eq_none (by omega)]
  · rfl
theorem planF_at {ms : List Mo} {l : La} {I : Nat} {b s : Int} {m : Mo} {p : Pl} (hm : ms[I]? = some m) (hp : l.pls[I]? = some p) : planF ms l I b s = if (pieceOf m b).isSome && slotB l b s && decide ((planL l p m b s).length ≤ 8) then some (planL l p m b s) else none := by
  unfold planF
  rw [if_pos (by omega), Int.toNat_natCast, hm, hp]
theorem piece_len {m : Mo} {b : Int} {ws : List Int} (g : GoodM m) (h : pieceOf m b = some ws) : ws.length ≤ 200 := by
  unfold pieceOf at h
  split at h
  · cases h
    exact g.tl
  · split at h
    · have := (g.bk ws (List.mem_of_getElem? h)).1
      omega
    · cases h
theorem plenE {m : Mo} {b : Int} {ws : List Int} (h : pieceOf m b = some ws) : pieceLen m b = ws.length := by rw [pieceLen, h]
theorem cov_fold (a s : Int) (r w x : Bool) : List.take (covL a s).length (((covL a s).map (rgW r w x)).map regC) = (covW a s r w x).map regC := List.take_of_length_le (by simp)
theorem cov_flen (a s : Int) (r w x : Bool) : ((covW a s r w x).map regC).length = (covL a s).length := by simp [covW]
theorem covW_bd (a s : Int) (r w x : Bool) : (covW a s r w x).length ≤ 10000 := by
  have := covL_len a s
  simp only [covW, List.length_map]
  omega
theorem closed_Regs (ls : List (List Rg)) : ClosedL (ls.map regsC) := by
  intro e he x hx
  obtain ⟨b, _, rfl⟩ := List.mem_map.1 he
  simp [regsC] at hx
  subst hx
  rfl
def cx_s_plan : Ctx := mkC [(114, callM [] true hHasR), (115, callM [] false hCover), (101, callM [] true hEnds), (117, callM [] false hPieceR), (116, callM [] false hRup), (119, callM [.ro, .ro, .ro, .rw] false hWithI), (118, callM [] true hJoined)]
theorem cx_s_plan_ok : CtxOk Tryz.prog cx_s_plan := mkC_ok (mem1 ⟨s_hasPieceR, fnOk Tryz.func114 rfl rfl⟩ (mem1 ⟨s_impl_Cover, fnOk Tryz.func115 rfl rfl⟩ (mem1 ⟨s_stackEnd, fnOk Tryz.func101 rfl rfl⟩ (mem1 ⟨s_pieceR, fnOk Tryz.func117 rfl rfl⟩ (mem1 ⟨s_roundUp, fnOk Tryz.func116 rfl rfl⟩ (mem1 ⟨s_with, fnOk Tryz.func119 rfl rfl⟩ (mem1 ⟨s_joined, fnOk Tryz.func118 rfl rfl⟩ mem0)))))))
set_option maxRecDepth 100000 in
set_option pp.maxSteps 1500 in
set_option maxHeartbeats 32000000 in
theorem s_plan : HSound Tryz.prog 65 (callM [] true hPlanI) := by
  refine callM_sound cx_s_plan_ok mixed Tryz.func65 rfl fun args hl K hp => ?_
  unfold hPlanI at hp
  split at hp
  · rename_i t z L a i b s
    obtain ⟨ms, l, rfl, hsm, ⟨b1, z1, b2, z2, b3, z3, rfl⟩, hk, hp1, hp2⟩ := hp
    refine Or.inl ?_
    by_cases hi : 0 ≤ i ∧ i < ms.length
    rotate_left
    · have hn := hp2 (planF_out hi)
      repeat' ((first
        | refine And.intro (fun h1 => ?_) (fun h1 => ?_)
        | fail) <;> try first | (cases h1; done) | (exfalso; simp at h1; omega))
      · refine Or.inr (And.intro closed_nil ?_)
        exact hn
      · refine Or.inr (And.intro closed_nil ?_)
        exact hn
      · exfalso
        simp only [List.length_map, decide_eq_false_iff_not, ge_iff_le] at *
        omega
    obtain ⟨I, rfl⟩ := Int.eq_ofNat_of_zero_le hi.1
    have hI : I < ms.length := by omega
    obtain ⟨m, hm⟩ : ∃ m, ms[I]? = some m := ⟨_, List.getElem?_eq_getElem hI⟩
    obtain ⟨p, hpl⟩ : ∃ p, l.pls[I]? = some p := ⟨_, List.getElem?_eq_getElem (by rw [hk.pls]; omega)⟩
    rw [planF_at hm hpl] at hp1 hp2
    have hmm := hsm m (List.mem_of_getElem? hm)
    have hnI : decide ((I : Int) < 0) = false := decide_eq_false (by omega)
    have hnL : decide ((I : Int) ≥ ((ms.map moC).length : Int)) = false := decide_eq_false (by rw [List.length_map]; omega)
    refine And.intro (fun h1 => absurd (hnI.symm.trans h1) Bool.false_ne_true) (fun h1 => ?_)
    refine And.intro (fun h2 => Bool.noConfusion h2) (fun h2 => ?_)
    refine And.intro (fun h3 => absurd (hnL.symm.trans h3) Bool.false_ne_true) (fun h3 => ?_)
    refine Exists.intro I (And.intro rfl (Exists.intro (moC m) (And.intro (get_map hm) ?_)))
    refine Exists.intro m (And.intro rfl (And.intro hmm ?_))
    by_cases h4 : (pieceOf m b).isSome = true
    rotate_left
    · have h4 : (pieceOf m b).isSome = false := by simpa using h4
      rw [h4] at hp2
      have hn := hp2 rfl
      repeat' ((first
        | refine And.intro (fun h5 => ?_) (fun h5 => ?_)
        | fail) <;> try first | (cases h5; done) | (exfalso; simp [h4] at h5; done))
      all_goals refine Or.inr (And.intro closed_nil ?_)
      all_goals exact hn
    rw [h4, Bool.true_and] at hp1 hp2
    repeat' ((first
      | refine And.intro (fun h5 => ?_) (fun h5 => ?_)
      | fail) <;> try first | (cases h5; done) | (exfalso; simp [h4] at h5; done))
    obtain ⟨ws, hws⟩ := Option.isSome_iff_exists.1 h4
    have hbr := h4
    rw [piece_some, decide_eq_true_eq] at hbr
    obtain ⟨kb, kt, kd, ks, kbi⟩ := hk.bk I p m hpl hm
    have ksl := hk.sl
    have kst := hk.stack
    refine Exists.intro I (And.intro rfl (Exists.intro (plC p) (And.intro (get_map hpl) ?_)))
    have hsn : slotB l b s = false → K (.tup [.slc 0 0 0 false, .v (.bool false)]) [.lst 6 []] := fun h => hp2 (by rw [h]; rfl)
    have hbk : ∀ B : Nat, b = B → ∃ x, p.banks[B]? = some x := fun B h => ⟨_, List.getElem?_eq_getElem (by omega)⟩
    have e0 : ((l.slots.map intC).length : Int) = l.slots.length := by rw [List.length_map]
    refine And.intro (fun h5 => ?_) (fun h5 => ?_)
    · have h5 := of_decide_eq_true h5
      have hb1 : b = -1 := by omega
      subst hb1
      repeat' ((first
        | refine And.intro (fun h6 => ?_) (fun h6 => ?_)
        | fail) <;> try first | (cases h6; done) | (exfalso; simp at h6; done))
      · refine Or.inr (And.intro closed_nil ?_)
        exact hsn (by rw [slotB, if_pos (Or.inl rfl)]; simpa using h6)
      have eo : originF l p (-1) s = p.text := rfl
      refine And.intro kd (And.intro ks ?_)
      refine Or.inl ?_
      refine And.intro (show wfB _ = true from by kernel_rfl) ?_
      repeat' (first
        | (refine Exists.intro l ?_; refine And.intro ⟨_, _, _, _, _, _, rfl⟩ ?_; exact And.intro rfl rfl)
        | (refine And.intro kst ?_; refine And.intro (wrapI2 _) ?_; exact And.intro rfl rfl)
        | refine And.intro (show wfB _ = true from by kernel_rfl) ?_ | refine And.intro (And.intro rfl rfl) ?_ | exact And.intro rfl rfl | apply HeldC.intro | exact AV.top | (apply HeldF.intro; refine Exists.intro _ (And.intro (by assumption) ?_); refine And.intro (by decide) ?_; exact And.intro rfl rfl) | (refine And.intro (by (refine Exists.intro _ (And.intro (by assumption) ?_); refine And.intro (by decide) ?_; exact And.intro rfl rfl)) ?_) | refine Or.inl ?_
        | fail)
      refine And.intro (show I64 131072 by simp [I64]) (And.intro (show I64 32 by simp [I64]) ?_)
      refine Exists.intro I (And.intro rfl (Exists.intro (moC m) (And.intro (get_map hm) ?_)))
      refine Exists.intro m (Exists.intro ws (And.intro rfl (And.intro hmm (And.intro hws ?_))))
      intro t' z'
      have hwl := piece_len (hk.mo m (List.mem_of_getElem? hm)) hws
      have hru := rup_le (4 * ws.length)
      refine Exists.intro (4 * ws.length) (And.intro (by rw [List.length_map, wrap64 (by omega)]; omega) (And.intro (by omega) ?_))
      refine And.intro kt (And.intro (show I64 ((rup (4 * ws.length) : Nat) : Int) by simp only [I64]; omega) ?_)
      have c1 := covL_len p.data p.size
      have c2 := covL_len l.stack (stackF l)
      have c3 := covL_len 131072 32
      have c4 := covL_len p.text ((rup (4 * ws.length) : Nat) : Int)
      repeat' (first
        | refine And.intro (closed_Region _) ?_
        | refine Exists.intro (covL p.data p.size) (And.intro rfl (And.intro rfl (And.intro (by omega) ?_)))
        | refine Exists.intro (covL l.stack (stackF l)) (And.intro rfl (And.intro rfl (And.intro (by omega) ?_)))
        | refine Exists.intro (covL 131072 32) (And.intro rfl (And.intro rfl (And.intro (by omega) ?_)))
        | refine Exists.intro (covL p.text ((rup (4 * ws.length) : Nat) : Int)) (And.intro rfl (And.intro rfl (And.intro (by omega) ?_)))
        | refine Exists.intro _ (And.intro (cov_fold _ _ _ _ _) (And.intro (cov_flen _ _ _ _ _) (And.intro (closed_Region _) ?_)))
        | fail)
      have eP : planL l p m (-1) s = [covW p.data p.size true true false, covW l.stack (stackF l) true true false, covW 131072 32 false true false, covW p.text ((rup (4 * ws.length) : Nat) : Int) false false true].flatten := by
        simp [planL, eo, plenE hws]
      have hls : ∀ rs ∈ [covW p.data p.size true true false, covW l.stack (stackF l) true true false, covW 131072 32 false true false, covW p.text ((rup (4 * ws.length) : Nat) : Int) false false true], rs.length ≤ 10000 := by
        intro rs hrs
        simp only [List.mem_cons, List.not_mem_nil, or_false] at hrs
        rcases hrs with rfl | rfl | rfl | rfl <;> exact covW_bd _ _ _ _ _
      refine Exists.intro (([covW p.data p.size true true false, covW l.stack (stackF l) true true false, covW 131072 32 false true false, covW p.text ((rup (4 * ws.length) : Nat) : Int) false false true] : List (List Rg)).map regsC) (And.intro rfl (And.intro rfl (And.intro (closed_Regs _) ?_)))
      refine Exists.intro [covW p.data p.size true true false, covW l.stack (stackF l) true true false, covW 131072 32 false true false, covW p.text ((rup (4 * ws.length) : Nat) : Int) false false true] (And.intro rfl (And.intro (by simp) (And.intro hls ?_)))
      rw [eP] at hp1 hp2
      generalize [covW p.data p.size true true false, covW l.stack (stackF l) true true false, covW 131072 32 false true false, covW p.text ((rup (4 * ws.length) : Nat) : Int) false false true] = LS at *
      have hsl : slotB l (-1) s = true := by rw [slotB, if_pos (Or.inl rfl)]; simp at *; assumption
      rw [hsl, Bool.true_and] at hp1 hp2
      refine And.intro (fun h7 => ?_) (fun h7 => ?_)
      · have h7 := of_decide_eq_true h7
        refine Or.inr (And.intro closed_nil ?_)
        exact hp2 (if_neg (by simp only [decide_eq_true_eq]; omega))
      · have h7 := of_decide_eq_false h7
        refine And.intro (closed_Region _) ?_
        exact hp1 _ (if_pos (decide_eq_true (by omega)))
    · have h5 := of_decide_eq_false h5
      obtain ⟨B, rfl⟩ := Int.eq_ofNat_of_zero_le (show 0 ≤ b by omega)
      obtain ⟨xb, hxb⟩ : ∃ x, p.banks[B]? = some x := hbk B rfl
      have hnb : ¬ ((B : Int) = -1) := by omega
      have hgb : decide ((B : Int) ≥ 0) = true := decide_eq_true (by omega)
      refine And.intro (fun h6 => ?_) (fun h6 => ?_)
      · cases h6
      refine And.intro (fun h6 => ?_) (fun h6 => ?_)
      · have h0 : l.slots.length = 0 := by simpa using h6
        repeat' ((first
          | refine And.intro (fun h7 => ?_) (fun h7 => ?_)
          | fail) <;> try first | (cases h7; done) | (exfalso; rw [hgb] at h7; cases h7; done))
        · refine Or.inr (And.intro closed_nil ?_)
          exact hsn (by rw [slotB, if_pos (Or.inr h0)]; simpa using h7)
        rename_i h8
        have hs1 : s = -1 := by simpa using h8
        have eo : originF l p (B : Int) s = xb := by
          rw [originF, if_neg hnb, if_pos (by omega), Int.toNat_natCast, List.getD_eq_getElem?_getD, hxb]
          rfl
        have io := kbi xb (List.mem_of_getElem? hxb)
        refine Exists.intro B (And.intro rfl (Exists.intro (intC xb) (And.intro (get_map hxb) ?_)))
        refine And.intro kd (And.intro ks ?_)
        refine Or.inl ?_
        refine And.intro (show wfB _ = true from by kernel_rfl) ?_
        repeat' (first
          | (refine Exists.intro l ?_; refine And.intro ⟨_, _, _, _, _, _, rfl⟩ ?_; exact And.intro rfl rfl)
          | (refine And.intro kst ?_; refine And.intro (wrapI2 _) ?_; exact And.intro rfl rfl)
          | refine And.intro (show wfB _ = true from by kernel_rfl) ?_ | refine And.intro (And.intro rfl rfl) ?_ | exact And.intro rfl rfl | apply HeldC.intro | exact AV.top | (apply HeldF.intro; refine Exists.intro _ (And.intro (by assumption) ?_); refine And.intro (by decide) ?_; exact And.intro rfl rfl) | (refine And.intro (by (refine Exists.intro _ (And.intro (by assumption) ?_); refine And.intro (by decide) ?_; exact And.intro rfl rfl)) ?_) | refine Or.inl ?_
          | fail)
        refine And.intro (show I64 131072 by simp [I64]) (And.intro (show I64 32 by simp [I64]) ?_)
        refine Exists.intro I (And.intro rfl (Exists.intro (moC m) (And.intro (get_map hm) ?_)))
        refine Exists.intro m (Exists.intro ws (And.intro rfl (And.intro hmm (And.intro hws ?_))))
        intro t' z'
        have hwl := piece_len (hk.mo m (List.mem_of_getElem? hm)) hws
        have hru := rup_le (4 * ws.length)
        refine Exists.intro (4 * ws.length) (And.intro (by rw [List.length_map, wrap64 (by omega)]; omega) (And.intro (by omega) ?_))
        refine And.intro io (And.intro (show I64 ((rup (4 * ws.length) : Nat) : Int) by simp only [I64]; omega) ?_)
        have c1 := covL_len p.data p.size
        have c2 := covL_len l.stack (stackF l)
        have c3 := covL_len 131072 32
        have c4 := covL_len xb ((rup (4 * ws.length) : Nat) : Int)
        repeat' (first
          | refine And.intro (closed_Region _) ?_
          | refine Exists.intro (covL p.data p.size) (And.intro rfl (And.intro rfl (And.intro (by omega) ?_)))
          | refine Exists.intro (covL l.stack (stackF l)) (And.intro rfl (And.intro rfl (And.intro (by omega) ?_)))
          | refine Exists.intro (covL 131072 32) (And.intro rfl (And.intro rfl (And.intro (by omega) ?_)))
          | refine Exists.intro (covL xb ((rup (4 * ws.length) : Nat) : Int)) (And.intro rfl (And.intro rfl (And.intro (by omega) ?_)))
          | refine Exists.intro _ (And.intro (cov_fold _ _ _ _ _) (And.intro (cov_flen _ _ _ _ _) (And.intro (closed_Region _) ?_)))
          | fail)
        have eP : planL l p m (B : Int) s = [covW p.data p.size true true false, covW l.stack (stackF l) true true false, covW 131072 32 false true false, covW xb ((rup (4 * ws.length) : Nat) : Int) false false true].flatten := by
          simp [planL, eo, plenE hws]
        have hls : ∀ rs ∈ [covW p.data p.size true true false, covW l.stack (stackF l) true true false, covW 131072 32 false true false, covW xb ((rup (4 * ws.length) : Nat) : Int) false false true], rs.length ≤ 10000 := by
          intro rs hrs
          simp only [List.mem_cons, List.not_mem_nil, or_false] at hrs
          rcases hrs with rfl | rfl | rfl | rfl <;> exact covW_bd _ _ _ _ _
        refine Exists.intro (([covW p.data p.size true true false, covW l.stack (stackF l) true true false, covW 131072 32 false true false, covW xb ((rup (4 * ws.length) : Nat) : Int) false false true] : List (List Rg)).map regsC) (And.intro rfl (And.intro rfl (And.intro (closed_Regs _) ?_)))
        refine Exists.intro [covW p.data p.size true true false, covW l.stack (stackF l) true true false, covW 131072 32 false true false, covW xb ((rup (4 * ws.length) : Nat) : Int) false false true] (And.intro rfl (And.intro (by simp) (And.intro hls ?_)))
        rw [eP] at hp1 hp2
        generalize [covW p.data p.size true true false, covW l.stack (stackF l) true true false, covW 131072 32 false true false, covW xb ((rup (4 * ws.length) : Nat) : Int) false false true] = LS at *
        have hsl : slotB l (B : Int) s = true := by rw [slotB, if_pos (Or.inr h0)]; simpa using hs1
        rw [hsl, Bool.true_and] at hp1 hp2
        refine And.intro (fun h7 => ?_) (fun h7 => ?_)
        · have h7 := of_decide_eq_true h7
          refine Or.inr (And.intro closed_nil ?_)
          exact hp2 (if_neg (by simp only [decide_eq_true_eq]; omega))
        · have h7 := of_decide_eq_false h7
          refine And.intro (closed_Region _) ?_
          exact hp1 _ (if_pos (decide_eq_true (by omega)))
      · have h0 : ¬ l.slots.length = 0 := by simpa using h6
        have hso : slotB l (B : Int) s = decide (0 ≤ s ∧ s < l.slots.length) := by rw [slotB, if_neg (by rintro (h | h); exact hnb h; exact h0 h)]
        repeat' ((first
          | refine And.intro (fun h7 => ?_) (fun h7 => ?_)
          | fail) <;> try first | (cases h7; done))
        · refine Or.inr (And.intro closed_nil ?_)
          refine hsn ?_
          rw [hso]
          refine decide_eq_false ?_
          clear hp1 hp2 hsn hso hbk h5 h6 h0 hnb hgb
          simp only [decide_eq_true_eq] at *
          omega
        · have h7 := of_decide_eq_true h7
          rw [List.length_map] at h7
          refine Or.inr (And.intro closed_nil ?_)
          exact hsn (by rw [hso]; exact decide_eq_false (by omega))
        rename_i h8 _
        have h8 := of_decide_eq_false h8
        have h7 := of_decide_eq_false h7
        rw [List.length_map] at h7
        obtain ⟨S, rfl⟩ := Int.eq_ofNat_of_zero_le (show 0 ≤ s by omega)
        obtain ⟨xs, hxs⟩ : ∃ x, l.slots[S]? = some x := ⟨_, List.getElem?_eq_getElem (by omega)⟩
        have eo : originF l p (B : Int) (S : Int) = xs := by
          rw [originF, if_neg hnb, if_neg (by omega), Int.toNat_natCast, List.getD_eq_getElem?_getD, hxs]
          rfl
        have io := ksl xs (List.mem_of_getElem? hxs)
        refine Exists.intro S (And.intro rfl (Exists.intro (intC xs) (And.intro (get_map hxs) ?_)))
        refine And.intro kd (And.intro ks ?_)
        refine Or.inl ?_
        refine And.intro (show wfB _ = true from by kernel_rfl) ?_
        repeat' (first
          | (refine Exists.intro l ?_; refine And.intro ⟨_, _, _, _, _, _, rfl⟩ ?_; exact And.intro rfl rfl)
          | (refine And.intro kst ?_; refine And.intro (wrapI2 _) ?_; exact And.intro rfl rfl)
          | refine And.intro (show wfB _ = true from by kernel_rfl) ?_ | refine And.intro (And.intro rfl rfl) ?_ | exact And.intro rfl rfl | apply HeldC.intro | exact AV.top | (apply HeldF.intro; refine Exists.intro _ (And.intro (by assumption) ?_); refine And.intro (by decide) ?_; exact And.intro rfl rfl) | (refine And.intro (by (refine Exists.intro _ (And.intro (by assumption) ?_); refine And.intro (by decide) ?_; exact And.intro rfl rfl)) ?_) | refine Or.inl ?_
          | fail)
        refine And.intro (show I64 131072 by simp [I64]) (And.intro (show I64 32 by simp [I64]) ?_)
        refine Exists.intro I (And.intro rfl (Exists.intro (moC m) (And.intro (get_map hm) ?_)))
        refine Exists.intro m (Exists.intro ws (And.intro rfl (And.intro hmm (And.intro hws ?_))))
        intro t' z'
        have hwl := piece_len (hk.mo m (List.mem_of_getElem? hm)) hws
        have hru := rup_le (4 * ws.length)
        refine Exists.intro (4 * ws.length) (And.intro (by rw [List.length_map, wrap64 (by omega)]; omega) (And.intro (by omega) ?_))
        refine And.intro io (And.intro (show I64 ((rup (4 * ws.length) : Nat) : Int) by simp only [I64]; omega) ?_)
        have c1 := covL_len p.data p.size
        have c2 := covL_len l.stack (stackF l)
        have c3 := covL_len 131072 32
        have c4 := covL_len xs ((rup (4 * ws.length) : Nat) : Int)
        repeat' (first
          | refine And.intro (closed_Region _) ?_
          | refine Exists.intro (covL p.data p.size) (And.intro rfl (And.intro rfl (And.intro (by omega) ?_)))
          | refine Exists.intro (covL l.stack (stackF l)) (And.intro rfl (And.intro rfl (And.intro (by omega) ?_)))
          | refine Exists.intro (covL 131072 32) (And.intro rfl (And.intro rfl (And.intro (by omega) ?_)))
          | refine Exists.intro (covL xs ((rup (4 * ws.length) : Nat) : Int)) (And.intro rfl (And.intro rfl (And.intro (by omega) ?_)))
          | refine Exists.intro _ (And.intro (cov_fold _ _ _ _ _) (And.intro (cov_flen _ _ _ _ _) (And.intro (closed_Region _) ?_)))
          | fail)
        have eP : planL l p m (B : Int) (S : Int) = [covW p.data p.size true true false, covW l.stack (stackF l) true true false, covW 131072 32 false true false, covW xs ((rup (4 * ws.length) : Nat) : Int) false false true].flatten := by
          simp [planL, eo, plenE hws]
        have hls : ∀ rs ∈ [covW p.data p.size true true false, covW l.stack (stackF l) true true false, covW 131072 32 false true false, covW xs ((rup (4 * ws.length) : Nat) : Int) false false true], rs.length ≤ 10000 := by
          intro rs hrs
          simp only [List.mem_cons, List.not_mem_nil, or_false] at hrs
          rcases hrs with rfl | rfl | rfl | rfl <;> exact covW_bd _ _ _ _ _
        refine Exists.intro (([covW p.data p.size true true false, covW l.stack (stackF l) true true false, covW 131072 32 false true false, covW xs ((rup (4 * ws.length) : Nat) : Int) false false true] : List (List Rg)).map regsC) (And.intro rfl (And.intro rfl (And.intro (closed_Regs _) ?_)))
        refine Exists.intro [covW p.data p.size true true false, covW l.stack (stackF l) true true false, covW 131072 32 false true false, covW xs ((rup (4 * ws.length) : Nat) : Int) false false true] (And.intro rfl (And.intro (by simp) (And.intro hls ?_)))
        rw [eP] at hp1 hp2
        generalize [covW p.data p.size true true false, covW l.stack (stackF l) true true false, covW 131072 32 false true false, covW xs ((rup (4 * ws.length) : Nat) : Int) false false true] = LS at *
        have hsl : slotB l (B : Int) (S : Int) = true := by rw [hso]; exact decide_eq_true (by omega)
        rw [hsl, Bool.true_and] at hp1 hp2
        refine And.intro (fun h7 => ?_) (fun h7 => ?_)
        · have h7 := of_decide_eq_true h7
          refine Or.inr (And.intro closed_nil ?_)
          exact hp2 (if_neg (by simp only [decide_eq_true_eq]; omega))
        · have h7 := of_decide_eq_false h7
          refine And.intro (closed_Region _) ?_
          exact hp1 _ (if_pos (decide_eq_true (by omega)))
  · exact hp.elim
end Go.Proofs.YtbfjkjdbdejnmaaGreat.Ab

/- Whether all plans fit, and plans: what is answered, in plain words. No condition. -/
namespace Go.Proofs.YtbfjkjdbdejnmaaGreat.Ab
set_option linter.unusedVariables false
set_option linter.unusedSimpArgs false

/-- All plans of a module fit, for banks ahead of one. -/
def FitM (l : La) (p : Pl) (m : Mo) (B : Int) : Prop := ∀ b : Int, -1 ≤ b → b < B → ∀ s, slotB l b s = true → (planL l p m b s).length ≤ 8
def FitS (l : La) (p : Pl) (m : Mo) (b : Int) (S : Int) : Prop := ∀ s, s < S → slotB l b s = true → (planL l p m b s).length ≤ 8
def FitN (ms : List Mo) (l : La) (n : Nat) : Prop := ∀ (i : Nat) m p, i < n → ms[i]? = some m → l.pls[i]? = some p → FitM l p m m.banks.length
def FitP (ms : List Mo) (l : La) : Prop := FitN ms l ms.length
open Classical in
noncomputable def fitsB (ms : List Mo) (l : La) : Bool := decide (RealP ms l ∧ FitP ms l)
theorem fitsB_t {ms : List Mo} {l : La} (h : RealP ms l) (h2 : FitP ms l) : fitsB ms l = true := by
  unfold fitsB
  simp [h, h2]
theorem fitsB_f {ms : List Mo} {l : La} (h : ¬ (RealP ms l ∧ FitP ms l)) : fitsB ms l = false := by
  unfold fitsB
  simp only [h, decide_false]
theorem fit_zero (ms : List Mo) (l : La) : FitN ms l 0 := fun i m p h => absurd h (Nat.not_lt_zero _)
theorem fit_succ {ms : List Mo} {l : La} {n : Nat} {m : Mo} {p : Pl} (h : FitN ms l n) (hm : ms[n]? = some m) (hp : l.pls[n]? = some p) (h2 : FitM l p m m.banks.length) : FitN ms l (n + 1) := by
  intro i m' p' hi hm' hp'
  rcases Nat.lt_or_ge i n with r | r
  · exact h i m' p' r hm' hp'
  · have : i = n := by omega
    subst this
    rw [hm] at hm'
    rw [hp] at hp'
    cases hm'
    cases hp'
    exact h2
theorem fit_bad {ms : List Mo} {l : La} {n : Nat} {m : Mo} {p : Pl} (hm : ms[n]? = some m) (hp : l.pls[n]? = some p) (h2 : ¬ FitM l p m m.banks.length) : ¬ FitP ms l := by
  intro h
  exact h2 (h n m p (List.getElem?_eq_some_iff.1 hm).1 hm hp)
theorem fitM_start (l : La) (p : Pl) (m : Mo) : FitM l p m (-1) := fun b h1 h2 => by omega
theorem fitM_succ {l : La} {p : Pl} {m : Mo} {B : Int} (h : FitM l p m B) (h2 : ∀ s, slotB l B s = true → (planL l p m B s).length ≤ 8) : FitM l p m (B + 1) := by
  intro b h3 h4
  rcases Int.lt_or_le b B with r | r
  · exact h b h3 r
  · have : b = B := by omega
    subst this
    exact h2
theorem slotB_one {l : La} {b s : Int} (h : b = -1 ∨ l.slots.length = 0) : slotB l b s = true ↔ s = -1 := by
  rw [slotB, if_pos h, decide_eq_true_eq]
theorem slotB_many {l : La} {b s : Int} (h : ¬ (b = -1 ∨ l.slots.length = 0)) : slotB l b s = true ↔ 0 ≤ s ∧ s < l.slots.length := by
  rw [slotB, if_neg h, decide_eq_true_eq]
theorem fitS_start {l : La} {p : Pl} {m : Mo} {b : Int} (h : ¬ (b = -1 ∨ l.slots.length = 0)) : FitS l p m b 0 := by
  intro s hs hb
  rw [slotB_many h] at hb
  omega
theorem fitS_start1 {l : La} {p : Pl} {m : Mo} {b : Int} (h : b = -1 ∨ l.slots.length = 0) : FitS l p m b (-1) := by
  intro s hs hb
  rw [slotB_one h] at hb
  omega
theorem fitS_succ {l : La} {p : Pl} {m : Mo} {b S : Int} (h : FitS l p m b S) (h2 : (planL l p m b S).length ≤ 8) : FitS l p m b (S + 1) := by
  intro s hs hb
  rcases Int.lt_or_le s S with r | r
  · exact h s r hb
  · have : s = S := by omega
    subst this
    exact h2
theorem fitS_all {l : La} {p : Pl} {m : Mo} {b : Int} (h : ¬ (b = -1 ∨ l.slots.length = 0)) (h2 : FitS l p m b l.slots.length) : ∀ s, slotB l b s = true → (planL l p m b s).length ≤ 8 := by
  intro s hb
  refine h2 s ?_ hb
  rw [slotB_many h] at hb
  omega
theorem fitS_one {l : La} {p : Pl} {m : Mo} {b : Int} (h : b = -1 ∨ l.slots.length = 0) (h2 : (planL l p m b (-1)).length ≤ 8) : ∀ s, slotB l b s = true → (planL l p m b s).length ≤ 8 := by
  intro s hb
  rw [slotB_one h] at hb
  subst hb
  exact h2
theorem fitM_bad {l : La} {p : Pl} {m : Mo} {b s : Int} (h1 : -1 ≤ b) (h2 : b < m.banks.length) (h3 : slotB l b s = true) (h4 : ¬ (planL l p m b s).length ≤ 8) : ¬ FitM l p m m.banks.length := fun h => h4 (h b h1 h2 s h3)
end Go.Proofs.YtbfjkjdbdejnmaaGreat.Ab
