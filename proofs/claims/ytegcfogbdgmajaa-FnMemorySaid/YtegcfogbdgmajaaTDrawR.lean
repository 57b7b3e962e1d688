/- Drawn regions. No condition. -/
import Derived.Test.YtegcfogbdgmajaaTIns
import Derived.Test.YtegcfogbdgmajaaTArgs2
namespace Go.Proofs.Ytegcfogbdgmajaa.Ab

theorem wrap_I64 (x : Int) : I64 (IntKind.i64.wrap x) := by
  simp only [I64, IntKind.wrap, IntKind.bits, IntKind.signed, Bool.true_and]
  split <;> rename_i q <;> simp at q <;> omega
def hDReg : CH := fun args hl K => match args, hl with
  | [.ptr 0 0 0 _], [.box [.imm t z 1 l, .v (.int .i64 p)]] => ∃ bs, l = bs.map byteC ∧ BytesOk bs ∧ bs.length ≤ 1000 ∧ 0 ≤ p ∧ p ≤ bs.length ∧
      ∀ (r : Rg) (q : Int), 0 ≤ q → q ≤ bs.length → K (.agg (regC r)) [.box [.imm t z 1 (bs.map byteC), .v (.int .i64 q)]]
  | _, _ => False
theorem tmod6 {k : Int} (h0 : 0 ≤ k) (h1 : k ≤ 255) : IntKind.i64.wrap (5 + k.tmod 6) = 5 + k % 6 := by
  rw [Int.tmod_eq_emod_of_nonneg h0]; exact wrap64 (by omega)
def cx_s_l2Region : Ctx := mkC [(80, callM [.rw] false hNext), (82, callM [] false hPw)]
theorem cx_s_l2Region_ok : CtxOk Try.prog cx_s_l2Region := mkC_ok (mem1 ⟨s_next, fnOk Try.func80 rfl rfl⟩ (mem1 ⟨s_l2Pow2, fnOk Try.func82 rfl rfl⟩ mem0))
set_option maxRecDepth 100000 in
set_option pp.maxSteps 1500 in
set_option maxHeartbeats 4000000 in
theorem s_l2Region : HSound Try.prog 144 (callM [.rw] false hDReg) := by
  refine callM_sound cx_s_l2Region_ok mixed Try.func144 rfl fun args hl K hp => ?_
  unfold hDReg at hp
  split at hp
  · rename_i s t z l p
    obtain ⟨bs, rfl, hb, hn, hp0, hp1, hp⟩ := hp
    (refine Exists.intro bs (And.intro rfl (And.intro hb (And.intro hn (And.intro (by first | assumption | omega) (And.intro (by first | assumption | omega) ?_))))); intro k q1 _ _ _ _)
    (refine Exists.intro bs (And.intro rfl (And.intro hb (And.intro hn (And.intro (by first | assumption | omega) (And.intro (by first | assumption | omega) ?_))))); intro v q2 _ _ _ _)
    have e1 := tmod6 (k := k) (by assumption) (by assumption)
    have g1 : 0 ≤ IntKind.i64.wrap (5 + k.tmod 6) := by rw [e1]; omega
    have g2 : IntKind.i64.wrap (5 + k.tmod 6) ≤ 62 := by rw [e1]; omega
    have g3 : (2 : Int) ^ (IntKind.i64.wrap (5 + k.tmod 6)).toNat ≠ 0 := by
      have : (0 : Int) < 2 ^ (IntKind.i64.wrap (5 + k.tmod 6)).toNat := Int.pow_pos (by omega)
      omega
    repeat' ((first
      | refine And.intro (fun h1 => ?_) (fun h1 => ?_)
      | refine And.intro (by first | decide | exact g1 | exact g2 | exact g3) ?_
      | refine And.intro (show Region.lexB _ _ = true from by kernel_rfl) ?_
      | (refine Exists.intro bs (And.intro rfl (And.intro hb (And.intro hn (And.intro (by first | assumption | omega) (And.intro (by first | assumption | omega) ?_))))); intro w q3 _ _ _ _)
      | exact hp ⟨_, _, _, _, _, _⟩ _ (by assumption) (by assumption)
      | refine And.intro (show wfB _ = true from by kernel_rfl) ?_ | refine And.intro (And.intro rfl rfl) ?_ | exact And.intro rfl rfl | apply HeldC.intro | exact AV.top | (apply HeldF.intro; refine Exists.intro _ (And.intro (by assumption) ?_); refine And.intro (by decide) ?_; exact And.intro rfl rfl) | (refine And.intro (by (refine Exists.intro _ (And.intro (by assumption) ?_); refine And.intro (by decide) ?_; exact And.intro rfl rfl)) ?_) | refine Or.inl ?_) <;> try cases h1)
  · exact hp.elim

def hDRegs : CH := fun args hl K => match args, hl with
  | [.ptr 0 0 0 _], [.box [.imm t z 1 l, .v (.int .i64 p)]] => ∃ bs, l = bs.map byteC ∧ BytesOk bs ∧ bs.length ≤ 1000 ∧ 0 ≤ p ∧ p ≤ bs.length ∧
      ∀ (rs : List Rg) (q : Int), rs.length ≤ 20 → 0 ≤ q → q ≤ bs.length → K (.slc 1 0 rs.length false) [.box [.imm t z 1 (bs.map byteC), .v (.int .i64 q)], .lst 6 (rs.map regC)]
  | _, _ => False
def cx_s_l2Regions : Ctx := mkC [(80, callM [.rw] false hNext), (144, callM [.rw] false hDReg)]
theorem cx_s_l2Regions_ok : CtxOk Try.prog cx_s_l2Regions := mkC_ok (mem1 ⟨s_next, fnOk Try.func80 rfl rfl⟩ (mem1 ⟨s_l2Region, fnOk Try.func144 rfl rfl⟩ mem0))
set_option maxRecDepth 100000 in
set_option pp.maxSteps 1500 in
set_option maxHeartbeats 4000000 in
theorem s_l2Regions : HSound Try.prog 88 (callM [.rw] false hDRegs) := by
  refine callM_sound cx_s_l2Regions_ok mixed Try.func88 rfl fun args hl K hp => ?_
  unfold hDRegs at hp
  split at hp
  · rename_i s t z l p
    obtain ⟨bs, rfl, hb, hn, hp0, hp1, hp⟩ := hp
    refine Or.inl ?_
    (refine Exists.intro bs (And.intro rfl (And.intro hb (And.intro hn (And.intro (by first | assumption | omega) (And.intro (by first | assumption | omega) ?_))))); intro k q1 _ _ _ _)
    refine Exists.intro true (Exists.intro [0, 3, 4, 5] (Exists.intro (fun m vs h => ∃ (i : Nat) (rs : List Rg) (q : Int), i ≤ 5 ∧ m = 5 - i ∧ rs.length = i ∧ 0 ≤ q ∧ q ≤ bs.length ∧ vs = [.ptr 0 0 0 s, .v (.int .i64 k), .slc 1 0 rs.length false, .v (.int .i64 i)] ∧ h = [.box [.imm t z 1 (bs.map byteC), .v (.int .i64 q)], .lst 6 (rs.map regC)]) (And.intro ?_ ?_)))
    · refine Exists.intro [] (And.intro closed_nil (Exists.intro 5 ?_))
      exact ⟨0, [], q1, by omega, rfl, rfl, by assumption, by assumption, rfl, rfl⟩
    · intro m vs h hI
      obtain ⟨i, rs, q, hi, rfl, hrs, h0, h1, rfl, rfl⟩ := hI
      refine And.intro (by decide) ?_
      refine And.intro (fun h2 => ?_) (fun h2 => ?_)
      · refine Exists.intro bs (And.intro rfl (And.intro hb (And.intro hn (And.intro h0 (And.intro h1 ?_)))))
        intro r q' hq0 hq1
        repeat' (first
          | refine Exists.intro [regC r] (And.intro rfl (And.intro rfl (And.intro (reg_notSl r) ?_)))
          | refine And.intro (List.length_map _) ?_
          | refine And.intro (by simp; omega) ?_)
        have h5 : k.tmod 5 ≤ 4 := by rw [Int.tmod_eq_emod_of_nonneg (by assumption)]; omega
        simp only [decide_eq_true_eq] at h2
        refine Exists.intro [] (And.intro (closed_app (closed_Region rs) (closed_Region [r])) (Exists.intro (5 - (i + 1)) (And.intro (by omega) ⟨i + 1, rs ++ [r], q', by omega, rfl, by simp; omega, hq0, hq1, ?_, ?_⟩)))
        · rw [wrap_succ (by omega : i < 6) (by omega)]; simp
        · simp
      · refine And.intro (fun h3 => ?_) (fun h3 => ?_)
        · refine Exists.intro true (Exists.intro [0, 3, 4] (Exists.intro (fun m vs h => ∃ (rs : List Rg) (q : Int), rs.length ≤ 10 ∧ m = 10 - rs.length ∧ 0 ≤ q ∧ q ≤ bs.length ∧ vs = [.ptr 0 0 0 s, .v (.int .i64 k), .slc 1 0 rs.length false] ∧ h = [.box [.imm t z 1 (bs.map byteC), .v (.int .i64 q)], .lst 6 (rs.map regC)]) (And.intro ?_ ?_)))
          · refine Exists.intro [] (And.intro (closed_Region rs) (Exists.intro (10 - rs.length) ?_))
            exact ⟨rs, q, by omega, rfl, h0, h1, rfl, rfl⟩
          · intro m vs h hI
            obtain ⟨rs, q, hrs, rfl, h0, h1, rfl, rfl⟩ := hI
            refine And.intro (by decide) ?_
            have h9 : IntKind.i64.wrap (8 + k.tmod 2) ≤ 9 := by rw [Int.tmod_eq_emod_of_nonneg (by assumption), wrap64 (by omega)]; omega
            refine And.intro (fun h4 => ?_) (fun h4 => ?_)
            · repeat' (first
                | refine Exists.intro [regC ⟨0, 5, 0, true, false, false⟩] (And.intro rfl (And.intro rfl (And.intro (reg_notSl _) ?_)))
                | refine And.intro (List.length_map _) ?_
                | refine And.intro (by simp; omega) ?_)
              simp only [decide_eq_true_eq] at h4
              refine Exists.intro [] (And.intro (closed_app (closed_Region rs) (closed_Region [⟨0, 5, 0, true, false, false⟩])) (Exists.intro (10 - (rs.length + 1)) (And.intro (by omega) ⟨rs ++ [⟨0, 5, 0, true, false, false⟩], q, by simp; omega, by simp, h0, h1, ?_, ?_⟩)))
              · simp
              · simp
            · refine And.intro (closed_Region rs) ?_
              exact hp rs q (by omega) h0 h1
        · refine And.intro (closed_Region rs) ?_
          exact hp rs q (by omega) h0 h1
  · exact hp.elim

def hSpan : CH := fun args hl K => match args, hl with
  | [.agg [.v (.int .i64 b), .v (.int .i64 l), .v _, .v _, .v _, .v _]], [] => 0 ≤ l ∧ l ≤ 62 ∧ K (.tup [.v (.int .i64 b), .v (.int .i64 (2 ^ l.toNat))]) []
  | _, _ => False
def cx_s_Span : Ctx := mkC [(82, callM [] false hPw)]
theorem cx_s_Span_ok : CtxOk Try.prog cx_s_Span := mkC_ok (mem1 ⟨s_l2Pow2, fnOk Try.func82 rfl rfl⟩ mem0)
set_option maxRecDepth 100000 in
set_option pp.maxSteps 1500 in
theorem s_Span : HSound Try.prog 35 (callM [] true hSpan) := by
  refine callM_sound cx_s_Span_ok mixed Try.func35 rfl fun args hl K hp => ?_
  unfold hSpan at hp
  split at hp
  · rename_i b l _ _ _ _
    obtain ⟨h0, h1, hp⟩ := hp
    repeat' ((first | refine And.intro (fun h1 => ?_) (fun h1 => ?_) | refine And.intro (by first | decide | omega | ((first | exact h0 | exact h1))) ?_ | refine And.intro (show Region.lexB _ _ = true from by kernel_rfl) ?_ | refine And.intro (show wfB _ = true from by kernel_rfl) ?_ | refine And.intro (And.intro rfl rfl) ?_ | exact And.intro rfl rfl | apply HeldC.intro | exact AV.top | (apply HeldF.intro; refine Exists.intro _ (And.intro (by assumption) ?_); refine And.intro (by decide) ?_; exact And.intro rfl rfl) | (refine And.intro (by (refine Exists.intro _ (And.intro (by assumption) ?_); refine And.intro (by decide) ?_; exact And.intro rfl rfl)) ?_) | refine Or.inl ?_ | refine Exists.intro _ (And.intro (int_nat (by first | decide | omega | ((first | exact h0 | exact h1)))) (Exists.intro _ (And.intro rfl ?_)))) <;> try first | cases h1 | exact absurd h1 (by decide))
    exact hp
  · exact hp.elim

def hDAllow : CH := fun args hl K => match args, hl with
  | [.imm _ _ 1 l], [] => ∃ bs, l = bs.map byteC ∧ BytesOk bs ∧ bs.length ≤ maxLen ∧ ∀ (rs : List Rg) (a b c : Int), rs.length ≤ 20 → I64 a → K (.tup [.slc 0 0 rs.length false, .v (.int .i64 a), .v (.int .i64 b), .v (.int .i64 c)]) [.lst 6 (rs.map regC)]
  | _, _ => False
def cx_s_DrawAllowed : Ctx := mkC [(78, callM [] false hOpen), (88, callM [.rw] false hDRegs), (80, callM [.rw] false hNext)]
theorem cx_s_DrawAllowed_ok : CtxOk Try.prog cx_s_DrawAllowed := mkC_ok (mem1 ⟨s_l1Open, fnOk Try.func78 rfl rfl⟩ (mem1 ⟨s_l2Regions, fnOk Try.func88 rfl rfl⟩ (mem1 ⟨s_next, fnOk Try.func80 rfl rfl⟩ mem0)))
set_option maxRecDepth 100000 in
set_option pp.maxSteps 1500 in
set_option maxHeartbeats 4000000 in
theorem s_DrawAllowed : HSound Try.prog 32 (callM [] false hDAllow) := by
  refine callM_sound cx_s_DrawAllowed_ok mixed Try.func32 rfl fun args hl K hp => ?_
  unfold hDAllow at hp
  split at hp
  · rename_i t z l
    obtain ⟨cs, rfl, hcb, hcm, hp⟩ := hp
    refine Or.inl ?_
    refine Exists.intro cs (And.intro rfl (And.intro hcb (And.intro hcm ?_)))
    intro bs z hb hn
    refine Exists.intro bs (And.intro rfl (And.intro hb (And.intro hn (And.intro (by omega) (And.intro (by omega) ?_)))))
    intro rs q1 hr hq0 hq1
    (refine Exists.intro bs (And.intro rfl (And.intro hb (And.intro hn (And.intro (by first | assumption | omega) (And.intro (by first | assumption | omega) ?_))))); intro k q2 _ _ _ _)
    (refine Exists.intro bs (And.intro rfl (And.intro hb (And.intro hn (And.intro (by first | assumption | omega) (And.intro (by first | assumption | omega) ?_))))); intro a q3 _ _ _ _)
    have hk2 := wrap_div (v := k) (n := 2) (by assumption) (by assumption) (by decide)
    repeat' ((first | refine And.intro (fun h1 => ?_) (fun h1 => ?_) | refine And.intro (by decide) ?_ | refine And.intro (show wfB _ = true from by kernel_rfl) ?_ | refine And.intro (And.intro rfl rfl) ?_ | exact And.intro rfl rfl | apply HeldC.intro | exact AV.top | (apply HeldF.intro; refine Exists.intro _ (And.intro (by assumption) ?_); refine And.intro (by decide) ?_; exact And.intro rfl rfl) | (refine And.intro (by (refine Exists.intro _ (And.intro (by assumption) ?_); refine And.intro (by decide) ?_; exact And.intro rfl rfl)) ?_) | refine Or.inl ?_) <;> try cases h1)
    rotate_left
    iterate 2
      · (obtain ⟨j, ej, hj⟩ := tmod_nat (k := (IntKind.i64.wrap (k.tdiv 2))) (n := 6) (by omega) (by decide); refine Exists.intro j (And.intro ej (And.intro (by omega) ?_)); obtain ⟨m, hm⟩ := lit_get (ms := [1, 2, 4, 4, 1, 3]) (j := 0 + j) (by simp; omega))
        repeat' ((first | refine And.intro (fun h1 => ?_) (fun h1 => ?_) | refine And.intro (by decide) ?_ | refine And.intro (show wfB _ = true from by kernel_rfl) ?_ | refine And.intro (And.intro rfl rfl) ?_ | exact And.intro rfl rfl | apply HeldC.intro | exact AV.top | (apply HeldF.intro; refine Exists.intro _ (And.intro (by assumption) ?_); refine And.intro (by decide) ?_; exact And.intro rfl rfl) | (refine And.intro (by (refine Exists.intro _ (And.intro (by assumption) ?_); refine And.intro (by decide) ?_; exact And.intro rfl rfl)) ?_) | refine Or.inl ?_) <;> try cases h1)
        refine And.intro (closed_Region _) ?_
        exact hp rs _ _ _ hr (wrap_I64 _)
    have hlt : 0 < rs.length := by simpa using h1
    have hr0 : rs[0]? = some rs[0] := List.getElem?_eq_getElem hlt
    generalize rs[0] = r0 at hr0
    have hg0 := get_map (f := regC) hr0
    refine Exists.intro 0 (And.intro rfl (And.intro hlt ?_))
    apply HeldF.intro
    · exact Exists.intro (regC r0) (And.intro hg0 (And.intro (by decide) (And.intro rfl rfl)))
    apply HeldC.all (fun x h2 => ∃ v q : Int, 0 ≤ v ∧ v ≤ 255 ∧ 0 ≤ q ∧ q ≤ bs.length ∧ x = .v (.int .i64 v) ∧ h2 = [.box [.imm t z 1 (bs.map byteC), .v (.int .i64 q)], .lst 6 (rs.map regC)])
    · (refine Exists.intro bs (And.intro rfl (And.intro hb (And.intro hn (And.intro (by first | assumption | omega) (And.intro (by first | assumption | omega) ?_))))); intro v q _ _ _ _)
      exact ⟨_, _, ⟨v, q, by assumption, by assumption, by assumption, by assumption, rfl, rfl⟩, rfl, rfl⟩
    rintro x h2 ⟨v, q, v0, v1, q0, q1, rfl, rfl⟩
    refine And.intro (Exists.intro (regC r0) (And.intro (get_map hr0) (And.intro (by decide) (And.intro rfl rfl)))) ?_
    refine And.intro (Exists.intro 0 (And.intro rfl (And.intro hlt (And.intro rfl rfl)))) ?_
    repeat' ((first | refine And.intro (fun h1 => ?_) (fun h1 => ?_) | refine And.intro (by decide) ?_ | refine And.intro (show wfB _ = true from by kernel_rfl) ?_ | refine And.intro (And.intro rfl rfl) ?_ | exact And.intro rfl rfl | apply HeldC.intro | exact AV.top | (apply HeldF.intro; refine Exists.intro _ (And.intro (by assumption) ?_); refine And.intro (by decide) ?_; exact And.intro rfl rfl) | (refine And.intro (by (refine Exists.intro _ (And.intro (by assumption) ?_); refine And.intro (by decide) ?_; exact And.intro rfl rfl)) ?_) | refine Or.inl ?_) <;> try cases h1)
    · (obtain ⟨j, ej, hj⟩ := tmod_nat (k := (IntKind.i64.wrap (k.tdiv 2))) (n := 6) (by omega) (by decide); refine Exists.intro j (And.intro ej (And.intro (by omega) ?_)); obtain ⟨m, hm⟩ := lit_get (ms := [1, 2, 4, 4, 1, 3]) (j := 0 + j) (by simp; omega))
      repeat' ((first | refine And.intro (fun h1 => ?_) (fun h1 => ?_) | refine And.intro (by decide) ?_ | refine And.intro (show wfB _ = true from by kernel_rfl) ?_ | refine And.intro (And.intro rfl rfl) ?_ | exact And.intro rfl rfl | apply HeldC.intro | exact AV.top | (apply HeldF.intro; refine Exists.intro _ (And.intro (by assumption) ?_); refine And.intro (by decide) ?_; exact And.intro rfl rfl) | (refine And.intro (by (refine Exists.intro _ (And.intro (by assumption) ?_); refine And.intro (by decide) ?_; exact And.intro rfl rfl)) ?_) | refine Or.inl ?_) <;> try cases h1)
      refine And.intro (closed_Region _) ?_
      exact hp rs _ _ _ hr (wrap_I64 _)
  · exact hp.elim
end Go.Proofs.Ytegcfogbdgmajaa.Ab
