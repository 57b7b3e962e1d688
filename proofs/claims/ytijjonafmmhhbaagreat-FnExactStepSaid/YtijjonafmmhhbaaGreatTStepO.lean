/- Step of impl: the operations. No condition. -/
import Derived.Test.YtijjonafmmhhbaaGreatTStepC
namespace Go.Proofs.YtijjonafmmhhbaaGreat.Ab
set_option linter.unusedVariables false
set_option linter.unusedSimpArgs false

/-- What an operation finds. -/
structure OpIn (nx : Int) (regs f r o : List Int) (rs : List Rg) (imm : Int) (D A : Nat) : Prop where
  hD : D < 8
  hA : A < 8
  i0 : 0 ≤ imm
  i1 : imm ≤ 65535
  n0 : 0 ≤ nx
  n1 : nx ≤ 4294967295
  w : ∀ j < 8, 0 ≤ regs.getD j 0 ∧ regs.getD j 0 ≤ 4294967295
  bf : BytesOk f
  br : BytesOk r
  m0 : memOk f.length r.length o.length = true
  lrs : rs.length ≤ 1048576
/-- What it leaves. -/
def opPost (K : AV → HP → Prop) (nx : Int) (s : StepR) : Prop := ∀ cells', CoreC (if s.did = 5 then nx else s.pc) s.regs cells' → K (.agg [.v (.int .i64 s.did), .v (.int .i64 s.n)]) [.box cells', .box [.sl 1 (s.f.map byteC), .sl 1 (s.r.map byteC), .sl 1 (s.o.map byteC)]]
theorem finO {K : AV → HP → Prop} {a a' : AV} {h h' : HP} (hp : K a h) (e1 : a = a') (e2 : h = h') : K a' h' := e1 ▸ e2 ▸ hp
theorem set_selfI (regs : List Int) (j : Nat) (h : j < regs.length) : regs.set j (regs.getD j 0) = regs := by
  rw [List.getD_eq_getElem?_getD, List.getElem?_eq_getElem h]
  simp
theorem execAlu {op imm pc nx : Int} {regs f r o : List Int} {rs : List Rg} {D A : Nat} (h : 2 ≤ op ∧ op ≤ 13) : execF op D A imm pc nx regs f r o rs = ⟨nx, regs.set D (aluF op imm (regs.getD D 0) (regs.getD A 0)), f, r, o, 0, 0⟩ := by
  unfold execF
  rw [if_neg (by omega), if_pos h]
  simp
theorem high_eq {d imm : Int} (d0 : 0 ≤ d) (d1 : d ≤ 4294967295) (i0 : 0 ≤ imm) (i1 : imm ≤ 65535) :
    IntKind.i64.wrap ((BitVec.ofInt IntKind.i64.bits (IntKind.i64.wrap ((BitVec.ofInt IntKind.i64.bits d &&& BitVec.ofInt IntKind.i64.bits 65535).toNat : Nat)) ||| BitVec.ofInt IntKind.i64.bits (IntKind.i64.wrap (imm * 2 ^ (min (16 : Int).toNat IntKind.i64.bits)))).toNat : Nat) = d % 65536 + imm * 65536 := by
  obtain ⟨x, rfl⟩ := Int.eq_ofNat_of_zero_le d0
  have e1 : IntKind.i64.wrap ((BitVec.ofInt IntKind.i64.bits (x : Int) &&& BitVec.ofInt IntKind.i64.bits 65535).toNat : Nat) = ((x % 65536 : Nat) : Int) := and64 x 16 65535 (by omega) (by decide) (by decide)
  have e2 : (2 : Int) ^ (min (16 : Int).toNat IntKind.i64.bits) = 65536 := by decide
  rw [e1, e2, wrap64 (x := imm * 65536) (by omega), BitVec.or_comm, orI (x := imm * 65536) (y := ((x % 65536 : Nat) : Int)) 16 ⟨imm.toNat, by omega⟩ (by omega) (by omega) (by omega)]
  omega
def hOp2 : CH := fun args hl K => match args, hl with
  | [.ptr 0 0 0 _, .agg [.ptr 1 0 0 _, .imm _ _ 6 L], .agg [.v (.int .i64 op), .v (.int .i64 d), .v (.int .i64 a), .v (.int .i64 imm)]], [.box cells, .box [.sl 1 x, .sl 1 y, .sl 1 z]] => ∃ (pc nx : Int) (regs f r o : List Int) (rs : List Rg) (D A : Nat), CoreC nx regs cells ∧ x = f.map byteC ∧ y = r.map byteC ∧ z = o.map byteC ∧ L = rs.map regC ∧ d = D ∧ a = A ∧ OpIn nx regs f r o rs imm D A ∧ op = 2 ∧ opPost K nx (execF op D A imm pc nx regs f r o rs)
  | _, _ => False
def cx_s_oSet : Ctx := mkC []
theorem cx_s_oSet_ok : CtxOk Tryz.prog cx_s_oSet := cx0_ok
set_option maxRecDepth 100000 in
set_option pp.maxSteps 1500 in
set_option maxHeartbeats 4000000 in
theorem s_oSet : HSound Tryz.prog 82 (callM [.rw, .ag [.rw, .ro], .ro] true hOp2) := by
  refine callM_sound cx_s_oSet_ok mixed Tryz.func82 rfl fun args hl K hp => ?_
  unfold hOp2 at hp
  split at hp
  · rename_i _ _ _ _ L op d a imm cells x y z
    obtain ⟨pc, nx, regs, f, r, o, rs, D, A, hc, rfl, rfl, rfl, rfl, rfl, rfl, hin, rfl, hp⟩ := hp
    obtain ⟨hD, hA, i0, i1, n0, n1, hw, bf, br_, m0, lrs⟩ := hin
    have hgD := core_get hc hD
    have hgA := core_get hc hA
    have wD := hw D hD
    have wA := hw A hA
    rw [execAlu (by omega)] at hp
    have hs := core_set hc hD (imm)
    have hp := hp _ (show CoreC (if (0 : Int) = 5 then nx else nx) (regs.set D (aluF 2 imm (regs.getD D 0) (regs.getD A 0))) _ from by rw [if_neg (by decide), show aluF 2 imm (regs.getD D 0) (regs.getD A 0) = imm from rfl]; exact hs)
    obtain ⟨s0, s1, s2, s3, s4, s5, s6, s7, hregs, hcells⟩ := hs
    rw [hcells] at hp
    generalize hRD : regs.getD D 0 = vD at *
    generalize hRA : regs.getD A 0 = vA at *
    obtain ⟨r0, r1, r2, r3, r4, r5, r6, r7, rfl, rfl⟩ := hc
    refine Or.inl ?_
    refine And.intro (show wfB _ = true from by kernel_rfl) ?_
    repeat' (first
      | refine Exists.intro D (And.intro rfl (And.intro hD ?_))
      | refine Exists.intro A (And.intro rfl (And.intro hA ?_))
      | refine Exists.intro _ (And.intro hgD (And.intro rfl ?_))
      | refine Exists.intro _ (And.intro hgA (And.intro rfl ?_))
      | refine And.intro (Exists.intro D (And.intro rfl (And.intro hD (And.intro rfl rfl)))) ?_
      | refine And.intro (Exists.intro A (And.intro rfl (And.intro hA (And.intro rfl rfl)))) ?_
      | refine And.intro (Exists.intro _ (And.intro hgD (And.intro rfl (And.intro rfl rfl)))) ?_
      | refine And.intro (Exists.intro _ (And.intro hgA (And.intro rfl (And.intro rfl rfl)))) ?_
      | refine And.intro (by decide) ?_
      | (refine And.intro (show D + (0 + 1) < 9 by omega) ?_; refine Exists.intro _ (And.intro hcells ?_); exact And.intro rfl rfl)
      | refine Exists.intro _ (And.intro List.take_length (And.intro rfl (And.intro (closed_bytes _) ?_)))
      | refine And.intro (show wfB _ = true from by kernel_rfl) ?_ | refine And.intro (And.intro rfl rfl) ?_ | exact And.intro rfl rfl | apply HeldC.intro | exact AV.top | (apply HeldF.intro; refine Exists.intro _ (And.intro (by assumption) ?_); refine And.intro (by decide) ?_; exact And.intro rfl rfl) | (refine And.intro (by (refine Exists.intro _ (And.intro (by assumption) ?_); refine And.intro (by decide) ?_; exact And.intro rfl rfl)) ?_) | refine Or.inl ?_
      | fail)
    exact hp
  · exact hp.elim
def hOp3 : CH := fun args hl K => match args, hl with
  | [.ptr 0 0 0 _, .agg [.ptr 1 0 0 _, .imm _ _ 6 L], .agg [.v (.int .i64 op), .v (.int .i64 d), .v (.int .i64 a), .v (.int .i64 imm)]], [.box cells, .box [.sl 1 x, .sl 1 y, .sl 1 z]] => ∃ (pc nx : Int) (regs f r o : List Int) (rs : List Rg) (D A : Nat), CoreC nx regs cells ∧ x = f.map byteC ∧ y = r.map byteC ∧ z = o.map byteC ∧ L = rs.map regC ∧ d = D ∧ a = A ∧ OpIn nx regs f r o rs imm D A ∧ op = 3 ∧ opPost K nx (execF op D A imm pc nx regs f r o rs)
  | _, _ => False
def cx_s_oHigh : Ctx := mkC []
theorem cx_s_oHigh_ok : CtxOk Tryz.prog cx_s_oHigh := cx0_ok
set_option maxRecDepth 100000 in
set_option pp.maxSteps 1500 in
set_option maxHeartbeats 4000000 in
theorem s_oHigh : HSound Tryz.prog 83 (callM [.rw, .ag [.rw, .ro], .ro] true hOp3) := by
  refine callM_sound cx_s_oHigh_ok mixed Tryz.func83 rfl fun args hl K hp => ?_
  unfold hOp3 at hp
  split at hp
  · rename_i _ _ _ _ L op d a imm cells x y z
    obtain ⟨pc, nx, regs, f, r, o, rs, D, A, hc, rfl, rfl, rfl, rfl, rfl, rfl, hin, rfl, hp⟩ := hp
    obtain ⟨hD, hA, i0, i1, n0, n1, hw, bf, br_, m0, lrs⟩ := hin
    have hgD := core_get hc hD
    have hgA := core_get hc hA
    have wD := hw D hD
    have wA := hw A hA
    have hv := high_eq wD.1 wD.2 i0 i1
    rw [execAlu (by omega)] at hp
    have hs := core_set hc hD (IntKind.i64.wrap ((BitVec.ofInt IntKind.i64.bits (IntKind.i64.wrap ((BitVec.ofInt IntKind.i64.bits (regs.getD D 0) &&& BitVec.ofInt IntKind.i64.bits 65535).toNat : Nat)) ||| BitVec.ofInt IntKind.i64.bits (IntKind.i64.wrap (imm * 2 ^ (min (16 : Int).toNat IntKind.i64.bits)))).toNat : Nat))
    have hp := hp _ (show CoreC (if (0 : Int) = 5 then nx else nx) (regs.set D (aluF 3 imm (regs.getD D 0) (regs.getD A 0))) _ from by rw [if_neg (by decide), show aluF 3 imm (regs.getD D 0) (regs.getD A 0) = regs.getD D 0 % 65536 + imm * 65536 from rfl, ← hv]; exact hs)
    obtain ⟨s0, s1, s2, s3, s4, s5, s6, s7, hregs, hcells⟩ := hs
    rw [hcells] at hp
    generalize hRD : regs.getD D 0 = vD at *
    generalize hRA : regs.getD A 0 = vA at *
    obtain ⟨r0, r1, r2, r3, r4, r5, r6, r7, rfl, rfl⟩ := hc
    refine Or.inl ?_
    refine And.intro (show wfB _ = true from by kernel_rfl) ?_
    repeat' (first
      | refine Exists.intro D (And.intro rfl (And.intro hD ?_))
      | refine Exists.intro A (And.intro rfl (And.intro hA ?_))
      | refine Exists.intro _ (And.intro hgD (And.intro rfl ?_))
      | refine Exists.intro _ (And.intro hgA (And.intro rfl ?_))
      | refine And.intro (Exists.intro D (And.intro rfl (And.intro hD (And.intro rfl rfl)))) ?_
      | refine And.intro (Exists.intro A (And.intro rfl (And.intro hA (And.intro rfl rfl)))) ?_
      | refine And.intro (Exists.intro _ (And.intro hgD (And.intro rfl (And.intro rfl rfl)))) ?_
      | refine And.intro (Exists.intro _ (And.intro hgA (And.intro rfl (And.intro rfl rfl)))) ?_
      | refine And.intro (by decide) ?_
      | (refine And.intro (show D + (0 + 1) < 9 by omega) ?_; refine Exists.intro _ (And.intro hcells ?_); exact And.intro rfl rfl)
      | refine Exists.intro _ (And.intro List.take_length (And.intro rfl (And.intro (closed_bytes _) ?_)))
      | refine And.intro (show wfB _ = true from by kernel_rfl) ?_ | refine And.intro (And.intro rfl rfl) ?_ | exact And.intro rfl rfl | apply HeldC.intro | exact AV.top | (apply HeldF.intro; refine Exists.intro _ (And.intro (by assumption) ?_); refine And.intro (by decide) ?_; exact And.intro rfl rfl) | (refine And.intro (by (refine Exists.intro _ (And.intro (by assumption) ?_); refine And.intro (by decide) ?_; exact And.intro rfl rfl)) ?_) | refine Or.inl ?_
      | fail)
    exact hp
  · exact hp.elim
def hOp6 : CH := fun args hl K => match args, hl with
  | [.ptr 0 0 0 _, .agg [.ptr 1 0 0 _, .imm _ _ 6 L], .agg [.v (.int .i64 op), .v (.int .i64 d), .v (.int .i64 a), .v (.int .i64 imm)]], [.box cells, .box [.sl 1 x, .sl 1 y, .sl 1 z]] => ∃ (pc nx : Int) (regs f r o : List Int) (rs : List Rg) (D A : Nat), CoreC nx regs cells ∧ x = f.map byteC ∧ y = r.map byteC ∧ z = o.map byteC ∧ L = rs.map regC ∧ d = D ∧ a = A ∧ OpIn nx regs f r o rs imm D A ∧ op = 6 ∧ opPost K nx (execF op D A imm pc nx regs f r o rs)
  | _, _ => False
def cx_s_oNear : Ctx := mkC [(85, callM [.rw] false hNear)]
theorem cx_s_oNear_ok : CtxOk Tryz.prog cx_s_oNear := mkC_ok (mem1 ⟨s_near, fnOk Tryz.func85 rfl rfl⟩ mem0)
set_option maxRecDepth 100000 in
set_option pp.maxSteps 1500 in
set_option maxHeartbeats 4000000 in
theorem s_oNear : HSound Tryz.prog 84 (callM [.rw, .ag [.rw, .ro], .ro] true hOp6) := by
  refine callM_sound cx_s_oNear_ok mixed Tryz.func84 rfl fun args hl K hp => ?_
  unfold hOp6 at hp
  split at hp
  · rename_i _ _ _ _ L op d a imm cells x y z
    obtain ⟨pc, nx, regs, f, r, o, rs, D, A, hc, rfl, rfl, rfl, rfl, rfl, rfl, hin, rfl, hp⟩ := hp
    obtain ⟨hD, hA, i0, i1, n0, n1, hw, bf, br_, m0, lrs⟩ := hin
    have hgD := core_get hc hD
    have hgA := core_get hc hA
    have wD := hw D hD
    have wA := hw A hA
    have hc0 := hc
    rw [execAlu (by omega)] at hp
    have hs := core_set hc hD ((regs.getD A 0 + wideF imm) % 4294967296)
    have hp := hp _ (show CoreC (if (0 : Int) = 5 then nx else nx) (regs.set D (aluF 6 imm (regs.getD D 0) (regs.getD A 0))) _ from by rw [if_neg (by decide), show aluF 6 imm (regs.getD D 0) (regs.getD A 0) = (regs.getD A 0 + wideF imm) % 4294967296 from rfl]; exact hs)
    obtain ⟨s0, s1, s2, s3, s4, s5, s6, s7, hregs, hcells⟩ := hs
    rw [hcells] at hp
    generalize hRD : regs.getD D 0 = vD at *
    generalize hRA : regs.getD A 0 = vA at *
    obtain ⟨r0, r1, r2, r3, r4, r5, r6, r7, rfl, rfl⟩ := hc
    refine Or.inl ?_
    refine And.intro (show wfB _ = true from by kernel_rfl) ?_
    repeat' (first
      | refine Exists.intro D (And.intro rfl (And.intro hD ?_))
      | refine Exists.intro A (And.intro rfl (And.intro hA ?_))
      | refine Exists.intro _ (And.intro hgD (And.intro rfl ?_))
      | refine Exists.intro _ (And.intro hgA (And.intro rfl ?_))
      | refine And.intro (Exists.intro D (And.intro rfl (And.intro hD (And.intro rfl rfl)))) ?_
      | refine And.intro (Exists.intro A (And.intro rfl (And.intro hA (And.intro rfl rfl)))) ?_
      | refine And.intro (Exists.intro _ (And.intro hgD (And.intro rfl (And.intro rfl rfl)))) ?_
      | refine And.intro (Exists.intro _ (And.intro hgA (And.intro rfl (And.intro rfl rfl)))) ?_
      | refine And.intro (by decide) ?_
      | (refine Exists.intro nx (Exists.intro _ (Exists.intro A (And.intro hc0 (And.intro rfl (And.intro hA (And.intro i0 (And.intro i1 ?_))))))); rw [hRA]; exact And.intro rfl rfl)
      | (refine And.intro (show D + (0 + 1) < 9 by omega) ?_; refine Exists.intro _ (And.intro hcells ?_); exact And.intro rfl rfl)
      | refine Exists.intro _ (And.intro List.take_length (And.intro rfl (And.intro (closed_bytes _) ?_)))
      | refine And.intro (show wfB _ = true from by kernel_rfl) ?_ | refine And.intro (And.intro rfl rfl) ?_ | exact And.intro rfl rfl | apply HeldC.intro | exact AV.top | (apply HeldF.intro; refine Exists.intro _ (And.intro (by assumption) ?_); refine And.intro (by decide) ?_; exact And.intro rfl rfl) | (refine And.intro (by (refine Exists.intro _ (And.intro (by assumption) ?_); refine And.intro (by decide) ?_; exact And.intro rfl rfl)) ?_) | refine Or.inl ?_
      | fail)
    exact hp
  · exact hp.elim
def hOpP : CH := fun args hl K => match args, hl with
  | [.ptr 0 0 0 _, .agg [.ptr 1 0 0 _, .imm _ _ 6 L], .agg [.v (.int .i64 op), .v (.int .i64 d), .v (.int .i64 a), .v (.int .i64 imm)], .iptr _ [.fn g []]], [.box cells, .box [.sl 1 x, .sl 1 y, .sl 1 z]] => ∃ (pc nx : Int) (regs f r o : List Int) (rs : List Rg) (D A : Nat), CoreC nx regs cells ∧ x = f.map byteC ∧ y = r.map byteC ∧ z = o.map byteC ∧ L = rs.map regC ∧ d = D ∧ a = A ∧ OpIn nx regs f r o rs imm D A ∧ ((op = 4 ∧ g = 87) ∨ (op = 5 ∧ g = 88) ∨ (op = 7 ∧ g = 89) ∨ (op = 8 ∧ g = 90) ∨ (op = 9 ∧ g = 91) ∨ (op = 10 ∧ g = 92) ∨ (op = 11 ∧ g = 93) ∨ (op = 12 ∧ g = 94) ∨ (op = 13 ∧ g = 95)) ∧ opPost K nx (execF op D A imm pc nx regs f r o rs)
  | _, _ => False
def cx_s_oPair : Ctx := mkC [(87, callM [] false hG4), (88, callM [] false hG5), (89, callM [] false hG7), (90, callM [] false hG8), (91, callM [] false hG9), (92, callM [] false hG10), (93, callM [] false hG11), (94, callM [] false hG12), (95, callM [] false hG13)]
theorem cx_s_oPair_ok : CtxOk Tryz.prog cx_s_oPair := mkC_ok (mem1 ⟨s_op4, fnOk Tryz.func87 rfl rfl⟩ (mem1 ⟨s_op5, fnOk Tryz.func88 rfl rfl⟩ (mem1 ⟨s_op7, fnOk Tryz.func89 rfl rfl⟩ (mem1 ⟨s_op8, fnOk Tryz.func90 rfl rfl⟩ (mem1 ⟨s_op9, fnOk Tryz.func91 rfl rfl⟩ (mem1 ⟨s_op10, fnOk Tryz.func92 rfl rfl⟩ (mem1 ⟨s_op11, fnOk Tryz.func93 rfl rfl⟩ (mem1 ⟨s_op12, fnOk Tryz.func94 rfl rfl⟩ (mem1 ⟨s_op13, fnOk Tryz.func95 rfl rfl⟩ mem0)))))))))
set_option maxRecDepth 100000 in
set_option pp.maxSteps 1500 in
set_option maxHeartbeats 16000000 in
theorem s_oPair : HSound Tryz.prog 108 (callM [.rw, .ag [.rw, .ro], .ro, .ro] true hOpP) := by
  refine callM_sound cx_s_oPair_ok mixed Tryz.func108 rfl fun args hl K hp => ?_
  unfold hOpP at hp
  split at hp
  · rename_i _ _ _ _ L op d a imm _ g cells x y z
    obtain ⟨pc, nx, regs, f, r, o, rs, D, A, hc, rfl, rfl, rfl, rfl, rfl, rfl, hin, hg, hp⟩ := hp
    obtain ⟨hD, hA, i0, i1, n0, n1, hw, bf, br_, m0, lrs⟩ := hin
    have hgD := core_get hc hD
    have hgA := core_get hc hA
    have wD := hw D hD
    have wA := hw A hA
    rcases hg with ⟨rfl, rfl⟩ | ⟨rfl, rfl⟩ | ⟨rfl, rfl⟩ | ⟨rfl, rfl⟩ | ⟨rfl, rfl⟩ | ⟨rfl, rfl⟩ | ⟨rfl, rfl⟩ | ⟨rfl, rfl⟩ | ⟨rfl, rfl⟩
    · have hv := aluR_eq (g := 4) (d := regs.getD D 0) (a := regs.getD A 0) (imm := imm) (by decide) wD.1 wD.2 wA.1 wA.2
      rw [execAlu (by omega)] at hp
      have hs := core_set hc hD (IntKind.i64.wrap ((BitVec.ofInt IntKind.i64.bits (aluR 4 (regs.getD D 0) (regs.getD A 0)) &&& BitVec.ofInt IntKind.i64.bits 4294967295).toNat : Nat))
      have hp := hp _ (show CoreC (if (0 : Int) = 5 then nx else nx) (regs.set D (aluF 4 imm (regs.getD D 0) (regs.getD A 0))) _ from by rw [if_neg (by decide), show aluF (4 : Int) imm (regs.getD D 0) (regs.getD A 0) = _ from hv.symm]; exact hs)
      obtain ⟨s0, s1, s2, s3, s4, s5, s6, s7, hregs, hcells⟩ := hs
      rw [hcells] at hp
      generalize hRD : regs.getD D 0 = vD at *
      generalize hRA : regs.getD A 0 = vA at *
      obtain ⟨r0, r1, r2, r3, r4, r5, r6, r7, rfl, rfl⟩ := hc
      refine Or.inl ?_
      refine And.intro (show wfB _ = true from by kernel_rfl) ?_
      repeat' (first
        | refine Exists.intro D (And.intro rfl (And.intro hD ?_))
        | refine Exists.intro A (And.intro rfl (And.intro hA ?_))
        | refine Exists.intro _ (And.intro hgD (And.intro rfl ?_))
        | refine Exists.intro _ (And.intro hgA (And.intro rfl ?_))
        | refine And.intro (Exists.intro D (And.intro rfl (And.intro hD (And.intro rfl rfl)))) ?_
        | refine And.intro (Exists.intro A (And.intro rfl (And.intro hA (And.intro rfl rfl)))) ?_
        | refine And.intro (Exists.intro _ (And.intro hgD (And.intro rfl (And.intro rfl rfl)))) ?_
        | refine And.intro (Exists.intro _ (And.intro hgA (And.intro rfl (And.intro rfl rfl)))) ?_
        | refine And.intro (by decide) ?_
        | (refine And.intro (show D + (0 + 1) < 9 by omega) ?_; refine Exists.intro _ (And.intro hcells ?_); exact And.intro rfl rfl)
        | refine Exists.intro _ (And.intro List.take_length (And.intro rfl (And.intro (closed_bytes _) ?_)))
        | refine And.intro (show wfB _ = true from by kernel_rfl) ?_ | refine And.intro (And.intro rfl rfl) ?_ | exact And.intro rfl rfl | apply HeldC.intro | exact AV.top | (apply HeldF.intro; refine Exists.intro _ (And.intro (by assumption) ?_); refine And.intro (by decide) ?_; exact And.intro rfl rfl) | (refine And.intro (by (refine Exists.intro _ (And.intro (by assumption) ?_); refine And.intro (by decide) ?_; exact And.intro rfl rfl)) ?_) | refine Or.inl ?_
        | fail)
      exact hp
    · have hv := aluR_eq (g := 5) (d := regs.getD D 0) (a := regs.getD A 0) (imm := imm) (by decide) wD.1 wD.2 wA.1 wA.2
      rw [execAlu (by omega)] at hp
      have hs := core_set hc hD (IntKind.i64.wrap ((BitVec.ofInt IntKind.i64.bits (aluR 5 (regs.getD D 0) (regs.getD A 0)) &&& BitVec.ofInt IntKind.i64.bits 4294967295).toNat : Nat))
      have hp := hp _ (show CoreC (if (0 : Int) = 5 then nx else nx) (regs.set D (aluF 5 imm (regs.getD D 0) (regs.getD A 0))) _ from by rw [if_neg (by decide), show aluF (5 : Int) imm (regs.getD D 0) (regs.getD A 0) = _ from hv.symm]; exact hs)
      obtain ⟨s0, s1, s2, s3, s4, s5, s6, s7, hregs, hcells⟩ := hs
      rw [hcells] at hp
      generalize hRD : regs.getD D 0 = vD at *
      generalize hRA : regs.getD A 0 = vA at *
      obtain ⟨r0, r1, r2, r3, r4, r5, r6, r7, rfl, rfl⟩ := hc
      refine Or.inl ?_
      refine And.intro (show wfB _ = true from by kernel_rfl) ?_
      repeat' (first
        | refine Exists.intro D (And.intro rfl (And.intro hD ?_))
        | refine Exists.intro A (And.intro rfl (And.intro hA ?_))
        | refine Exists.intro _ (And.intro hgD (And.intro rfl ?_))
        | refine Exists.intro _ (And.intro hgA (And.intro rfl ?_))
        | refine And.intro (Exists.intro D (And.intro rfl (And.intro hD (And.intro rfl rfl)))) ?_
        | refine And.intro (Exists.intro A (And.intro rfl (And.intro hA (And.intro rfl rfl)))) ?_
        | refine And.intro (Exists.intro _ (And.intro hgD (And.intro rfl (And.intro rfl rfl)))) ?_
        | refine And.intro (Exists.intro _ (And.intro hgA (And.intro rfl (And.intro rfl rfl)))) ?_
        | refine And.intro (by decide) ?_
        | (refine And.intro (show D + (0 + 1) < 9 by omega) ?_; refine Exists.intro _ (And.intro hcells ?_); exact And.intro rfl rfl)
        | refine Exists.intro _ (And.intro List.take_length (And.intro rfl (And.intro (closed_bytes _) ?_)))
        | refine And.intro (show wfB _ = true from by kernel_rfl) ?_ | refine And.intro (And.intro rfl rfl) ?_ | exact And.intro rfl rfl | apply HeldC.intro | exact AV.top | (apply HeldF.intro; refine Exists.intro _ (And.intro (by assumption) ?_); refine And.intro (by decide) ?_; exact And.intro rfl rfl) | (refine And.intro (by (refine Exists.intro _ (And.intro (by assumption) ?_); refine And.intro (by decide) ?_; exact And.intro rfl rfl)) ?_) | refine Or.inl ?_
        | fail)
      exact hp
    · have hv := aluR_eq (g := 7) (d := regs.getD D 0) (a := regs.getD A 0) (imm := imm) (by decide) wD.1 wD.2 wA.1 wA.2
      rw [execAlu (by omega)] at hp
      have hs := core_set hc hD (IntKind.i64.wrap ((BitVec.ofInt IntKind.i64.bits (aluR 7 (regs.getD D 0) (regs.getD A 0)) &&& BitVec.ofInt IntKind.i64.bits 4294967295).toNat : Nat))
      have hp := hp _ (show CoreC (if (0 : Int) = 5 then nx else nx) (regs.set D (aluF 7 imm (regs.getD D 0) (regs.getD A 0))) _ from by rw [if_neg (by decide), show aluF (7 : Int) imm (regs.getD D 0) (regs.getD A 0) = _ from hv.symm]; exact hs)
      obtain ⟨s0, s1, s2, s3, s4, s5, s6, s7, hregs, hcells⟩ := hs
      rw [hcells] at hp
      generalize hRD : regs.getD D 0 = vD at *
      generalize hRA : regs.getD A 0 = vA at *
      obtain ⟨r0, r1, r2, r3, r4, r5, r6, r7, rfl, rfl⟩ := hc
      refine Or.inl ?_
      refine And.intro (show wfB _ = true from by kernel_rfl) ?_
      repeat' (first
        | refine Exists.intro D (And.intro rfl (And.intro hD ?_))
        | refine Exists.intro A (And.intro rfl (And.intro hA ?_))
        | refine Exists.intro _ (And.intro hgD (And.intro rfl ?_))
        | refine Exists.intro _ (And.intro hgA (And.intro rfl ?_))
        | refine And.intro (Exists.intro D (And.intro rfl (And.intro hD (And.intro rfl rfl)))) ?_
        | refine And.intro (Exists.intro A (And.intro rfl (And.intro hA (And.intro rfl rfl)))) ?_
        | refine And.intro (Exists.intro _ (And.intro hgD (And.intro rfl (And.intro rfl rfl)))) ?_
        | refine And.intro (Exists.intro _ (And.intro hgA (And.intro rfl (And.intro rfl rfl)))) ?_
        | refine And.intro (by decide) ?_
        | (refine And.intro (show D + (0 + 1) < 9 by omega) ?_; refine Exists.intro _ (And.intro hcells ?_); exact And.intro rfl rfl)
        | refine Exists.intro _ (And.intro List.take_length (And.intro rfl (And.intro (closed_bytes _) ?_)))
        | refine And.intro (show wfB _ = true from by kernel_rfl) ?_ | refine And.intro (And.intro rfl rfl) ?_ | exact And.intro rfl rfl | apply HeldC.intro | exact AV.top | (apply HeldF.intro; refine Exists.intro _ (And.intro (by assumption) ?_); refine And.intro (by decide) ?_; exact And.intro rfl rfl) | (refine And.intro (by (refine Exists.intro _ (And.intro (by assumption) ?_); refine And.intro (by decide) ?_; exact And.intro rfl rfl)) ?_) | refine Or.inl ?_
        | fail)
      exact hp
    · have hv := aluR_eq (g := 8) (d := regs.getD D 0) (a := regs.getD A 0) (imm := imm) (by decide) wD.1 wD.2 wA.1 wA.2
      rw [execAlu (by omega)] at hp
      have hs := core_set hc hD (IntKind.i64.wrap ((BitVec.ofInt IntKind.i64.bits (aluR 8 (regs.getD D 0) (regs.getD A 0)) &&& BitVec.ofInt IntKind.i64.bits 4294967295).toNat : Nat))
      have hp := hp _ (show CoreC (if (0 : Int) = 5 then nx else nx) (regs.set D (aluF 8 imm (regs.getD D 0) (regs.getD A 0))) _ from by rw [if_neg (by decide), show aluF (8 : Int) imm (regs.getD D 0) (regs.getD A 0) = _ from hv.symm]; exact hs)
      obtain ⟨s0, s1, s2, s3, s4, s5, s6, s7, hregs, hcells⟩ := hs
      rw [hcells] at hp
      generalize hRD : regs.getD D 0 = vD at *
      generalize hRA : regs.getD A 0 = vA at *
      obtain ⟨r0, r1, r2, r3, r4, r5, r6, r7, rfl, rfl⟩ := hc
      refine Or.inl ?_
      refine And.intro (show wfB _ = true from by kernel_rfl) ?_
      repeat' (first
        | refine Exists.intro D (And.intro rfl (And.intro hD ?_))
        | refine Exists.intro A (And.intro rfl (And.intro hA ?_))
        | refine Exists.intro _ (And.intro hgD (And.intro rfl ?_))
        | refine Exists.intro _ (And.intro hgA (And.intro rfl ?_))
        | refine And.intro (Exists.intro D (And.intro rfl (And.intro hD (And.intro rfl rfl)))) ?_
        | refine And.intro (Exists.intro A (And.intro rfl (And.intro hA (And.intro rfl rfl)))) ?_
        | refine And.intro (Exists.intro _ (And.intro hgD (And.intro rfl (And.intro rfl rfl)))) ?_
        | refine And.intro (Exists.intro _ (And.intro hgA (And.intro rfl (And.intro rfl rfl)))) ?_
        | refine And.intro (by decide) ?_
        | (refine And.intro (show D + (0 + 1) < 9 by omega) ?_; refine Exists.intro _ (And.intro hcells ?_); exact And.intro rfl rfl)
        | refine Exists.intro _ (And.intro List.take_length (And.intro rfl (And.intro (closed_bytes _) ?_)))
        | refine And.intro (show wfB _ = true from by kernel_rfl) ?_ | refine And.intro (And.intro rfl rfl) ?_ | exact And.intro rfl rfl | apply HeldC.intro | exact AV.top | (apply HeldF.intro; refine Exists.intro _ (And.intro (by assumption) ?_); refine And.intro (by decide) ?_; exact And.intro rfl rfl) | (refine And.intro (by (refine Exists.intro _ (And.intro (by assumption) ?_); refine And.intro (by decide) ?_; exact And.intro rfl rfl)) ?_) | refine Or.inl ?_
        | fail)
      exact hp
    · have hv := aluR_eq (g := 9) (d := regs.getD D 0) (a := regs.getD A 0) (imm := imm) (by decide) wD.1 wD.2 wA.1 wA.2
      rw [execAlu (by omega)] at hp
      have hs := core_set hc hD (IntKind.i64.wrap ((BitVec.ofInt IntKind.i64.bits (aluR 9 (regs.getD D 0) (regs.getD A 0)) &&& BitVec.ofInt IntKind.i64.bits 4294967295).toNat : Nat))
      have hp := hp _ (show CoreC (if (0 : Int) = 5 then nx else nx) (regs.set D (aluF 9 imm (regs.getD D 0) (regs.getD A 0))) _ from by rw [if_neg (by decide), show aluF (9 : Int) imm (regs.getD D 0) (regs.getD A 0) = _ from hv.symm]; exact hs)
      obtain ⟨s0, s1, s2, s3, s4, s5, s6, s7, hregs, hcells⟩ := hs
      rw [hcells] at hp
      generalize hRD : regs.getD D 0 = vD at *
      generalize hRA : regs.getD A 0 = vA at *
      obtain ⟨r0, r1, r2, r3, r4, r5, r6, r7, rfl, rfl⟩ := hc
      refine Or.inl ?_
      refine And.intro (show wfB _ = true from by kernel_rfl) ?_
      repeat' (first
        | refine Exists.intro D (And.intro rfl (And.intro hD ?_))
        | refine Exists.intro A (And.intro rfl (And.intro hA ?_))
        | refine Exists.intro _ (And.intro hgD (And.intro rfl ?_))
        | refine Exists.intro _ (And.intro hgA (And.intro rfl ?_))
        | refine And.intro (Exists.intro D (And.intro rfl (And.intro hD (And.intro rfl rfl)))) ?_
        | refine And.intro (Exists.intro A (And.intro rfl (And.intro hA (And.intro rfl rfl)))) ?_
        | refine And.intro (Exists.intro _ (And.intro hgD (And.intro rfl (And.intro rfl rfl)))) ?_
        | refine And.intro (Exists.intro _ (And.intro hgA (And.intro rfl (And.intro rfl rfl)))) ?_
        | refine And.intro (by decide) ?_
        | (refine And.intro (show D + (0 + 1) < 9 by omega) ?_; refine Exists.intro _ (And.intro hcells ?_); exact And.intro rfl rfl)
        | refine Exists.intro _ (And.intro List.take_length (And.intro rfl (And.intro (closed_bytes _) ?_)))
        | refine And.intro (show wfB _ = true from by kernel_rfl) ?_ | refine And.intro (And.intro rfl rfl) ?_ | exact And.intro rfl rfl | apply HeldC.intro | exact AV.top | (apply HeldF.intro; refine Exists.intro _ (And.intro (by assumption) ?_); refine And.intro (by decide) ?_; exact And.intro rfl rfl) | (refine And.intro (by (refine Exists.intro _ (And.intro (by assumption) ?_); refine And.intro (by decide) ?_; exact And.intro rfl rfl)) ?_) | refine Or.inl ?_
        | fail)
      exact hp
    · have hv := aluR_eq (g := 10) (d := regs.getD D 0) (a := regs.getD A 0) (imm := imm) (by decide) wD.1 wD.2 wA.1 wA.2
      rw [execAlu (by omega)] at hp
      have hs := core_set hc hD (IntKind.i64.wrap ((BitVec.ofInt IntKind.i64.bits (aluR 10 (regs.getD D 0) (regs.getD A 0)) &&& BitVec.ofInt IntKind.i64.bits 4294967295).toNat : Nat))
      have hp := hp _ (show CoreC (if (0 : Int) = 5 then nx else nx) (regs.set D (aluF 10 imm (regs.getD D 0) (regs.getD A 0))) _ from by rw [if_neg (by decide), show aluF (10 : Int) imm (regs.getD D 0) (regs.getD A 0) = _ from hv.symm]; exact hs)
      obtain ⟨s0, s1, s2, s3, s4, s5, s6, s7, hregs, hcells⟩ := hs
      rw [hcells] at hp
      generalize hRD : regs.getD D 0 = vD at *
      generalize hRA : regs.getD A 0 = vA at *
      obtain ⟨r0, r1, r2, r3, r4, r5, r6, r7, rfl, rfl⟩ := hc
      refine Or.inl ?_
      refine And.intro (show wfB _ = true from by kernel_rfl) ?_
      repeat' (first
        | refine Exists.intro D (And.intro rfl (And.intro hD ?_))
        | refine Exists.intro A (And.intro rfl (And.intro hA ?_))
        | refine Exists.intro _ (And.intro hgD (And.intro rfl ?_))
        | refine Exists.intro _ (And.intro hgA (And.intro rfl ?_))
        | refine And.intro (Exists.intro D (And.intro rfl (And.intro hD (And.intro rfl rfl)))) ?_
        | refine And.intro (Exists.intro A (And.intro rfl (And.intro hA (And.intro rfl rfl)))) ?_
        | refine And.intro (Exists.intro _ (And.intro hgD (And.intro rfl (And.intro rfl rfl)))) ?_
        | refine And.intro (Exists.intro _ (And.intro hgA (And.intro rfl (And.intro rfl rfl)))) ?_
        | refine And.intro (by decide) ?_
        | (refine And.intro (show D + (0 + 1) < 9 by omega) ?_; refine Exists.intro _ (And.intro hcells ?_); exact And.intro rfl rfl)
        | refine Exists.intro _ (And.intro List.take_length (And.intro rfl (And.intro (closed_bytes _) ?_)))
        | refine And.intro (show wfB _ = true from by kernel_rfl) ?_ | refine And.intro (And.intro rfl rfl) ?_ | exact And.intro rfl rfl | apply HeldC.intro | exact AV.top | (apply HeldF.intro; refine Exists.intro _ (And.intro (by assumption) ?_); refine And.intro (by decide) ?_; exact And.intro rfl rfl) | (refine And.intro (by (refine Exists.intro _ (And.intro (by assumption) ?_); refine And.intro (by decide) ?_; exact And.intro rfl rfl)) ?_) | refine Or.inl ?_
        | fail)
      exact hp
    · have hv := aluR_eq (g := 11) (d := regs.getD D 0) (a := regs.getD A 0) (imm := imm) (by decide) wD.1 wD.2 wA.1 wA.2
      rw [execAlu (by omega)] at hp
      have hs := core_set hc hD (IntKind.i64.wrap ((BitVec.ofInt IntKind.i64.bits (aluR 11 (regs.getD D 0) (regs.getD A 0)) &&& BitVec.ofInt IntKind.i64.bits 4294967295).toNat : Nat))
      have hp := hp _ (show CoreC (if (0 : Int) = 5 then nx else nx) (regs.set D (aluF 11 imm (regs.getD D 0) (regs.getD A 0))) _ from by rw [if_neg (by decide), show aluF (11 : Int) imm (regs.getD D 0) (regs.getD A 0) = _ from hv.symm]; exact hs)
      obtain ⟨s0, s1, s2, s3, s4, s5, s6, s7, hregs, hcells⟩ := hs
      rw [hcells] at hp
      generalize hRD : regs.getD D 0 = vD at *
      generalize hRA : regs.getD A 0 = vA at *
      obtain ⟨r0, r1, r2, r3, r4, r5, r6, r7, rfl, rfl⟩ := hc
      refine Or.inl ?_
      refine And.intro (show wfB _ = true from by kernel_rfl) ?_
      repeat' (first
        | refine Exists.intro D (And.intro rfl (And.intro hD ?_))
        | refine Exists.intro A (And.intro rfl (And.intro hA ?_))
        | refine Exists.intro _ (And.intro hgD (And.intro rfl ?_))
        | refine Exists.intro _ (And.intro hgA (And.intro rfl ?_))
        | refine And.intro (Exists.intro D (And.intro rfl (And.intro hD (And.intro rfl rfl)))) ?_
        | refine And.intro (Exists.intro A (And.intro rfl (And.intro hA (And.intro rfl rfl)))) ?_
        | refine And.intro (Exists.intro _ (And.intro hgD (And.intro rfl (And.intro rfl rfl)))) ?_
        | refine And.intro (Exists.intro _ (And.intro hgA (And.intro rfl (And.intro rfl rfl)))) ?_
        | refine And.intro (by decide) ?_
        | (refine And.intro (show D + (0 + 1) < 9 by omega) ?_; refine Exists.intro _ (And.intro hcells ?_); exact And.intro rfl rfl)
        | refine Exists.intro _ (And.intro List.take_length (And.intro rfl (And.intro (closed_bytes _) ?_)))
        | refine And.intro (show wfB _ = true from by kernel_rfl) ?_ | refine And.intro (And.intro rfl rfl) ?_ | exact And.intro rfl rfl | apply HeldC.intro | exact AV.top | (apply HeldF.intro; refine Exists.intro _ (And.intro (by assumption) ?_); refine And.intro (by decide) ?_; exact And.intro rfl rfl) | (refine And.intro (by (refine Exists.intro _ (And.intro (by assumption) ?_); refine And.intro (by decide) ?_; exact And.intro rfl rfl)) ?_) | refine Or.inl ?_
        | fail)
      exact hp
    · have hv := aluR_eq (g := 12) (d := regs.getD D 0) (a := regs.getD A 0) (imm := imm) (by decide) wD.1 wD.2 wA.1 wA.2
      rw [execAlu (by omega)] at hp
      have hs := core_set hc hD (IntKind.i64.wrap ((BitVec.ofInt IntKind.i64.bits (aluR 12 (regs.getD D 0) (regs.getD A 0)) &&& BitVec.ofInt IntKind.i64.bits 4294967295).toNat : Nat))
      have hp := hp _ (show CoreC (if (0 : Int) = 5 then nx else nx) (regs.set D (aluF 12 imm (regs.getD D 0) (regs.getD A 0))) _ from by rw [if_neg (by decide), show aluF (12 : Int) imm (regs.getD D 0) (regs.getD A 0) = _ from hv.symm]; exact hs)
      obtain ⟨s0, s1, s2, s3, s4, s5, s6, s7, hregs, hcells⟩ := hs
      rw [hcells] at hp
      generalize hRD : regs.getD D 0 = vD at *
      generalize hRA : regs.getD A 0 = vA at *
      obtain ⟨r0, r1, r2, r3, r4, r5, r6, r7, rfl, rfl⟩ := hc
      refine Or.inl ?_
      refine And.intro (show wfB _ = true from by kernel_rfl) ?_
      repeat' (first
        | refine Exists.intro D (And.intro rfl (And.intro hD ?_))
        | refine Exists.intro A (And.intro rfl (And.intro hA ?_))
        | refine Exists.intro _ (And.intro hgD (And.intro rfl ?_))
        | refine Exists.intro _ (And.intro hgA (And.intro rfl ?_))
        | refine And.intro (Exists.intro D (And.intro rfl (And.intro hD (And.intro rfl rfl)))) ?_
        | refine And.intro (Exists.intro A (And.intro rfl (And.intro hA (And.intro rfl rfl)))) ?_
        | refine And.intro (Exists.intro _ (And.intro hgD (And.intro rfl (And.intro rfl rfl)))) ?_
        | refine And.intro (Exists.intro _ (And.intro hgA (And.intro rfl (And.intro rfl rfl)))) ?_
        | refine And.intro (by decide) ?_
        | (refine And.intro (show D + (0 + 1) < 9 by omega) ?_; refine Exists.intro _ (And.intro hcells ?_); exact And.intro rfl rfl)
        | refine Exists.intro _ (And.intro List.take_length (And.intro rfl (And.intro (closed_bytes _) ?_)))
        | refine And.intro (show wfB _ = true from by kernel_rfl) ?_ | refine And.intro (And.intro rfl rfl) ?_ | exact And.intro rfl rfl | apply HeldC.intro | exact AV.top | (apply HeldF.intro; refine Exists.intro _ (And.intro (by assumption) ?_); refine And.intro (by decide) ?_; exact And.intro rfl rfl) | (refine And.intro (by (refine Exists.intro _ (And.intro (by assumption) ?_); refine And.intro (by decide) ?_; exact And.intro rfl rfl)) ?_) | refine Or.inl ?_
        | fail)
      exact hp
    · have hv := aluR_eq (g := 13) (d := regs.getD D 0) (a := regs.getD A 0) (imm := imm) (by decide) wD.1 wD.2 wA.1 wA.2
      rw [execAlu (by omega)] at hp
      have hs := core_set hc hD (IntKind.i64.wrap ((BitVec.ofInt IntKind.i64.bits (aluR 13 (regs.getD D 0) (regs.getD A 0)) &&& BitVec.ofInt IntKind.i64.bits 4294967295).toNat : Nat))
      have hp := hp _ (show CoreC (if (0 : Int) = 5 then nx else nx) (regs.set D (aluF 13 imm (regs.getD D 0) (regs.getD A 0))) _ from by rw [if_neg (by decide), show aluF (13 : Int) imm (regs.getD D 0) (regs.getD A 0) = _ from hv.symm]; exact hs)
      obtain ⟨s0, s1, s2, s3, s4, s5, s6, s7, hregs, hcells⟩ := hs
      rw [hcells] at hp
      generalize hRD : regs.getD D 0 = vD at *
      generalize hRA : regs.getD A 0 = vA at *
      obtain ⟨r0, r1, r2, r3, r4, r5, r6, r7, rfl, rfl⟩ := hc
      refine Or.inl ?_
      refine And.intro (show wfB _ = true from by kernel_rfl) ?_
      repeat' (first
        | refine Exists.intro D (And.intro rfl (And.intro hD ?_))
        | refine Exists.intro A (And.intro rfl (And.intro hA ?_))
        | refine Exists.intro _ (And.intro hgD (And.intro rfl ?_))
        | refine Exists.intro _ (And.intro hgA (And.intro rfl ?_))
        | refine And.intro (Exists.intro D (And.intro rfl (And.intro hD (And.intro rfl rfl)))) ?_
        | refine And.intro (Exists.intro A (And.intro rfl (And.intro hA (And.intro rfl rfl)))) ?_
        | refine And.intro (Exists.intro _ (And.intro hgD (And.intro rfl (And.intro rfl rfl)))) ?_
        | refine And.intro (Exists.intro _ (And.intro hgA (And.intro rfl (And.intro rfl rfl)))) ?_
        | refine And.intro (by decide) ?_
        | (refine And.intro (show D + (0 + 1) < 9 by omega) ?_; refine Exists.intro _ (And.intro hcells ?_); exact And.intro rfl rfl)
        | refine Exists.intro _ (And.intro List.take_length (And.intro rfl (And.intro (closed_bytes _) ?_)))
        | refine And.intro (show wfB _ = true from by kernel_rfl) ?_ | refine And.intro (And.intro rfl rfl) ?_ | exact And.intro rfl rfl | apply HeldC.intro | exact AV.top | (apply HeldF.intro; refine Exists.intro _ (And.intro (by assumption) ?_); refine And.intro (by decide) ?_; exact And.intro rfl rfl) | (refine And.intro (by (refine Exists.intro _ (And.intro (by assumption) ?_); refine And.intro (by decide) ?_; exact And.intro rfl rfl)) ?_) | refine Or.inl ?_
        | fail)
      exact hp
  · exact hp.elim
end Go.Proofs.YtijjonafmmhhbaaGreat.Ab
