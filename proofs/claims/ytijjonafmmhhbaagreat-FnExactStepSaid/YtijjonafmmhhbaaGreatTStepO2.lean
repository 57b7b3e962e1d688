/- Step of impl: loads, stores, jumps, ends. No condition. -/
import Derived.Test.YtijjonafmmhhbaaGreatTStepO
namespace Go.Proofs.YtijjonafmmhhbaaGreat.Ab
set_option linter.unusedVariables false
set_option linter.unusedSimpArgs false

theorem execLoad {op imm pc nx : Int} {regs f r o : List Int} {rs : List Rg} {D A : Nat} (h : 14 ≤ op ∧ op ≤ 16) : execF op D A imm pc nx regs f r o rs =
    if (busL f r o rs ((regs.getD A 0 + wideF imm) % 4294967296) (sizeF op)).2 ≠ 0 then ⟨pc, regs, f, r, o, 5, (busL f r o rs ((regs.getD A 0 + wideF imm) % 4294967296) (sizeF op)).2⟩
    else ⟨nx, regs.set D (busL f r o rs ((regs.getD A 0 + wideF imm) % 4294967296) (sizeF op)).1, f, r, o, 0, 0⟩ := by
  unfold execF
  rw [if_pos (by omega)]
  unfold memF busL
  rw [if_neg (by omega)]
  simp only [Int.toNat_natCast]
  split
  · rw [if_pos (by simp)]
  · rfl
theorem execStore {op imm pc nx : Int} {regs f r o : List Int} {rs : List Rg} {D A : Nat} (h : 17 ≤ op ∧ op ≤ 19) : execF op D A imm pc nx regs f r o rs =
    if (busS f r o rs ((regs.getD A 0 + wideF imm) % 4294967296) (sizeF op) (regs.getD D 0)).2.2 ≠ 0 then ⟨pc, regs, f, r, o, 5, (busS f r o rs ((regs.getD A 0 + wideF imm) % 4294967296) (sizeF op) (regs.getD D 0)).2.2⟩
    else ⟨nx, regs, f, (busS f r o rs ((regs.getD A 0 + wideF imm) % 4294967296) (sizeF op) (regs.getD D 0)).1, (busS f r o rs ((regs.getD A 0 + wideF imm) % 4294967296) (sizeF op) (regs.getD D 0)).2.1, 0, 0⟩ := by
  unfold execF
  rw [if_pos (by omega)]
  unfold memF busS
  rw [if_pos (by omega)]
  simp only [Int.toNat_natCast]
  split
  · rw [if_pos (by simp)]
  · rfl
theorem busS_fault {f r o : List Int} {rs : List Rg} {a s v : Int} (h : (busS f r o rs a s v).2.2 ≠ 0) : (busS f r o rs a s v).1 = r ∧ (busS f r o rs a s v).2.1 = o := by
  unfold busS at *
  split at h
  · rename_i q; rw [if_pos q]; exact ⟨rfl, rfl⟩
  · rename_i q; rw [if_neg q]; exact writeF_fault h
theorem size_w {op : Int} : widthB (sizeF op) = true := by
  unfold sizeF widthB
  split
  · decide
  · split <;> decide
def hOpL : CH := fun args hl K => match args, hl with
  | [.ptr 0 0 0 _, .agg [.ptr 1 0 0 _, .imm _ _ 6 L], .agg [.v (.int .i64 op), .v (.int .i64 d), .v (.int .i64 a), .v (.int .i64 imm)], .iptr _ [.v (.int .i64 s)]], [.box cells, .box [.sl 1 x, .sl 1 y, .sl 1 z]] => ∃ (pc nx : Int) (regs f r o : List Int) (rs : List Rg) (D A : Nat), CoreC nx regs cells ∧ x = f.map byteC ∧ y = r.map byteC ∧ z = o.map byteC ∧ L = rs.map regC ∧ d = D ∧ a = A ∧ OpIn nx regs f r o rs imm D A ∧ (14 ≤ op ∧ op ≤ 16 ∧ s = sizeF op) ∧ opPost K nx (execF op D A imm pc nx regs f r o rs)
  | _, _ => False
def cx_s_oLoads : Ctx := mkC [(85, callM [.rw] false hNear), (110, callM [.ag [.rw, .ro]] true hBLd)]
theorem cx_s_oLoads_ok : CtxOk Tryz.prog cx_s_oLoads := mkC_ok (mem1 ⟨s_near, fnOk Tryz.func85 rfl rfl⟩ (mem1 ⟨s_busLoad, fnOk Tryz.func110 rfl rfl⟩ mem0))
set_option maxRecDepth 100000 in
set_option pp.maxSteps 1500 in
set_option maxHeartbeats 16000000 in
theorem s_oLoads : HSound Tryz.prog 109 (callM [.rw, .ag [.rw, .ro], .ro, .ro] true hOpL) := by
  refine callM_sound cx_s_oLoads_ok mixed Tryz.func109 rfl fun args hl K hp => ?_
  unfold hOpL at hp
  split at hp
  · rename_i _ _ _ _ L op d a imm _ s cells x y z
    obtain ⟨pc, nx, regs, f, r, o, rs, D, A, hc, rfl, rfl, rfl, rfl, rfl, rfl, hin, ⟨o14, o16, rfl⟩, hp⟩ := hp
    obtain ⟨hD, hA, i0, i1, n0, n1, hw, bf, br_, m0, lrs⟩ := hin
    have hgD := core_get hc hD
    have hgA := core_get hc hA
    have wD := hw D hD
    have wA := hw A hA
    rw [execLoad ⟨o14, o16⟩] at hp
    have ia : I64 ((regs.getD A 0 + wideF imm) % 4294967296) := by simp only [I64]; omega
    have hsz := size_w (op := op)
    generalize hB : busL f r o rs ((regs.getD A 0 + wideF imm) % 4294967296) (sizeF op) = B at *
    have hs := core_set hc hD B.1
    have hcc := hc
    have hl8 := (core_len hc).2
    have hp1 : B.2 ≠ 0 → K (.agg [.v (.int .i64 5), .v (.int .i64 B.2)]) [.box cells, .box [.sl 1 (f.map byteC), .sl 1 (r.map byteC), .sl 1 (o.map byteC)]] := fun h => by
      rw [if_pos h] at hp
      exact hp cells (show CoreC (if (5 : Int) = 5 then nx else pc) regs cells from by rw [if_pos rfl]; exact hcc)
    have hp2 : B.2 = 0 → K (.agg [.v (.int .i64 0), .v (.int .i64 0)]) [.box (cells.set (D + (0 + 1)) (.v (.int .i64 B.1))), .box [.sl 1 (f.map byteC), .sl 1 (r.map byteC), .sl 1 (o.map byteC)]] := fun h => by
      rw [if_neg (by simp [h])] at hp
      exact hp _ (show CoreC (if (0 : Int) = 5 then nx else nx) (regs.set D B.1) _ from by rw [if_neg (by decide)]; exact hs)
    clear hp
    obtain ⟨s0, s1, s2, s3, s4, s5, s6, s7, hregs, hcells⟩ := hs
    rw [hcells] at hp2
    generalize hRA : regs.getD A 0 = vA at *
    have hc0 := hc
    obtain ⟨r0, r1, r2, r3, r4, r5, r6, r7, rfl, rfl⟩ := hc
    refine Or.inl ?_
    refine And.intro (show wfB _ = true from by kernel_rfl) ?_
    repeat' (first
      | (refine Exists.intro nx (Exists.intro _ (Exists.intro A (And.intro hc0 (And.intro rfl (And.intro hA (And.intro i0 (And.intro i1 ?_))))))); rw [hRA]; exact And.intro rfl rfl)
      | (refine Exists.intro f (Exists.intro r (Exists.intro o (Exists.intro rs (And.intro rfl (And.intro rfl (And.intro rfl (And.intro rfl (And.intro bf (And.intro br_ (And.intro m0 (And.intro hsz (And.intro ia (And.intro lrs ?_))))))))))))); rw [hB]; exact And.intro rfl rfl)
      | refine Exists.intro _ (And.intro List.take_length (And.intro rfl (And.intro (closed_bytes _) ?_)))
      | refine And.intro (show wfB _ = true from by kernel_rfl) ?_ | refine And.intro (And.intro rfl rfl) ?_ | exact And.intro rfl rfl | apply HeldC.intro | exact AV.top | (apply HeldF.intro; refine Exists.intro _ (And.intro (by assumption) ?_); refine And.intro (by decide) ?_; exact And.intro rfl rfl) | (refine And.intro (by (refine Exists.intro _ (And.intro (by assumption) ?_); refine And.intro (by decide) ?_; exact And.intro rfl rfl)) ?_) | refine Or.inl ?_
      | fail)
    refine And.intro (fun h1 => ?_) (fun h1 => ?_)
    · have h1 : B.2 ≠ 0 := by simpa using h1
      repeat' (first
        | refine Exists.intro _ (And.intro List.take_length (And.intro rfl (And.intro (closed_bytes _) ?_)))
        | fail)
      exact hp1 h1
    · have h1 : B.2 = 0 := by simpa using h1
      refine Or.inl ?_
      refine And.intro (show wfB _ = true from by kernel_rfl) ?_
      repeat' (first
        | refine Exists.intro D (And.intro rfl (And.intro hD ?_))
        | (refine And.intro (show D + (0 + 1) < 9 by omega) ?_; refine Exists.intro _ (And.intro hcells ?_); exact And.intro rfl rfl)
        | refine Exists.intro _ (And.intro List.take_length (And.intro rfl (And.intro (closed_bytes _) ?_)))
        | refine And.intro (show wfB _ = true from by kernel_rfl) ?_ | refine And.intro (And.intro rfl rfl) ?_ | exact And.intro rfl rfl | apply HeldC.intro | exact AV.top | (apply HeldF.intro; refine Exists.intro _ (And.intro (by assumption) ?_); refine And.intro (by decide) ?_; exact And.intro rfl rfl) | (refine And.intro (by (refine Exists.intro _ (And.intro (by assumption) ?_); refine And.intro (by decide) ?_; exact And.intro rfl rfl)) ?_) | refine Or.inl ?_
        | fail)
      exact hp2 h1
  · exact hp.elim
def hOpS : CH := fun args hl K => match args, hl with
  | [.ptr 0 0 0 _, .agg [.ptr 1 0 0 _, .imm _ _ 6 L], .agg [.v (.int .i64 op), .v (.int .i64 d), .v (.int .i64 a), .v (.int .i64 imm)], .iptr _ [.v (.int .i64 s)]], [.box cells, .box [.sl 1 x, .sl 1 y, .sl 1 z]] => ∃ (pc nx : Int) (regs f r o : List Int) (rs : List Rg) (D A : Nat), CoreC nx regs cells ∧ x = f.map byteC ∧ y = r.map byteC ∧ z = o.map byteC ∧ L = rs.map regC ∧ d = D ∧ a = A ∧ OpIn nx regs f r o rs imm D A ∧ (17 ≤ op ∧ op ≤ 19 ∧ s = sizeF op) ∧ opPost K nx (execF op D A imm pc nx regs f r o rs)
  | _, _ => False
def cx_s_oStores : Ctx := mkC [(85, callM [.rw] false hNear), (112, callM [.ag [.rw, .ro]] true hBSt)]
theorem cx_s_oStores_ok : CtxOk Tryz.prog cx_s_oStores := mkC_ok (mem1 ⟨s_near, fnOk Tryz.func85 rfl rfl⟩ (mem1 ⟨s_busStore, fnOk Tryz.func112 rfl rfl⟩ mem0))
set_option maxRecDepth 100000 in
set_option pp.maxSteps 1500 in
set_option maxHeartbeats 16000000 in
theorem s_oStores : HSound Tryz.prog 111 (callM [.rw, .ag [.rw, .ro], .ro, .ro] true hOpS) := by
  refine callM_sound cx_s_oStores_ok mixed Tryz.func111 rfl fun args hl K hp => ?_
  unfold hOpS at hp
  split at hp
  · rename_i _ _ _ _ L op d a imm _ s cells x y z
    obtain ⟨pc, nx, regs, f, r, o, rs, D, A, hc, rfl, rfl, rfl, rfl, rfl, rfl, hin, ⟨o14, o16, rfl⟩, hp⟩ := hp
    obtain ⟨hD, hA, i0, i1, n0, n1, hw, bf, br_, m0, lrs⟩ := hin
    have hgD := core_get hc hD
    have hgA := core_get hc hA
    have wD := hw D hD
    have wA := hw A hA
    rw [execStore ⟨o14, o16⟩] at hp
    have ia : I64 ((regs.getD A 0 + wideF imm) % 4294967296) := by simp only [I64]; omega
    have iv : I64 (regs.getD D 0) := by simp only [I64]; omega
    have hsz := size_w (op := op)
    have hft := busS_fault (f := f) (r := r) (o := o) (rs := rs) (a := (regs.getD A 0 + wideF imm) % 4294967296) (s := sizeF op) (v := regs.getD D 0)
    generalize hB : busS f r o rs ((regs.getD A 0 + wideF imm) % 4294967296) (sizeF op) (regs.getD D 0) = B at *
    have hcc := hc
    have hp1 : B.2.2 ≠ 0 → K (.agg [.v (.int .i64 5), .v (.int .i64 B.2.2)]) [.box cells, .box [.sl 1 (f.map byteC), .sl 1 (B.1.map byteC), .sl 1 (B.2.1.map byteC)]] := fun h => by
      rw [if_pos h] at hp
      rw [(hft h).1, (hft h).2]
      exact hp cells (show CoreC (if (5 : Int) = 5 then nx else pc) regs cells from by rw [if_pos rfl]; exact hcc)
    have hp2 : B.2.2 = 0 → K (.agg [.v (.int .i64 0), .v (.int .i64 0)]) [.box cells, .box [.sl 1 (f.map byteC), .sl 1 (B.1.map byteC), .sl 1 (B.2.1.map byteC)]] := fun h => by
      rw [if_neg (by simp [h])] at hp
      exact hp _ (show CoreC (if (0 : Int) = 5 then nx else nx) regs cells from by rw [if_neg (by decide)]; exact hcc)
    clear hp
    generalize hRA : regs.getD A 0 = vA at *
    generalize hRD : regs.getD D 0 = vD at *
    have hc0 := hc
    obtain ⟨r0, r1, r2, r3, r4, r5, r6, r7, rfl, rfl⟩ := hc
    refine Or.inl ?_
    refine And.intro (show wfB _ = true from by kernel_rfl) ?_
    repeat' (first
      | refine Exists.intro D (And.intro rfl (And.intro hD ?_))
      | refine And.intro (Exists.intro D (And.intro rfl (And.intro hD (And.intro rfl rfl)))) ?_
      | refine Exists.intro _ (And.intro hgD (And.intro rfl ?_))
      | refine And.intro (Exists.intro _ (And.intro hgD (And.intro rfl (And.intro rfl rfl)))) ?_
      | (refine Exists.intro nx (Exists.intro _ (Exists.intro A (And.intro hc0 (And.intro rfl (And.intro hA (And.intro i0 (And.intro i1 ?_))))))); rw [hRA]; exact And.intro rfl rfl)
      | (refine Exists.intro f (Exists.intro r (Exists.intro o (Exists.intro rs (And.intro rfl (And.intro rfl (And.intro rfl (And.intro rfl (And.intro m0 (And.intro hsz (And.intro ia (And.intro iv (And.intro lrs ?_)))))))))))); rw [hB]; exact And.intro rfl rfl)
      | refine Exists.intro _ (And.intro List.take_length (And.intro rfl (And.intro (closed_bytes _) ?_)))
      | refine And.intro (show wfB _ = true from by kernel_rfl) ?_ | refine And.intro (And.intro rfl rfl) ?_ | exact And.intro rfl rfl | apply HeldC.intro | exact AV.top | (apply HeldF.intro; refine Exists.intro _ (And.intro (by assumption) ?_); refine And.intro (by decide) ?_; exact And.intro rfl rfl) | (refine And.intro (by (refine Exists.intro _ (And.intro (by assumption) ?_); refine And.intro (by decide) ?_; exact And.intro rfl rfl)) ?_) | refine Or.inl ?_
      | fail)
    refine And.intro (fun h1 => ?_) (fun h1 => ?_)
    · have h1 : B.2.2 ≠ 0 := by simpa using h1
      repeat' (first
        | refine Exists.intro _ (And.intro List.take_length (And.intro rfl (And.intro (closed_bytes _) ?_)))
        | fail)
      exact hp1 h1
    · have h1 : B.2.2 = 0 := by simpa using h1
      repeat' (first
        | refine Exists.intro _ (And.intro List.take_length (And.intro rfl (And.intro (closed_bytes _) ?_)))
        | fail)
      exact hp2 h1
  · exact hp.elim

/-! ### Jumps and ends -/

def hJ20 : CH := fun args hl K => match args, hl with
  | [.v (.int .i64 _)], [] => K (.v (.bool true)) []
  | _, _ => False
def cx_s_j20 : Ctx := mkC []
theorem cx_s_j20_ok : CtxOk Tryz.prog cx_s_j20 := cx0_ok
set_option maxRecDepth 100000 in
set_option pp.maxSteps 1500 in
theorem s_j20 : HSound Tryz.prog 99 (callM [] false hJ20) := by
  refine callM_sound cx_s_j20_ok mixed Tryz.func99 rfl fun args hl K hp => ?_
  unfold hJ20 at hp
  split at hp
  · exact hp
  · exact hp.elim
def hJ21 : CH := fun args hl K => match args, hl with
  | [.v (.int .i64 v)], [] => K (.v (.bool (v == 0))) []
  | _, _ => False
def cx_s_j21 : Ctx := mkC []
theorem cx_s_j21_ok : CtxOk Tryz.prog cx_s_j21 := cx0_ok
set_option maxRecDepth 100000 in
set_option pp.maxSteps 1500 in
theorem s_j21 : HSound Tryz.prog 100 (callM [] false hJ21) := by
  refine callM_sound cx_s_j21_ok mixed Tryz.func100 rfl fun args hl K hp => ?_
  unfold hJ21 at hp
  split at hp
  · exact hp
  · exact hp.elim
def hJ22 : CH := fun args hl K => match args, hl with
  | [.v (.int .i64 v)], [] => 0 ≤ v ∧ v ≤ 4294967295 ∧ K (.v (.bool (decide (2147483648 ≤ v)))) []
  | _, _ => False
def cx_s_j22 : Ctx := mkC []
theorem cx_s_j22_ok : CtxOk Tryz.prog cx_s_j22 := cx0_ok
set_option maxRecDepth 100000 in
set_option pp.maxSteps 1500 in
theorem s_j22 : HSound Tryz.prog 101 (callM [] false hJ22) := by
  refine callM_sound cx_s_j22_ok mixed Tryz.func101 rfl fun args hl K hp => ?_
  unfold hJ22 at hp
  split at hp
  · rename_i v
    obtain ⟨v0, v1, hp⟩ := hp
    refine And.intro (by decide) ?_
    refine fin_b hp ?_
    have e : v.fdiv (2 ^ (min (31 : Int).toNat IntKind.i64.bits)) = v / 2147483648 := by
      rw [Int.fdiv_eq_ediv_of_nonneg _ (by decide)]
      rfl
    rw [e, Bool.eq_iff_iff]
    simp only [decide_eq_true_eq, beq_iff_eq]
    omega
  · exact hp.elim
theorem core_pc {p : Int} {regs : List Int} {a b c d e f g h : Int} (hr : regs = [a, b, c, d, e, f, g, h]) : CoreC p regs [.v (.int .i64 p), .v (.int .i64 a), .v (.int .i64 b), .v (.int .i64 c), .v (.int .i64 d), .v (.int .i64 e), .v (.int .i64 f), .v (.int .i64 g), .v (.int .i64 h)] := ⟨a, b, c, d, e, f, g, h, hr, rfl⟩
theorem execJump {op imm pc nx : Int} {regs f r o : List Int} {rs : List Rg} {D A : Nat} (h : 20 ≤ op ∧ op ≤ 22) : execF op D A imm pc nx regs f r o rs = ⟨if jumpB op (regs.getD D 0) = true then (nx + 4 * wideF imm) % 4294967296 else nx, regs, f, r, o, 0, 0⟩ := by
  unfold execF
  rw [if_neg (by omega), if_neg (by omega)]
  have e : eventF op imm nx = (0, 0) := by unfold eventF; rw [if_neg (by omega), if_neg (by omega), if_neg (by omega), if_neg (by omega)]
  rw [e]
  simp
theorem execEnd {op imm pc nx : Int} {regs f r o : List Int} {rs : List Rg} {D A : Nat} (h : op = 1 ∨ op = 23 ∨ op = 24 ∨ op = 25) : execF op D A imm pc nx regs f r o rs = ⟨nx, regs, f, r, o, (eventF op imm nx).1, (eventF op imm nx).2⟩ := by
  unfold execF
  rw [if_neg (by omega), if_neg (by omega), if_neg]
  rcases h with rfl | rfl | rfl | rfl <;> simp [eventF]
def hOpJ : CH := fun args hl K => match args, hl with
  | [.ptr 0 0 0 _, .agg [.ptr 1 0 0 _, .imm _ _ 6 L], .agg [.v (.int .i64 op), .v (.int .i64 d), .v (.int .i64 a), .v (.int .i64 imm)], .iptr _ [.fn g []]], [.box cells, .box [.sl 1 x, .sl 1 y, .sl 1 z]] => ∃ (pc nx : Int) (regs f r o : List Int) (rs : List Rg) (D A : Nat), CoreC nx regs cells ∧ x = f.map byteC ∧ y = r.map byteC ∧ z = o.map byteC ∧ L = rs.map regC ∧ d = D ∧ a = A ∧ OpIn nx regs f r o rs imm D A ∧ ((op = 20 ∧ g = 99) ∨ (op = 21 ∧ g = 100) ∨ (op = 22 ∧ g = 101)) ∧ opPost K nx (execF op D A imm pc nx regs f r o rs)
  | _, _ => False
def cx_s_oJumps : Ctx := mkC [(80, callM [.rw] false hTarget), (99, callM [] false hJ20), (100, callM [] false hJ21), (101, callM [] false hJ22)]
theorem cx_s_oJumps_ok : CtxOk Tryz.prog cx_s_oJumps := mkC_ok (mem1 ⟨s_target, fnOk Tryz.func80 rfl rfl⟩ (mem1 ⟨s_j20, fnOk Tryz.func99 rfl rfl⟩ (mem1 ⟨s_j21, fnOk Tryz.func100 rfl rfl⟩ (mem1 ⟨s_j22, fnOk Tryz.func101 rfl rfl⟩ mem0))))
set_option maxRecDepth 100000 in
set_option pp.maxSteps 1500 in
set_option maxHeartbeats 16000000 in
theorem s_oJumps : HSound Tryz.prog 113 (callM [.rw, .ag [.rw, .ro], .ro, .ro] true hOpJ) := by
  refine callM_sound cx_s_oJumps_ok mixed Tryz.func113 rfl fun args hl K hp => ?_
  unfold hOpJ at hp
  split at hp
  · rename_i _ _ _ _ L op d a imm _ g cells x y z
    obtain ⟨pc, nx, regs, f, r, o, rs, D, A, hc, rfl, rfl, rfl, rfl, rfl, rfl, hin, hg, hp⟩ := hp
    obtain ⟨hD, hA, i0, i1, n0, n1, hw, bf, br_, m0, lrs⟩ := hin
    have hgD := core_get hc hD
    have hgA := core_get hc hA
    have wD := hw D hD
    have wA := hw A hA
    have hcc := hc
    have hwd := wide_bd i0 i1
    rcases hg with ⟨rfl, rfl⟩ | ⟨rfl, rfl⟩ | ⟨rfl, rfl⟩
    all_goals rw [execJump (by omega)] at hp
    all_goals generalize hRD : regs.getD D 0 = vD at *
    all_goals have hc0 := hc
    all_goals obtain ⟨r0, r1, r2, r3, r4, r5, r6, r7, rfl, rfl⟩ := hc
    all_goals refine Or.inl ?_
    all_goals refine And.intro (show wfB _ = true from by kernel_rfl) ?_
    all_goals repeat' (first
      | refine Exists.intro D (And.intro rfl (And.intro hD ?_))
      | refine And.intro (Exists.intro D (And.intro rfl (And.intro hD (And.intro rfl rfl)))) ?_
      | refine Exists.intro _ (And.intro hgD (And.intro rfl ?_))
      | refine And.intro (Exists.intro _ (And.intro hgD (And.intro rfl (And.intro rfl rfl)))) ?_
      | (refine And.intro wD.1 (And.intro wD.2 ?_); exact And.intro rfl rfl)
      | refine Exists.intro nx (Exists.intro _ (And.intro hc0 (And.intro i0 (And.intro i1 ?_))))
      | refine Exists.intro _ (And.intro List.take_length (And.intro rfl (And.intro (closed_bytes _) ?_)))
      | refine And.intro (show wfB _ = true from by kernel_rfl) ?_ | refine And.intro (And.intro rfl rfl) ?_ | exact And.intro rfl rfl | apply HeldC.intro | exact AV.top | (apply HeldF.intro; refine Exists.intro _ (And.intro (by assumption) ?_); refine And.intro (by decide) ?_; exact And.intro rfl rfl) | (refine And.intro (by (refine Exists.intro _ (And.intro (by assumption) ?_); refine And.intro (by decide) ?_; exact And.intro rfl rfl)) ?_) | refine Or.inl ?_
      | refine And.intro (fun h1 => ?_) (fun h1 => ?_)
      | fail)
    all_goals try (exfalso; revert h1; decide)
    all_goals first
      | exact hp _ (show CoreC (if (0 : Int) = 5 then nx else _) _ _ from by rw [if_neg (by decide), if_pos (by simp [jumpB] at *; first | done | omega)]; exact core_pc rfl)
      | exact hp _ (show CoreC (if (0 : Int) = 5 then nx else _) _ _ from by rw [if_neg (by decide), if_neg (by simp [jumpB] at *; first | done | omega)]; exact core_pc rfl)
      | fail
  · exact hp.elim
def hE1 : CH := fun args hl K => match args, hl with
  | [.ptr 0 0 0 _, .agg [.v _, .v _, .v _, .v _]], [.box cells] => ∃ (pc : Int) (regs : List Int), CoreC pc regs cells ∧ K (.v (.int .i64 0)) [.box cells]
  | _, _ => False
def cx_s_e1 : Ctx := mkC []
theorem cx_s_e1_ok : CtxOk Tryz.prog cx_s_e1 := cx0_ok
set_option maxRecDepth 100000 in
set_option pp.maxSteps 1500 in
theorem s_e1 : HSound Tryz.prog 78 (callM [.rw] false hE1) := by
  refine callM_sound cx_s_e1_ok mixed Tryz.func78 rfl fun args hl K hp => ?_
  unfold hE1 at hp
  split at hp
  · obtain ⟨pc, regs, ⟨r0, r1, r2, r3, r4, r5, r6, r7, rfl, rfl⟩, hp⟩ := hp
    exact hp
  · exact hp.elim
def hE2 : CH := fun args hl K => match args, hl with
  | [.ptr 0 0 0 _, .agg [.v _, .v _, .v _, .v (.int .i64 imm)]], [.box cells] => ∃ (pc : Int) (regs : List Int), CoreC pc regs cells ∧ K (.v (.int .i64 imm)) [.box cells]
  | _, _ => False
def cx_s_e2 : Ctx := mkC []
theorem cx_s_e2_ok : CtxOk Tryz.prog cx_s_e2 := cx0_ok
set_option maxRecDepth 100000 in
set_option pp.maxSteps 1500 in
theorem s_e2 : HSound Tryz.prog 81 (callM [.rw] false hE2) := by
  refine callM_sound cx_s_e2_ok mixed Tryz.func81 rfl fun args hl K hp => ?_
  unfold hE2 at hp
  split at hp
  · obtain ⟨pc, regs, ⟨r0, r1, r2, r3, r4, r5, r6, r7, rfl, rfl⟩, hp⟩ := hp
    exact hp
  · exact hp.elim
def hOpE : CH := fun args hl K => match args, hl with
  | [.ptr 0 0 0 _, .agg [.ptr 1 0 0 _, .imm _ _ 6 L], .agg [.v (.int .i64 op), .v (.int .i64 d), .v (.int .i64 a), .v (.int .i64 imm)], .iptr _ [.v (.int .i64 s)], .iptr _ [.fn g []]], [.box cells, .box [.sl 1 x, .sl 1 y, .sl 1 z]] => ∃ (pc nx : Int) (regs f r o : List Int) (rs : List Rg) (D A : Nat), CoreC nx regs cells ∧ x = f.map byteC ∧ y = r.map byteC ∧ z = o.map byteC ∧ L = rs.map regC ∧ d = D ∧ a = A ∧ OpIn nx regs f r o rs imm D A ∧ ((op = 1 ∧ s = 1 ∧ g = 78) ∨ (op = 25 ∧ s = 4 ∧ g = 78) ∨ (op = 23 ∧ s = 2 ∧ g = 80) ∨ (op = 24 ∧ s = 3 ∧ g = 81)) ∧ opPost K nx (execF op D A imm pc nx regs f r o rs)
  | _, _ => False
def cx_s_oEnds : Ctx := mkC [(78, callM [.rw] false hE1), (81, callM [.rw] false hE2), (80, callM [.rw] false hTarget)]
theorem cx_s_oEnds_ok : CtxOk Tryz.prog cx_s_oEnds := mkC_ok (mem1 ⟨s_e1, fnOk Tryz.func78 rfl rfl⟩ (mem1 ⟨s_e2, fnOk Tryz.func81 rfl rfl⟩ (mem1 ⟨s_target, fnOk Tryz.func80 rfl rfl⟩ mem0)))
set_option maxRecDepth 100000 in
set_option pp.maxSteps 1500 in
set_option maxHeartbeats 16000000 in
theorem s_oEnds : HSound Tryz.prog 106 (callM [.rw, .ag [.rw, .ro], .ro, .ro, .ro] true hOpE) := by
  refine callM_sound cx_s_oEnds_ok mixed Tryz.func106 rfl fun args hl K hp => ?_
  unfold hOpE at hp
  split at hp
  · rename_i _ _ _ _ L op d a imm _ s _ g cells x y z
    obtain ⟨pc, nx, regs, f, r, o, rs, D, A, hc, rfl, rfl, rfl, rfl, rfl, rfl, hin, hg, hp⟩ := hp
    obtain ⟨hD, hA, i0, i1, n0, n1, hw, bf, br_, m0, lrs⟩ := hin
    have hgD := core_get hc hD
    have hgA := core_get hc hA
    have wD := hw D hD
    have wA := hw A hA
    have hcc := hc
    rcases hg with ⟨rfl, rfl, rfl⟩ | ⟨rfl, rfl, rfl⟩ | ⟨rfl, rfl, rfl⟩ | ⟨rfl, rfl, rfl⟩
    all_goals rw [execEnd (by omega)] at hp
    all_goals have hc0 := hc
    all_goals obtain ⟨r0, r1, r2, r3, r4, r5, r6, r7, rfl, rfl⟩ := hc
    all_goals have hp := hp _ (show CoreC (if _ then nx else nx) _ _ from by rw [ite_self]; exact core_pc rfl)
    all_goals refine Or.inl ?_
    all_goals refine And.intro (show wfB _ = true from by kernel_rfl) ?_
    all_goals repeat' (first
      | (refine Exists.intro nx (Exists.intro _ (And.intro hc0 (And.intro i0 (And.intro i1 ?_)))); exact And.intro rfl rfl)
      | (refine Exists.intro nx (Exists.intro _ (And.intro hc0 ?_)); exact And.intro rfl rfl)
      | refine Exists.intro _ (And.intro List.take_length (And.intro rfl (And.intro (closed_bytes _) ?_)))
      | refine And.intro (show wfB _ = true from by kernel_rfl) ?_ | refine And.intro (And.intro rfl rfl) ?_ | exact And.intro rfl rfl | apply HeldC.intro | exact AV.top | (apply HeldF.intro; refine Exists.intro _ (And.intro (by assumption) ?_); refine And.intro (by decide) ?_; exact And.intro rfl rfl) | (refine And.intro (by (refine Exists.intro _ (And.intro (by assumption) ?_); refine And.intro (by decide) ?_; exact And.intro rfl rfl)) ?_) | refine Or.inl ?_
      | fail)
    all_goals first
      | exact hp
      | fail
  · exact hp.elim
end Go.Proofs.YtijjonafmmhhbaaGreat.Ab
