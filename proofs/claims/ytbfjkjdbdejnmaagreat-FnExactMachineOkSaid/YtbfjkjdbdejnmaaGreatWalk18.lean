/- Functions walked, part 18. No condition. -/
import Derived.Test.YtbfjkjdbdejnmaaGreatWalk17
import Derived.Test.YtbfjkjdbdejnmaaGreatWalk16
set_option linter.unusedVariables false
set_option linter.unusedSimpArgs false
/- Step of impl: loads, stores, jumps, ends. No condition. -/
namespace Go.Proofs.YtbfjkjdbdejnmaaGreat.Ab
set_option linter.unusedVariables false
set_option linter.unusedSimpArgs false

theorem execLoad {op imm pc nx : Int} {regs f r o : List Int} {rs : List Rg} {D A : Nat} (h : 14 ≤ op ∧ op ≤ 16) : execF op D A imm pc nx regs f r o rs =
    if (busL f r o rs ((regs.getD A 0 + wideF imm) % 4294967296) (sizeF op)).2 ≠ 0 then ⟨pc, regs, f, r, o, 5, (busL f r o rs ((regs.getD A 0 + wideF imm) % 4294967296) (sizeF op)).2⟩
    else ⟨nx, regs.set D (busL f r o rs ((regs.getD A 0 + wideF imm) % 4294967296) (sizeF op)).1, f, r, o, 0, 0⟩ := by
  unfold execF
  rw [if_pos (by omega)]
  unfold memF busL
  rw [if_neg (by omega)]
  simp only [Int.toNat_natCast]
  split
  · rw [if_pos (by simp)]
  · rfl
theorem execStore {op imm pc nx : Int} {regs f r o : List Int} {rs : List Rg} {D A : Nat} (h : 17 ≤ op ∧ op ≤ 19) : execF op D A imm pc nx regs f r o rs =
    if (busS f r o rs ((regs.getD A 0 + wideF imm) % 4294967296) (sizeF op) (regs.getD D 0)).2.2 ≠ 0 then ⟨pc, regs, f, r, o, 5, (busS f r o rs ((regs.getD A 0 + wideF imm) % 4294967296) (sizeF op) (regs.getD D 0)).2.2⟩
    else ⟨nx, regs, f, (busS f r o rs ((regs.getD A 0 + wideF imm) % 4294967296) (sizeF op) (regs.getD D 0)).1, (busS f r o rs ((regs.getD A 0 + wideF imm) % 4294967296) (sizeF op) (regs.getD D 0)).2.1, 0, 0⟩ := by
  unfold execF
  rw [if_pos (by omega)]
  unfold memF busS
  rw [if_pos (by omega)]
  simp only [Int.toNat_natCast]
  split
  · rw [if_pos (by simp)]
  · rfl
theorem busS_fault {f r o : List Int} {rs : List Rg} {a s v : Int} (h : (busS f r o rs a s v).2.2 ≠ 0) : (busS f r o rs a s v).1 = r ∧ (busS f r o rs a s v).2.1 = o := by
  unfold busS at *
  split at h
  · rename_i q; rw [if_pos q]; exact ⟨rfl, rfl⟩
  · rename_i q; rw [if_neg q]; exact writeF_fault h
theorem size_w {op : Int} : widthB (sizeF op) = true := by
  unfold sizeF widthB
  split
  · decide
  · split <;> decide
def hOpL : CH := fun args hl K => match args, hl with
  | [.ptr 0 0 0 _, .agg [.ptr 1 0 0 _, .imm _ _ 6 L], .agg [.v (.int .i64 op), .v (.int .i64 d), .v (.int .i64 a), .v (.int .i64 imm)], .iptr _ [.v (.int .i64 s)]], [.box cells, .box [.sl 1 x, .sl 1 y, .sl 1 z]] => ∃ (pc nx : Int) (regs f r o : List Int) (rs : List Rg) (D A : Nat), CoreC nx regs cells ∧ x = f.map byteC ∧ y = r.map byteC ∧ z = o.map byteC ∧ L = rs.map regC ∧ d = D ∧ a = A ∧ OpIn nx regs f r o rs imm D A ∧ (14 ≤ op ∧ op ≤ 16 ∧ s = sizeF op) ∧ opPost K nx (execF op D A imm pc nx regs f r o rs)
  | _, _ => False
def cx_s_oLoads : Ctx := mkC [(171, callM [.rw] false hNear), (213, callM [.ag [.rw, .ro]] true hBLd)]
theorem cx_s_oLoads_ok : CtxOk Tryz.prog cx_s_oLoads := mkC_ok (mem1 ⟨s_near, fnOk Tryz.func171 rfl rfl⟩ (mem1 ⟨s_busLoad, fnOk Tryz.func213 rfl rfl⟩ mem0))
set_option maxRecDepth 100000 in
set_option pp.maxSteps 1500 in
set_option maxHeartbeats 16000000 in
theorem s_oLoads : HSound Tryz.prog 212 (callM [.rw, .ag [.rw, .ro], .ro, .ro] true hOpL) := by
  refine callM_sound cx_s_oLoads_ok mixed Tryz.func212 rfl fun args hl K hp => ?_
  unfold hOpL at hp
  split at hp
  · rename_i _ _ _ _ L op d a imm _ s cells x y z
    obtain ⟨pc, nx, regs, f, r, o, rs, D, A, hc, rfl, rfl, rfl, rfl, rfl, rfl, hin, ⟨o14, o16, rfl⟩, hp⟩ := hp
    obtain ⟨hD, hA, i0, i1, n0, n1, hw, bf, br_, m0, lrs⟩ := hin
    have hgD := core_get hc hD
    have hgA := core_get hc hA
    have wD := hw D hD
    have wA := hw A hA
    rw [execLoad ⟨o14, o16⟩] at hp
    have ia : I64 ((regs.getD A 0 + wideF imm) % 4294967296) := by simp only [I64]; omega
    have hsz := size_w (op := op)
    generalize hB : busL f r o rs ((regs.getD A 0 + wideF imm) % 4294967296) (sizeF op) = B at *
    have hs := core_set hc hD B.1
    have hcc := hc
    have hl8 := (core_len hc).2
    have hp1 : B.2 ≠ 0 → K (.agg [.v (.int .i64 5), .v (.int .i64 B.2)]) [.box cells, .box [.sl 1 (f.map byteC), .sl 1 (r.map byteC), .sl 1 (o.map byteC)]] := fun h => by
      rw [if_pos h] at hp
      exact hp cells (show CoreC (if (5 : Int) = 5 then nx else pc) regs cells from by rw [if_pos rfl]; exact hcc)
    have hp2 : B.2 = 0 → K (.agg [.v (.int .i64 0), .v (.int .i64 0)]) [.box (cells.set (D + (0 + 1)) (.v (.int .i64 B.1))), .box [.sl 1 (f.map byteC), .sl 1 (r.map byteC), .sl 1 (o.map byteC)]] := fun h => by
      rw [if_neg (by simp [h])] at hp
      exact hp _ (show CoreC (if (0 : Int) = 5 then nx else nx) (regs.set D B.1) _ from by rw [if_neg (by decide)]; exact hs)
    clear hp
    obtain ⟨s0, s1, s2, s3, s4, s5, s6, s7, hregs, hcells⟩ := hs
    rw [hcells] at hp2
    generalize hRA : regs.getD A 0 = vA at *
    have hc0 := hc
    obtain ⟨r0, r1, r2, r3, r4, r5, r6, r7, rfl, rfl⟩ := hc
    refine Or.inl ?_
    refine And.intro (show wfB _ = true from by kernel_rfl) ?_
    repeat' (first
      | (refine Exists.intro nx (Exists.intro _ (Exists.intro A (And.intro hc0 (And.intro rfl (And.intro hA (And.intro i0 (And.intro i1 ?_))))))); rw [hRA]; exact And.intro rfl rfl)
      | (refine Exists.intro f (Exists.intro r (Exists.intro o (Exists.intro rs (And.intro rfl (And.intro rfl (And.intro rfl (And.intro rfl (And.intro bf (And.intro br_ (And.intro m0 (And.intro hsz (And.intro ia (And.intro lrs ?_))))))))))))); rw [hB]; exact And.intro rfl rfl)
      | refine Exists.intro _ (And.intro List.take_length (And.intro rfl (And.intro (closed_bytes _) ?_)))
      | refine And.intro (show wfB _ = true from by kernel_rfl) ?_ | refine And.intro (And.intro rfl rfl) ?_ | exact And.intro rfl rfl | apply HeldC.intro | exact AV.top | (apply HeldF.intro; refine Exists.intro _ (And.intro (by assumption) ?_); refine And.intro (by decide) ?_; exact And.intro rfl rfl) | (refine And.intro (by (refine Exists.intro _ (And.intro (by assumption) ?_); refine And.intro (by decide) ?_; exact And.intro rfl rfl)) ?_) | refine Or.inl ?_
      | fail)
    refine And.intro (fun h1 => ?_) (fun h1 => ?_)
    · have h1 : B.2 ≠ 0 := by simpa using h1
      repeat' (first
        | refine Exists.intro _ (And.intro List.take_length (And.intro rfl (And.intro (closed_bytes _) ?_)))
        | fail)
      exact hp1 h1
    · have h1 : B.2 = 0 := by simpa using h1
      refine Or.inl ?_
      refine And.intro (show wfB _ = true from by kernel_rfl) ?_
      repeat' (first
        | refine Exists.intro D (And.intro rfl (And.intro hD ?_))
        | (refine And.intro (show D + (0 + 1) < 9 by omega) ?_; refine Exists.intro _ (And.intro hcells ?_); exact And.intro rfl rfl)
        | refine Exists.intro _ (And.intro List.take_length (And.intro rfl (And.intro (closed_bytes _) ?_)))
        | refine And.intro (show wfB _ = true from by kernel_rfl) ?_ | refine And.intro (And.intro rfl rfl) ?_ | exact And.intro rfl rfl | apply HeldC.intro | exact AV.top | (apply HeldF.intro; refine Exists.intro _ (And.intro (by assumption) ?_); refine And.intro (by decide) ?_; exact And.intro rfl rfl) | (refine And.intro (by (refine Exists.intro _ (And.intro (by assumption) ?_); refine And.intro (by decide) ?_; exact And.intro rfl rfl)) ?_) | refine Or.inl ?_
        | fail)
      exact hp2 h1
  · exact hp.elim
def hOpS : CH := fun args hl K => match args, hl with
  | [.ptr 0 0 0 _, .agg [.ptr 1 0 0 _, .imm _ _ 6 L], .agg [.v (.int .i64 op), .v (.int .i64 d), .v (.int .i64 a), .v (.int .i64 imm)], .iptr _ [.v (.int .i64 s)]], [.box cells, .box [.sl 1 x, .sl 1 y, .sl 1 z]] => ∃ (pc nx : Int) (regs f r o : List Int) (rs : List Rg) (D A : Nat), CoreC nx regs cells ∧ x = f.map byteC ∧ y = r.map byteC ∧ z = o.map byteC ∧ L = rs.map regC ∧ d = D ∧ a = A ∧ OpIn nx regs f r o rs imm D A ∧ (17 ≤ op ∧ op ≤ 19 ∧ s = sizeF op) ∧ opPost K nx (execF op D A imm pc nx regs f r o rs)
  | _, _ => False
def cx_s_oStores : Ctx := mkC [(171, callM [.rw] false hNear), (215, callM [.ag [.rw, .ro]] true hBSt)]
theorem cx_s_oStores_ok : CtxOk Tryz.prog cx_s_oStores := mkC_ok (mem1 ⟨s_near, fnOk Tryz.func171 rfl rfl⟩ (mem1 ⟨s_busStore, fnOk Tryz.func215 rfl rfl⟩ mem0))
set_option maxRecDepth 100000 in
set_option pp.maxSteps 1500 in
set_option maxHeartbeats 16000000 in
theorem s_oStores : HSound Tryz.prog 214 (callM [.rw, .ag [.rw, .ro], .ro, .ro] true hOpS) := by
  refine callM_sound cx_s_oStores_ok mixed Tryz.func214 rfl fun args hl K hp => ?_
  unfold hOpS at hp
  split at hp
  · rename_i _ _ _ _ L op d a imm _ s cells x y z
    obtain ⟨pc, nx, regs, f, r, o, rs, D, A, hc, rfl, rfl, rfl, rfl, rfl, rfl, hin, ⟨o14, o16, rfl⟩, hp⟩ := hp
    obtain ⟨hD, hA, i0, i1, n0, n1, hw, bf, br_, m0, lrs⟩ := hin
    have hgD := core_get hc hD
    have hgA := core_get hc hA
    have wD := hw D hD
    have wA := hw A hA
    rw [execStore ⟨o14, o16⟩] at hp
    have ia : I64 ((regs.getD A 0 + wideF imm) % 4294967296) := by simp only [I64]; omega
    have iv : I64 (regs.getD D 0) := by simp only [I64]; omega
    have hsz := size_w (op := op)
    have hft := busS_fault (f := f) (r := r) (o := o) (rs := rs) (a := (regs.getD A 0 + wideF imm) % 4294967296) (s := sizeF op) (v := regs.getD D 0)
    generalize hB : busS f r o rs ((regs.getD A 0 + wideF imm) % 4294967296) (sizeF op) (regs.getD D 0) = B at *
    have hcc := hc
    have hp1 : B.2.2 ≠ 0 → K (.agg [.v (.int .i64 5), .v (.int .i64 B.2.2)]) [.box cells, .box [.sl 1 (f.map byteC), .sl 1 (B.1.map byteC), .sl 1 (B.2.1.map byteC)]] := fun h => by
      rw [if_pos h] at hp
      rw [(hft h).1, (hft h).2]
      exact hp cells (show CoreC (if (5 : Int) = 5 then nx else pc) regs cells from by rw [if_pos rfl]; exact hcc)
    have hp2 : B.2.2 = 0 → K (.agg [.v (.int .i64 0), .v (.int .i64 0)]) [.box cells, .box [.sl 1 (f.map byteC), .sl 1 (B.1.map byteC), .sl 1 (B.2.1.map byteC)]] := fun h => by
      rw [if_neg (by simp [h])] at hp
      exact hp _ (show CoreC (if (0 : Int) = 5 then nx else nx) regs cells from by rw [if_neg (by decide)]; exact hcc)
    clear hp
    generalize hRA : regs.getD A 0 = vA at *
    generalize hRD : regs.getD D 0 = vD at *
    have hc0 := hc
    obtain ⟨r0, r1, r2, r3, r4, r5, r6, r7, rfl, rfl⟩ := hc
    refine Or.inl ?_
    refine And.intro (show wfB _ = true from by kernel_rfl) ?_
    repeat' (first
      | refine Exists.intro D (And.intro rfl (And.intro hD ?_))
      | refine And.intro (Exists.intro D (And.intro rfl (And.intro hD (And.intro rfl rfl)))) ?_
      | refine Exists.intro _ (And.intro hgD (And.intro rfl ?_))
      | refine And.intro (Exists.intro _ (And.intro hgD (And.intro rfl (And.intro rfl rfl)))) ?_
      | (refine Exists.intro nx (Exists.intro _ (Exists.intro A (And.intro hc0 (And.intro rfl (And.intro hA (And.intro i0 (And.intro i1 ?_))))))); rw [hRA]; exact And.intro rfl rfl)
      | (refine Exists.intro f (Exists.intro r (Exists.intro o (Exists.intro rs (And.intro rfl (And.intro rfl (And.intro rfl (And.intro rfl (And.intro m0 (And.intro hsz (And.intro ia (And.intro iv (And.intro lrs ?_)))))))))))); rw [hB]; exact And.intro rfl rfl)
      | refine Exists.intro _ (And.intro List.take_length (And.intro rfl (And.intro (closed_bytes _) ?_)))
      | refine And.intro (show wfB _ = true from by kernel_rfl) ?_ | refine And.intro (And.intro rfl rfl) ?_ | exact And.intro rfl rfl | apply HeldC.intro | exact AV.top | (apply HeldF.intro; refine Exists.intro _ (And.intro (by assumption) ?_); refine And.intro (by decide) ?_; exact And.intro rfl rfl) | (refine And.intro (by (refine Exists.intro _ (And.intro (by assumption) ?_); refine And.intro (by decide) ?_; exact And.intro rfl rfl)) ?_) | refine Or.inl ?_
      | fail)
    refine And.intro (fun h1 => ?_) (fun h1 => ?_)
    · have h1 : B.2.2 ≠ 0 := by simpa using h1
      repeat' (first
        | refine Exists.intro _ (And.intro List.take_length (And.intro rfl (And.intro (closed_bytes _) ?_)))
        | fail)
      exact hp1 h1
    · have h1 : B.2.2 = 0 := by simpa using h1
      repeat' (first
        | refine Exists.intro _ (And.intro List.take_length (And.intro rfl (And.intro (closed_bytes _) ?_)))
        | fail)
      exact hp2 h1
  · exact hp.elim

/-! ### Jumps and ends -/

def hJ20 : CH := fun args hl K => match args, hl with
  | [.v (.int .i64 _)], [] => K (.v (.bool true)) []
  | _, _ => False
def cx_s_j20 : Ctx := mkC []
theorem cx_s_j20_ok : CtxOk Tryz.prog cx_s_j20 := cx0_ok
set_option maxRecDepth 100000 in
set_option pp.maxSteps 1500 in
theorem s_j20 : HSound Tryz.prog 185 (callM [] false hJ20) := by
  refine callM_sound cx_s_j20_ok mixed Tryz.func185 rfl fun args hl K hp => ?_
  unfold hJ20 at hp
  split at hp
  · exact hp
  · exact hp.elim
def hJ21 : CH := fun args hl K => match args, hl with
  | [.v (.int .i64 v)], [] => K (.v (.bool (v == 0))) []
  | _, _ => False
def cx_s_j21 : Ctx := mkC []
theorem cx_s_j21_ok : CtxOk Tryz.prog cx_s_j21 := cx0_ok
set_option maxRecDepth 100000 in
set_option pp.maxSteps 1500 in
theorem s_j21 : HSound Tryz.prog 186 (callM [] false hJ21) := by
  refine callM_sound cx_s_j21_ok mixed Tryz.func186 rfl fun args hl K hp => ?_
  unfold hJ21 at hp
  split at hp
  · exact hp
  · exact hp.elim
def hJ22 : CH := fun args hl K => match args, hl with
  | [.v (.int .i64 v)], [] => 0 ≤ v ∧ v ≤ 4294967295 ∧ K (.v (.bool (decide (2147483648 ≤ v)))) []
  | _, _ => False
def cx_s_j22 : Ctx := mkC []
theorem cx_s_j22_ok : CtxOk Tryz.prog cx_s_j22 := cx0_ok
set_option maxRecDepth 100000 in
set_option pp.maxSteps 1500 in
theorem s_j22 : HSound Tryz.prog 187 (callM [] false hJ22) := by
  refine callM_sound cx_s_j22_ok mixed Tryz.func187 rfl fun args hl K hp => ?_
  unfold hJ22 at hp
  split at hp
  · rename_i v
    obtain ⟨v0, v1, hp⟩ := hp
    refine And.intro (by decide) ?_
    refine fin_b hp ?_
    have e : v.fdiv (2 ^ (min (31 : Int).toNat IntKind.i64.bits)) = v / 2147483648 := by
      rw [Int.fdiv_eq_ediv_of_nonneg _ (by decide)]
      rfl
    rw [e, Bool.eq_iff_iff]
    simp only [decide_eq_true_eq, beq_iff_eq]
    omega
  · exact hp.elim
theorem core_pc {p : Int} {regs : List Int} {a b c d e f g h : Int} (hr : regs = [a, b, c, d, e, f, g, h]) : CoreC p regs [.v (.int .i64 p), .v (.int .i64 a), .v (.int .i64 b), .v (.int .i64 c), .v (.int .i64 d), .v (.int .i64 e), .v (.int .i64 f), .v (.int .i64 g), .v (.int .i64 h)] := ⟨a, b, c, d, e, f, g, h, hr, rfl⟩
theorem execJump {op imm pc nx : Int} {regs f r o : List Int} {rs : List Rg} {D A : Nat} (h : 20 ≤ op ∧ op ≤ 22) : execF op D A imm pc nx regs f r o rs = ⟨if jumpB op (regs.getD D 0) = true then (nx + 4 * wideF imm) % 4294967296 else nx, regs, f, r, o, 0, 0⟩ := by
  unfold execF
  rw [if_neg (by omega), if_neg (by omega)]
  have e : eventF op imm nx = (0, 0) := by unfold eventF; rw [if_neg (by omega), if_neg (by omega), if_neg (by omega), if_neg (by omega)]
  rw [e]
  simp
theorem execEnd {op imm pc nx : Int} {regs f r o : List Int} {rs : List Rg} {D A : Nat} (h : op = 1 ∨ op = 23 ∨ op = 24 ∨ op = 25) : execF op D A imm pc nx regs f r o rs = ⟨nx, regs, f, r, o, (eventF op imm nx).1, (eventF op imm nx).2⟩ := by
  unfold execF
  rw [if_neg (by omega), if_neg (by omega), if_neg]
  rcases h with rfl | rfl | rfl | rfl <;> simp [eventF]
def hOpJ : CH := fun args hl K => match args, hl with
  | [.ptr 0 0 0 _, .agg [.ptr 1 0 0 _, .imm _ _ 6 L], .agg [.v (.int .i64 op), .v (.int .i64 d), .v (.int .i64 a), .v (.int .i64 imm)], .iptr _ [.fn g []]], [.box cells, .box [.sl 1 x, .sl 1 y, .sl 1 z]] => ∃ (pc nx : Int) (regs f r o : List Int) (rs : List Rg) (D A : Nat), CoreC nx regs cells ∧ x = f.map byteC ∧ y = r.map byteC ∧ z = o.map byteC ∧ L = rs.map regC ∧ d = D ∧ a = A ∧ OpIn nx regs f r o rs imm D A ∧ ((op = 20 ∧ g = 185) ∨ (op = 21 ∧ g = 186) ∨ (op = 22 ∧ g = 187)) ∧ opPost K nx (execF op D A imm pc nx regs f r o rs)
  | _, _ => False
def cx_s_oJumps : Ctx := mkC [(166, callM [.rw] false hTarget), (185, callM [] false hJ20), (186, callM [] false hJ21), (187, callM [] false hJ22)]
theorem cx_s_oJumps_ok : CtxOk Tryz.prog cx_s_oJumps := mkC_ok (mem1 ⟨s_target, fnOk Tryz.func166 rfl rfl⟩ (mem1 ⟨s_j20, fnOk Tryz.func185 rfl rfl⟩ (mem1 ⟨s_j21, fnOk Tryz.func186 rfl rfl⟩ (mem1 ⟨s_j22, fnOk Tryz.func187 rfl rfl⟩ mem0))))
set_option maxRecDepth 100000 in
set_option pp.maxSteps 1500 in
set_option maxHeartbeats 16000000 in
theorem s_oJumps : HSound Tryz.prog 216 (callM [.rw, .ag [.rw, .ro], .ro, .ro] true hOpJ) := by
  refine callM_sound cx_s_oJumps_ok mixed Tryz.func216 rfl fun args hl K hp => ?_
  unfold hOpJ at hp
  split at hp
  · rename_i _ _ _ _ L op d a imm _ g cells x y z
    obtain ⟨pc, nx, regs, f, r, o, rs, D, A, hc, rfl, rfl, rfl, rfl, rfl, rfl, hin, hg, hp⟩ := hp
    obtain ⟨hD, hA, i0, i1, n0, n1, hw, bf, br_, m0, lrs⟩ := hin
    have hgD := core_get hc hD
    have hgA := core_get hc hA
    have wD := hw D hD
    have wA := hw A hA
    have hcc := hc
    have hwd := wide_bd i0 i1
    rcases hg with ⟨rfl, rfl⟩ | ⟨rfl, rfl⟩ | ⟨rfl, rfl⟩
    all_goals rw [execJump (by omega)] at hp
    all_goals generalize hRD : regs.getD D 0 = vD at *
    all_goals have hc0 := hc
    all_goals obtain ⟨r0, r1, r2, r3, r4, r5, r6, r7, rfl, rfl⟩ := hc
    all_goals refine Or.inl ?_
    all_goals refine And.intro (show wfB _ = true from by kernel_rfl) ?_
    all_goals repeat' (first
      | refine Exists.intro D (And.intro rfl (And.intro hD ?_))
      | refine And.intro (Exists.intro D (And.intro rfl (And.intro hD (And.intro rfl rfl)))) ?_
      | refine Exists.intro _ (And.intro hgD (And.intro rfl ?_))
      | refine And.intro (Exists.intro _ (And.intro hgD (And.intro rfl (And.intro rfl rfl)))) ?_
      | (refine And.intro wD.1 (And.intro wD.2 ?_); exact And.intro rfl rfl)
      | refine Exists.intro nx (Exists.intro _ (And.intro hc0 (And.intro i0 (And.intro i1 ?_))))
      | refine Exists.intro _ (And.intro List.take_length (And.intro rfl (And.intro (closed_bytes _) ?_)))
      | refine And.intro (show wfB _ = true from by kernel_rfl) ?_ | refine And.intro (And.intro rfl rfl) ?_ | exact And.intro rfl rfl | apply HeldC.intro | exact AV.top | (apply HeldF.intro; refine Exists.intro _ (And.intro (by assumption) ?_); refine And.intro (by decide) ?_; exact And.intro rfl rfl) | (refine And.intro (by (refine Exists.intro _ (And.intro (by assumption) ?_); refine And.intro (by decide) ?_; exact And.intro rfl rfl)) ?_) | refine Or.inl ?_
      | refine And.intro (fun h1 => ?_) (fun h1 => ?_)
      | fail)
    all_goals try (exfalso; revert h1; decide)
    all_goals first
      | exact hp _ (show CoreC (if (0 : Int) = 5 then nx else _) _ _ from by rw [if_neg (by decide), if_pos (by simp [jumpB] at *; first | done | omega)]; exact core_pc rfl)
      | exact hp _ (show CoreC (if (0 : Int) = 5 then nx else _) _ _ from by rw [if_neg (by decide), if_neg (by simp [jumpB] at *; first | done | omega)]; exact core_pc rfl)
      | fail
  · exact hp.elim
def hE1 : CH := fun args hl K => match args, hl with
  | [.ptr 0 0 0 _, .agg [.v _, .v _, .v _, .v _]], [.box cells] => ∃ (pc : Int) (regs : List Int), CoreC pc regs cells ∧ K (.v (.int .i64 0)) [.box cells]
  | _, _ => False
def cx_s_e1 : Ctx := mkC []
theorem cx_s_e1_ok : CtxOk Tryz.prog cx_s_e1 := cx0_ok
set_option maxRecDepth 100000 in
set_option pp.maxSteps 1500 in
theorem s_e1 : HSound Tryz.prog 164 (callM [.rw] false hE1) := by
  refine callM_sound cx_s_e1_ok mixed Tryz.func164 rfl fun args hl K hp => ?_
  unfold hE1 at hp
  split at hp
  · obtain ⟨pc, regs, ⟨r0, r1, r2, r3, r4, r5, r6, r7, rfl, rfl⟩, hp⟩ := hp
    exact hp
  · exact hp.elim
def hE2 : CH := fun args hl K => match args, hl with
  | [.ptr 0 0 0 _, .agg [.v _, .v _, .v _, .v (.int .i64 imm)]], [.box cells] => ∃ (pc : Int) (regs : List Int), CoreC pc regs cells ∧ K (.v (.int .i64 imm)) [.box cells]
  | _, _ => False
def cx_s_e2 : Ctx := mkC []
theorem cx_s_e2_ok : CtxOk Tryz.prog cx_s_e2 := cx0_ok
set_option maxRecDepth 100000 in
set_option pp.maxSteps 1500 in
theorem s_e2 : HSound Tryz.prog 167 (callM [.rw] false hE2) := by
  refine callM_sound cx_s_e2_ok mixed Tryz.func167 rfl fun args hl K hp => ?_
  unfold hE2 at hp
  split at hp
  · obtain ⟨pc, regs, ⟨r0, r1, r2, r3, r4, r5, r6, r7, rfl, rfl⟩, hp⟩ := hp
    exact hp
  · exact hp.elim
def hOpE : CH := fun args hl K => match args, hl with
  | [.ptr 0 0 0 _, .agg [.ptr 1 0 0 _, .imm _ _ 6 L], .agg [.v (.int .i64 op), .v (.int .i64 d), .v (.int .i64 a), .v (.int .i64 imm)], .iptr _ [.v (.int .i64 s)], .iptr _ [.fn g []]], [.box cells, .box [.sl 1 x, .sl 1 y, .sl 1 z]] => ∃ (pc nx : Int) (regs f r o : List Int) (rs : List Rg) (D A : Nat), CoreC nx regs cells ∧ x = f.map byteC ∧ y = r.map byteC ∧ z = o.map byteC ∧ L = rs.map regC ∧ d = D ∧ a = A ∧ OpIn nx regs f r o rs imm D A ∧ ((op = 1 ∧ s = 1 ∧ g = 164) ∨ (op = 25 ∧ s = 4 ∧ g = 164) ∨ (op = 23 ∧ s = 2 ∧ g = 166) ∨ (op = 24 ∧ s = 3 ∧ g = 167)) ∧ opPost K nx (execF op D A imm pc nx regs f r o rs)
  | _, _ => False
def cx_s_oEnds : Ctx := mkC [(164, callM [.rw] false hE1), (167, callM [.rw] false hE2), (166, callM [.rw] false hTarget)]
theorem cx_s_oEnds_ok : CtxOk Tryz.prog cx_s_oEnds := mkC_ok (mem1 ⟨s_e1, fnOk Tryz.func164 rfl rfl⟩ (mem1 ⟨s_e2, fnOk Tryz.func167 rfl rfl⟩ (mem1 ⟨s_target, fnOk Tryz.func166 rfl rfl⟩ mem0)))
set_option maxRecDepth 100000 in
set_option pp.maxSteps 1500 in
set_option maxHeartbeats 16000000 in
theorem s_oEnds : HSound Tryz.prog 209 (callM [.rw, .ag [.rw, .ro], .ro, .ro, .ro] true hOpE) := by
  refine callM_sound cx_s_oEnds_ok mixed Tryz.func209 rfl fun args hl K hp => ?_
  unfold hOpE at hp
  split at hp
  · rename_i _ _ _ _ L op d a imm _ s _ g cells x y z
    obtain ⟨pc, nx, regs, f, r, o, rs, D, A, hc, rfl, rfl, rfl, rfl, rfl, rfl, hin, hg, hp⟩ := hp
    obtain ⟨hD, hA, i0, i1, n0, n1, hw, bf, br_, m0, lrs⟩ := hin
    have hgD := core_get hc hD
    have hgA := core_get hc hA
    have wD := hw D hD
    have wA := hw A hA
    have hcc := hc
    rcases hg with ⟨rfl, rfl, rfl⟩ | ⟨rfl, rfl, rfl⟩ | ⟨rfl, rfl, rfl⟩ | ⟨rfl, rfl, rfl⟩
    all_goals rw [execEnd (by omega)] at hp
    all_goals have hc0 := hc
    all_goals obtain ⟨r0, r1, r2, r3, r4, r5, r6, r7, rfl, rfl⟩ := hc
    all_goals have hp := hp _ (show CoreC (if _ then nx else nx) _ _ from by rw [ite_self]; exact core_pc rfl)
    all_goals refine Or.inl ?_
    all_goals refine And.intro (show wfB _ = true from by kernel_rfl) ?_
    all_goals repeat' (first
      | (refine Exists.intro nx (Exists.intro _ (And.intro hc0 (And.intro i0 (And.intro i1 ?_)))); exact And.intro rfl rfl)
      | (refine Exists.intro nx (Exists.intro _ (And.intro hc0 ?_)); exact And.intro rfl rfl)
      | refine Exists.intro _ (And.intro List.take_length (And.intro rfl (And.intro (closed_bytes _) ?_)))
      | refine And.intro (show wfB _ = true from by kernel_rfl) ?_ | refine And.intro (And.intro rfl rfl) ?_ | exact And.intro rfl rfl | apply HeldC.intro | exact AV.top | (apply HeldF.intro; refine Exists.intro _ (And.intro (by assumption) ?_); refine And.intro (by decide) ?_; exact And.intro rfl rfl) | (refine And.intro (by (refine Exists.intro _ (And.intro (by assumption) ?_); refine And.intro (by decide) ?_; exact And.intro rfl rfl)) ?_) | refine Or.inl ?_
      | fail)
    all_goals first
      | exact hp
      | fail
  · exact hp.elim
end Go.Proofs.YtbfjkjdbdejnmaaGreat.Ab

/- Step of impl: its core's making and its face, fetch. No condition. -/
namespace Go.Proofs.YtbfjkjdbdejnmaaGreat.Ab
set_option linter.unusedVariables false
set_option linter.unusedSimpArgs false

def hCoreOf : CH := fun args hl K => match args, hl with
  | [.agg [.v (.int .i64 pc), .imm _ _ 1 R]], [] => ∃ rs : List Int, R = rs.map intC ∧ rs.length ≤ 1048576 ∧
      (coreOk pc rs = false → K (.tup [.agg [.v (.int .i64 0), .v (.int .i64 0), .v (.int .i64 0), .v (.int .i64 0), .v (.int .i64 0), .v (.int .i64 0), .v (.int .i64 0), .v (.int .i64 0), .v (.int .i64 0)], .v (.bool false)]) []) ∧
      (coreOk pc rs = true → ∀ a b c d e f g h : Int, rs = [a, b, c, d, e, f, g, h] → K (.tup [.agg [.v (.int .i64 pc), .v (.int .i64 a), .v (.int .i64 b), .v (.int .i64 c), .v (.int .i64 d), .v (.int .i64 e), .v (.int .i64 f), .v (.int .i64 g), .v (.int .i64 h)], .v (.bool true)]) [])
  | _, _ => False
theorem eight {rs : List Int} (h : rs.length = 8) : ∃ a b c d e f g k : Int, rs = [a, b, c, d, e, f, g, k] := by
  match rs, h with
  | [a, b, c, d, e, f, g, k], _ => exact ⟨a, b, c, d, e, f, g, k, rfl⟩
def cx_s_coreOf : Ctx := mkC [(162, callM [] false hWord)]
theorem cx_s_coreOf_ok : CtxOk Tryz.prog cx_s_coreOf := mkC_ok (mem1 ⟨s_isWord, fnOk Tryz.func162 rfl rfl⟩ mem0)
set_option maxRecDepth 100000 in
set_option pp.maxSteps 1500 in
set_option maxHeartbeats 4000000 in
theorem s_coreOf : HSound Tryz.prog 128 (callM [] true hCoreOf) := by
  refine callM_sound cx_s_coreOf_ok mixed Tryz.func128 rfl fun args hl K hp => ?_
  unfold hCoreOf at hp
  split at hp
  · rename_i pc t z R
    obtain ⟨rs, rfl, hl, hp, hp2⟩ := hp
    repeat' ((first
      | refine And.intro (fun h1 => ?_) (fun h1 => ?_)
      | fail) <;> try cases h1)
    · have h1 : coreOk pc rs = false := by
        have : ¬ (0 ≤ pc ∧ pc ≤ 4294967295) := by simp at h1; omega
        simp only [coreOk, wordB, decide_eq_false this, Bool.false_and]
      exact hp h1
    · have h1 : coreOk pc rs = false := by
        have : ¬ rs.length = 8 := by simp at h1; omega
        simp only [coreOk, decide_eq_false this, Bool.false_and, Bool.and_false]
      exact hp h1
    · rename_i q1
      have q1 : 0 ≤ pc ∧ pc ≤ 4294967295 := by simpa using q1
      have h8 : rs.length = 8 := by simp at h1; omega
      have e : coreOk pc rs = rs.all wordB := by simp only [coreOk, wordB, decide_eq_true q1, decide_eq_true h8, Bool.true_and]
      rw [e] at hp hp2
      refine Exists.intro false (Exists.intro [1, 2, 18, 19, 20] (Exists.intro (fun n vs h => ∃ i : Nat, i ≤ 8 ∧ n = 8 - i ∧ (rs.take i).all wordB = true ∧ vs = [.ptr 0 0 0 2, .ptr 1 0 0 9, .imm t z 1 (rs.map intC), .v (.int .i64 8), .v (.int .i64 i)] ∧
        h = [.box [.v (.int .i64 pc), .imm t z 1 (rs.map intC)], .box [.v (.int .i64 0), .v (.int .i64 0), .v (.int .i64 0), .v (.int .i64 0), .v (.int .i64 0), .v (.int .i64 0), .v (.int .i64 0), .v (.int .i64 0), .v (.int .i64 0)]]) (And.intro ?_ ?_)))
      · refine Exists.intro 8 ?_
        exact ⟨0, by omega, rfl, rfl, by simp [h8], rfl⟩
      · intro n vs h hI
        obtain ⟨i, hi, rfl, hall, rfl, rfl⟩ := hI
        refine And.intro (fun h2 => ?_) (fun h2 => ?_)
        · have h2 := of_decide_eq_true h2
          have hlt : i < rs.length := by omega
          obtain ⟨b, hbi⟩ : ∃ b, rs[i]? = some b := ⟨_, List.getElem?_eq_getElem hlt⟩
          refine Exists.intro i (And.intro rfl (Exists.intro (intC b) (And.intro (get_map hbi) ?_)))
          refine And.intro (fun h3 => ?_) (fun h3 => ?_)
          · exact hp (allF hbi (by simp at h3; simp [wordB]; omega))
          · refine Exists.intro (8 - (i + 1)) (And.intro (by omega) ⟨i + 1, by omega, rfl, allT hbi hall (by simp at h3; simp [wordB]; omega), ?_, rfl⟩)
            rw [wrap_succ (n := 8) (by omega) (by omega)]
        · have h2 := of_decide_eq_false h2
          rw [List.take_of_length_le (by omega)] at hall
          obtain ⟨a, b, c, d, e', f, g, k, rfl⟩ := eight h8
          have hp2 := hp2 hall a b c d e' f g k rfl
          refine Or.inl ?_
          refine And.intro (show wfB _ = true from by kernel_rfl) ?_
          repeat' (first
            | (refine Exists.intro [.v (.int .i64 a), .v (.int .i64 b), .v (.int .i64 c), .v (.int .i64 d), .v (.int .i64 e'), .v (.int .i64 f), .v (.int .i64 g), .v (.int .i64 k)] (And.intro rfl (And.intro rfl (And.intro (by simp) (And.intro (by decide) ?_)))); exact And.intro rfl rfl)
            | refine And.intro (show wfB _ = true from by kernel_rfl) ?_ | refine And.intro (And.intro rfl rfl) ?_ | exact And.intro rfl rfl | apply HeldC.intro | exact AV.top | (apply HeldF.intro; refine Exists.intro _ (And.intro (by assumption) ?_); refine And.intro (by decide) ?_; exact And.intro rfl rfl) | (refine And.intro (by (refine Exists.intro _ (And.intro (by assumption) ?_); refine And.intro (by decide) ?_; exact And.intro rfl rfl)) ?_) | refine Or.inl ?_
            | fail)
          exact hp2
  · exact hp.elim
end Go.Proofs.YtbfjkjdbdejnmaaGreat.Ab

/- Step of impl: one operation. No condition. -/
namespace Go.Proofs.YtbfjkjdbdejnmaaGreat.Ab
set_option linter.unusedVariables false
set_option linter.unusedSimpArgs false

def cEnd (s : Int) (g : FuncId) : AV := .fn 209 [.iptr true [.v (.int .i64 s)], .iptr true [.fn g []]]
def cFn (f : FuncId) (g : FuncId) : AV := .fn f [.iptr true [.fn g []]]
def cSz (f : FuncId) (s : Int) : AV := .fn f [.iptr true [.v (.int .i64 s)]]
/-- The table of the operations. -/
def opsT : List AV := [.v Value.nilFunc, cEnd 1 164, .fn 168 [], .fn 169 [], cFn 211 173, cFn 211 174, .fn 170 [],
  cFn 211 175, cFn 211 176, cFn 211 177, cFn 211 178, cFn 211 179, cFn 211 180, cFn 211 181,
  cSz 212 1, cSz 212 2, cSz 212 4, cSz 214 1, cSz 214 2, cSz 214 4, cFn 216 185, cFn 216 186, cFn 216 187,
  cEnd 2 166, cEnd 3 167, cEnd 4 164]
end Go.Proofs.YtbfjkjdbdejnmaaGreat.Ab

/- Step of impl, whole. No condition. -/
namespace Go.Proofs.YtbfjkjdbdejnmaaGreat.Ab
set_option linter.unusedVariables false
set_option linter.unusedSimpArgs false

def cx_iPair : Ctx := mkC [(211, callM [.rw, .ag [.rw, .ro], .ro, .ro] true hOpP)]
theorem cx_iPair_ok : CtxOk Tryz.prog cx_iPair := mkC_ok (mem1 ⟨s_oPair, fnOk Tryz.func211 rfl rfl⟩ mem0)
def iPair : Handler := inlH cx_iPair Tryz.f172.ntmps Tryz.f172.results.toList (Tryz.f172.body.getD .skip)
theorem s_iPair : HSound Tryz.prog 172 iPair := inlF cx_iPair_ok mixed Tryz.func172 rfl
def cx_iLoads : Ctx := mkC [(212, callM [.rw, .ag [.rw, .ro], .ro, .ro] true hOpL)]
theorem cx_iLoads_ok : CtxOk Tryz.prog cx_iLoads := mkC_ok (mem1 ⟨s_oLoads, fnOk Tryz.func212 rfl rfl⟩ mem0)
def iLoads : Handler := inlH cx_iLoads Tryz.f182.ntmps Tryz.f182.results.toList (Tryz.f182.body.getD .skip)
theorem s_iLoads : HSound Tryz.prog 182 iLoads := inlF cx_iLoads_ok mixed Tryz.func182 rfl
def cx_iStores : Ctx := mkC [(214, callM [.rw, .ag [.rw, .ro], .ro, .ro] true hOpS)]
theorem cx_iStores_ok : CtxOk Tryz.prog cx_iStores := mkC_ok (mem1 ⟨s_oStores, fnOk Tryz.func214 rfl rfl⟩ mem0)
def iStores : Handler := inlH cx_iStores Tryz.f183.ntmps Tryz.f183.results.toList (Tryz.f183.body.getD .skip)
theorem s_iStores : HSound Tryz.prog 183 iStores := inlF cx_iStores_ok mixed Tryz.func183 rfl
def cx_iJumps : Ctx := mkC [(216, callM [.rw, .ag [.rw, .ro], .ro, .ro] true hOpJ)]
theorem cx_iJumps_ok : CtxOk Tryz.prog cx_iJumps := mkC_ok (mem1 ⟨s_oJumps, fnOk Tryz.func216 rfl rfl⟩ mem0)
def iJumps : Handler := inlH cx_iJumps Tryz.f184.ntmps Tryz.f184.results.toList (Tryz.f184.body.getD .skip)
theorem s_iJumps : HSound Tryz.prog 184 iJumps := inlF cx_iJumps_ok mixed Tryz.func184 rfl
def cx_iEnds : Ctx := mkC [(209, callM [.rw, .ag [.rw, .ro], .ro, .ro, .ro] true hOpE)]
theorem cx_iEnds_ok : CtxOk Tryz.prog cx_iEnds := mkC_ok (mem1 ⟨s_oEnds, fnOk Tryz.func209 rfl rfl⟩ mem0)
def iEnds : Handler := inlH cx_iEnds Tryz.f165.ntmps Tryz.f165.results.toList (Tryz.f165.body.getD .skip)
theorem s_iEnds : HSound Tryz.prog 165 iEnds := inlF cx_iEnds_ok mixed Tryz.func165 rfl
def cx_iOperations : Ctx := mkC [(165, iEnds), (172, iPair), (182, iLoads), (183, iStores), (184, iJumps), (164, callM [.rw] false hE1), (166, callM [.rw] false hTarget), (167, callM [.rw] false hE2), (173, callM [] false hG4), (174, callM [] false hG5), (175, callM [] false hG7), (176, callM [] false hG8), (177, callM [] false hG9), (178, callM [] false hG10), (179, callM [] false hG11), (180, callM [] false hG12), (181, callM [] false hG13), (185, callM [] false hJ20), (186, callM [] false hJ21), (187, callM [] false hJ22), (168, callM [.rw, .ag [.rw, .ro], .ro] true hOp2), (169, callM [.rw, .ag [.rw, .ro], .ro] true hOp3), (170, callM [.rw, .ag [.rw, .ro], .ro] true hOp6)]
theorem cx_iOperations_ok : CtxOk Tryz.prog cx_iOperations := mkC_ok (mem1 ⟨s_iEnds, fnOk Tryz.func165 rfl rfl⟩ (mem1 ⟨s_iPair, fnOk Tryz.func172 rfl rfl⟩ (mem1 ⟨s_iLoads, fnOk Tryz.func182 rfl rfl⟩ (mem1 ⟨s_iStores, fnOk Tryz.func183 rfl rfl⟩ (mem1 ⟨s_iJumps, fnOk Tryz.func184 rfl rfl⟩ (mem1 ⟨s_e1, fnOk Tryz.func164 rfl rfl⟩ (mem1 ⟨s_target, fnOk Tryz.func166 rfl rfl⟩ (mem1 ⟨s_e2, fnOk Tryz.func167 rfl rfl⟩ (mem1 ⟨s_op4, fnOk Tryz.func173 rfl rfl⟩ (mem1 ⟨s_op5, fnOk Tryz.func174 rfl rfl⟩ (mem1 ⟨s_op7, fnOk Tryz.func175 rfl rfl⟩ (mem1 ⟨s_op8, fnOk Tryz.func176 rfl rfl⟩ (mem1 ⟨s_op9, fnOk Tryz.func177 rfl rfl⟩ (mem1 ⟨s_op10, fnOk Tryz.func178 rfl rfl⟩ (mem1 ⟨s_op11, fnOk Tryz.func179 rfl rfl⟩ (mem1 ⟨s_op12, fnOk Tryz.func180 rfl rfl⟩ (mem1 ⟨s_op13, fnOk Tryz.func181 rfl rfl⟩ (mem1 ⟨s_j20, fnOk Tryz.func185 rfl rfl⟩ (mem1 ⟨s_j21, fnOk Tryz.func186 rfl rfl⟩ (mem1 ⟨s_j22, fnOk Tryz.func187 rfl rfl⟩ (mem1 ⟨s_oSet, fnOk Tryz.func168 rfl rfl⟩ (mem1 ⟨s_oHigh, fnOk Tryz.func169 rfl rfl⟩ (mem1 ⟨s_oNear, fnOk Tryz.func170 rfl rfl⟩ mem0)))))))))))))))))))))))
def iOperations : Handler := inlH cx_iOperations Tryz.f132.ntmps Tryz.f132.results.toList (Tryz.f132.body.getD .skip)
theorem s_iOperations : HSound Tryz.prog 132 iOperations := inlF cx_iOperations_ok mixed Tryz.func132 rfl
end Go.Proofs.YtbfjkjdbdejnmaaGreat.Ab

/- Managers of impl: what is read of one. No condition. -/
namespace Go.Proofs.YtbfjkjdbdejnmaaGreat.Ab
set_option linter.unusedVariables false
set_option linter.unusedSimpArgs false
set_option maxRecDepth 100000

/-- A manager's cells; its registers one by one. -/
def mgC (m : Mc) (l : La) (b z : Bool) (r0 r1 r2 r3 r4 r5 r6 r7 : Int) : List AV :=
  .imm b z 8 (m.mods.map moC) :: .v (.int .i64 m.cfg.slots) :: .v (.int .i64 m.cfg.words) :: .v (.int .i64 m.cfg.stack) :: .v (.int .i64 m.cfg.depth) ::
  .sl 4 (l.pls.map plC) :: .v (.int .i64 l.stack) :: .sl 1 (l.slots.map intC) :: .v (.int .i64 l.flash) :: .v (.int .i64 l.ram) :: .sl 1 (l.tgts.map tgsC) ::
  .v (.int .i64 m.pc) :: .v (.int .i64 r0) :: .v (.int .i64 r1) :: .v (.int .i64 r2) :: .v (.int .i64 r3) :: .v (.int .i64 r4) :: .v (.int .i64 r5) :: .v (.int .i64 r6) :: .v (.int .i64 r7) ::
  .sl 1 (m.f.map byteC) :: .sl 1 (m.r.map byteC) :: .sl 1 (m.o.map byteC) :: .v (.int .i64 m.mod) :: .v (.int .i64 m.bank) :: .sl 4 (m.slots.map slC) :: .sl 4 (m.shadow.map frC) :: .v (.int .i64 m.cfg.depth) ::
  .v (.int .i64 m.turn) :: .v (.bool false) :: opsT
def MgV (G : List AV) (m : Mc) (l : La) : Prop := ∃ b z r0 r1 r2 r3 r4 r5 r6 r7, G = mgC m l b z r0 r1 r2 r3 r4 r5 r6 r7
def hGHas : CH := fun args hl K => match args, hl with
  | [.iptr _ G, .v (.int .i64 i), .v (.int .i64 b)], [] => ∃ (m : Mc) (l : La), MgV G m l ∧ smMc m ∧ K (.v (.bool (thereB m.mods i b))) []
  | _, _ => False
def cx_s_gHas : Ctx := mkC [(114, callM [] true hHasR)]
theorem cx_s_gHas_ok : CtxOk Tryz.prog cx_s_gHas := mkC_ok (mem1 ⟨s_hasPieceR, fnOk Tryz.func114 rfl rfl⟩ mem0)
set_option maxRecDepth 100000 in
set_option pp.maxSteps 1500 in
set_option maxHeartbeats 4000000 in
theorem s_gHas : HSound Tryz.prog 189 (callM [] true hGHas) := by
  refine callM_sound cx_s_gHas_ok mixed Tryz.func189 rfl fun args hl K hp => ?_
  unfold hGHas at hp
  split at hp
  · rename_i t G i b
    obtain ⟨m, l, ⟨b1, z1, r0, r1, r2, r3, r4, r5, r6, r7, rfl⟩, hsm, hp⟩ := hp
    have e0 : (m.mods.map moC).length = m.mods.length := List.length_map _
    by_cases hi : 0 ≤ i ∧ i < m.mods.length
    rotate_left
    · rw [there_out hi] at hp
      repeat' ((first
        | refine And.intro (fun h1 => ?_) (fun h1 => ?_)
        | fail) <;> try first | (cases h1; done))
      all_goals first
        | exact hp
        | (exfalso; simp only [e0, decide_eq_false_iff_not, decide_eq_true_eq, ge_iff_le] at *; omega)
    obtain ⟨I, rfl⟩ := Int.eq_ofNat_of_zero_le hi.1
    obtain ⟨x, hx⟩ : ∃ x, m.mods[I]? = some x := ⟨_, List.getElem?_eq_getElem (by omega)⟩
    rw [there_at hx] at hp
    have hI0 : decide ((I : Int) ≥ 0) = true := decide_eq_true (by omega)
    have hIL : decide ((I : Int) < ((m.mods.map moC).length : Int)) = true := decide_eq_true (by rw [e0]; omega)
    refine And.intro (fun h1 => ?_) (fun h1 => by rw [hI0] at h1; cases h1)
    refine And.intro (fun h2 => ?_) (fun h2 => by cases h2)
    refine And.intro (fun h3 => ?_) (fun h3 => by rw [hIL] at h3; cases h3)
    refine Exists.intro I (And.intro rfl (Exists.intro (moC x) (And.intro (get_map hx) ?_)))
    refine Exists.intro x (And.intro rfl (And.intro (hsm.mo x (List.mem_of_getElem? hx)) ?_))
    first
      | exact hp
      | (refine And.intro (fun h5 => ?_) (fun h5 => ?_) <;> first | exact hp | cases h5)
  · exact hp.elim
def hFind1 : CH := fun args hl K => match args, hl with
  | [.agg [.v (.bool u), .v (.int .i64 a), .v (.int .i64 b), .v (.int .i64 c)], .iptr _ [.v (.int .i64 m)], .iptr _ [.v (.int .i64 k)]], [] => K (.v (.bool (holdP m k ⟨u, a, b, c⟩))) []
  | _, _ => False
def cx_s_find1 : Ctx := mkC []
theorem cx_s_find1_ok : CtxOk Tryz.prog cx_s_find1 := cx0_ok
set_option maxRecDepth 100000 in
set_option pp.maxSteps 1500 in
set_option maxHeartbeats 4000000 in
theorem s_find1 : HSound Tryz.prog 220 (callM [] true hFind1) := by
  refine callM_sound cx_s_find1_ok mixed Tryz.func220 rfl fun args hl K hp => ?_
  unfold hFind1 at hp
  split at hp
  · rename_i u a b c q m q2 k
    repeat' ((first
      | refine And.intro (fun h1 => ?_) (fun h1 => ?_)
      | fail) <;> try first | (cases h1; done))
    all_goals refine fin_b hp ?_
    all_goals clear hp
    all_goals simp only [holdP]
    all_goals simp_all
    all_goals (rw [Bool.eq_iff_iff]; simp)
  · exact hp.elim
def hGPiece : CH := fun args hl K => match args, hl with
  | [.iptr _ G, .v (.int .i64 i), .v (.int .i64 b)], [] => ∃ (m : Mc) (l : La) (I : Nat) (x : Mo) (ws : List Int), MgV G m l ∧ smMc m ∧ i = I ∧ m.mods[I]? = some x ∧ pieceOf x b = some ws ∧ ∀ t' z', K (.imm t' z' 1 (ws.map intC)) []
  | _, _ => False
def cx_s_gPiece : Ctx := mkC [(117, callM [] false hPieceR)]
theorem cx_s_gPiece_ok : CtxOk Tryz.prog cx_s_gPiece := mkC_ok (mem1 ⟨s_pieceR, fnOk Tryz.func117 rfl rfl⟩ mem0)
set_option maxRecDepth 100000 in
set_option pp.maxSteps 1500 in
set_option maxHeartbeats 4000000 in
theorem s_gPiece : HSound Tryz.prog 192 (callM [] false hGPiece) := by
  refine callM_sound cx_s_gPiece_ok mixed Tryz.func192 rfl fun args hl K hp => ?_
  unfold hGPiece at hp
  split at hp
  · rename_i t G i b
    obtain ⟨m, l, I, x, ws, ⟨b1, z1, r0, r1, r2, r3, r4, r5, r6, r7, rfl⟩, hsm, rfl, hx, hw, hp⟩ := hp
    refine Or.inl ?_
    refine Exists.intro I (And.intro rfl (Exists.intro (moC x) (And.intro (get_map hx) ?_)))
    refine Exists.intro x ?_
    refine Exists.intro ws (And.intro rfl (And.intro (hsm.mo x (List.mem_of_getElem? hx)) (And.intro hw ?_)))
    intro t' z'
    exact hp t' z'
  · exact hp.elim
def hSlotRam : CH := fun args hl K => match args, hl with
  | [.iptr _ G, .v (.int .i64 i)], [] => ∃ (m : Mc) (l : La) (I : Nat) (a : Int), MgV G m l ∧ LkM m l ∧ (m.r.length : Int) = l.ram ∧ i = I ∧ l.slots[I]? = some a ∧ ∀ t' z', K (.imm t' z' 1 ((ramAt m.r a (rup (4 * m.cfg.words.toNat))).map byteC)) []
  | _, _ => False
def cx_s_slotRam : Ctx := mkC [(116, callM [] false hRup)]
theorem cx_s_slotRam_ok : CtxOk Tryz.prog cx_s_slotRam := mkC_ok (mem1 ⟨s_roundUp, fnOk Tryz.func116 rfl rfl⟩ mem0)
set_option maxRecDepth 100000 in
set_option pp.maxSteps 1500 in
set_option maxHeartbeats 4000000 in
theorem s_slotRam : HSound Tryz.prog 217 (callM [] false hSlotRam) := by
  refine callM_sound cx_s_slotRam_ok mixed Tryz.func217 rfl fun args hl K hp => ?_
  unfold hSlotRam at hp
  split at hp
  · rename_i t G i
    obtain ⟨m, l, I, a, ⟨b1, z1, r0, r1, r2, r3, r4, r5, r6, r7, rfl⟩, ⟨kg, kn, ⟨kw0, kw1⟩, ka, kl, ⟨kr0, kr1⟩, knl⟩, hre, rfl, ha, hp⟩ := hp
    obtain ⟨ka1, ka2⟩ := ka I a ha
    obtain ⟨W, hW⟩ := Int.eq_ofNat_of_zero_le kw0
    refine Or.inl ?_
    refine Exists.intro I (And.intro rfl (Exists.intro (intC a) (And.intro (get_map ha) ?_)))
    refine Or.inl ?_
    refine And.intro (show wfB _ = true from by kernel_rfl) ?_
    apply HeldC.intro
    · refine Exists.intro (4 * W) (And.intro (by rw [hW, wrap64 (by omega)]; omega) (And.intro (by omega) ?_))
      exact And.intro rfl rfl
    have hrl := rup_le (4 * W)
    have hwa : IntKind.i64.wrap (a - 65536) = (((a - 65536).toNat : Nat) : Int) := by rw [wrap64 (by omega)]; omega
    rw [hW, Int.toNat_natCast] at hp ka2
    have hwa2 : IntKind.i64.wrap (IntKind.i64.wrap (a - 65536) + ((rup (4 * W) : Nat) : Int)) = (((a - 65536).toNat + rup (4 * W) : Nat) : Int) := by rw [hwa, wrap64 (by omega)]; omega
    have hsl : List.take ((a - 65536).toNat + rup (4 * W) - (a - 65536).toNat) (List.drop (a - 65536).toNat (List.map byteC m.r)) = (ramAt m.r a (rup (4 * W))).map byteC := by rw [Nat.add_sub_cancel_left, ramAt, List.map_take, List.map_drop]
    repeat' (refine And.intro (And.intro rfl rfl) ?_)
    apply HeldF.intro
    · refine Exists.intro (a - 65536).toNat (And.intro hwa (Exists.intro ((a - 65536).toNat + rup (4 * W)) (And.intro hwa2 (And.intro (by omega) (And.intro (by rw [List.length_map]; omega) ?_)))))
      rw [hsl]
      exact And.intro rfl rfl
    exact hp _ _
  · exact hp.elim
def cx_iIndexFunc : Ctx := mkC [(220, callM [] true hFind1)]
theorem cx_iIndexFunc_ok : CtxOk Tryz.prog cx_iIndexFunc := mkC_ok (mem1 ⟨s_find1, fnOk Tryz.func220 rfl rfl⟩ mem0)
def iIndexFunc : Handler := inlH cx_iIndexFunc Tryz.f219.ntmps Tryz.f219.results.toList (Tryz.f219.body.getD .skip)
theorem s_iIndexFunc : HSound Tryz.prog 219 iIndexFunc := inlF cx_iIndexFunc_ok mixed Tryz.func219 rfl
def hFind : CH := fun args hl K => match args, hl with
  | [.iptr _ G, .v (.int .i64 i), .v (.int .i64 b)], [] => ∃ (m : Mc) (l : La), MgV G m l ∧ smMc m ∧ K (.v (.int .i64 (holdsF m.slots i b))) []
  | _, _ => False
def cx_s_find : Ctx := mkC [(219, iIndexFunc), (220, callM [] true hFind1)]
theorem cx_s_find_ok : CtxOk Tryz.prog cx_s_find := mkC_ok (mem1 ⟨s_iIndexFunc, fnOk Tryz.func219 rfl rfl⟩ (mem1 ⟨s_find1, fnOk Tryz.func220 rfl rfl⟩ mem0))
set_option maxRecDepth 100000 in
set_option pp.maxSteps 1500 in
set_option maxHeartbeats 8000000 in
theorem s_find : HSound Tryz.prog 191 (callM [] true hFind) := by
  refine callM_sound cx_s_find_ok mixed Tryz.func191 rfl fun args hl K hp => ?_
  unfold hFind at hp
  split at hp
  · rename_i t G i b
    obtain ⟨m, l, ⟨b1, z1, r0, r1, r2, r3, r4, r5, r6, r7, rfl⟩, hsm, hp⟩ := hp
    have hln := hsm.slots
    refine Exists.intro false (Exists.intro [0, 1, 7, 8] (Exists.intro (fun n vs h => ∃ k : Nat, k ≤ m.slots.length ∧ n = m.slots.length - k ∧ (∀ j s, j < k → m.slots[j]? = some s → holdP i b s = false) ∧ vs = [.imm t false 4 (m.slots.map slC), .fn 220 [.ptr 0 0 0 1, .ptr 1 0 0 1], .v (.int .i64 m.slots.length), .v (.int .i64 k)] ∧ h = [.box [.v (.int .i64 i)], .box [.v (.int .i64 b)]]) (And.intro ?_ ?_)))
    · refine Exists.intro m.slots.length ⟨0, by omega, rfl, fun j s h => absurd h (Nat.not_lt_zero _), ?_, rfl⟩
      rw [List.length_map]
      rfl
    intro n vs h hI
    obtain ⟨k, hk, rfl, hno, rfl, rfl⟩ := hI
    refine And.intro (fun h1 => ?_) (fun h1 => ?_)
    · have h1 := of_decide_eq_true h1
      have hlt : k < m.slots.length := by omega
      obtain ⟨s, hs⟩ : ∃ s, m.slots[k]? = some s := ⟨_, List.getElem?_eq_getElem hlt⟩
      have hyes : holdP i b s = true → holdsF m.slots i b = k := fun h => holds_at hs h hno
      have hnext : holdP i b s = false → ∀ j s', j < k + 1 → m.slots[j]? = some s' → holdP i b s' = false := fun h j s' hj hs' => by
        rcases Nat.lt_or_ge j k with r | r
        · exact hno j s' r hs'
        · have : j = k := by omega
          subst this
          rw [hs] at hs'
          cases hs'
          exact h
      refine Exists.intro k (And.intro rfl (Exists.intro (slC s) (And.intro (get_map hs) ?_)))
      refine And.intro (fun h5 => ?_) (fun h5 => ?_)
      · rw [hyes h5] at hp
        exact hp
      · refine Exists.intro (m.slots.length - (k + 1)) (And.intro (by omega) ⟨k + 1, by omega, rfl, hnext h5, ?_, rfl⟩)
        rw [wrap_succ hlt (by omega)]
    · have h1 := of_decide_eq_false h1
      have hke : k = m.slots.length := by omega
      subst hke
      rw [holds_none hno] at hp
      exact hp
  · exact hp.elim
end Go.Proofs.YtbfjkjdbdejnmaaGreat.Ab
