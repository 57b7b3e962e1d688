/- Functions walked, part 17. No condition. -/
import Derived.Test.YtbfjkjdbdejnmaaGreatWalk16
set_option linter.unusedVariables false
set_option linter.unusedSimpArgs false
/- Step of impl: the core behind its pointer, the bus. No condition. -/
namespace Go.Proofs.YtbfjkjdbdejnmaaGreat.Ab
set_option linter.unusedVariables false
set_option linter.unusedSimpArgs false

/-- A core in its box. -/
def CoreC (pc : Int) (regs : List Int) (cells : List AV) : Prop := ∃ a b c d e f g h : Int, regs = [a, b, c, d, e, f, g, h] ∧ cells = [.v (.int .i64 pc), .v (.int .i64 a), .v (.int .i64 b), .v (.int .i64 c), .v (.int .i64 d), .v (.int .i64 e), .v (.int .i64 f), .v (.int .i64 g), .v (.int .i64 h)]
theorem core_get {pc : Int} {regs : List Int} {cells : List AV} (h : CoreC pc regs cells) {j : Nat} (hj : j < 8) : cells[j + (0 + 1)]? = some (.v (.int .i64 (regs.getD j 0))) := by
  obtain ⟨a, b, c, d, e, f, g, k, rfl, rfl⟩ := h
  have : j = 0 ∨ j = 1 ∨ j = 2 ∨ j = 3 ∨ j = 4 ∨ j = 5 ∨ j = 6 ∨ j = 7 := by omega
  rcases this with rfl | rfl | rfl | rfl | rfl | rfl | rfl | rfl <;> rfl
theorem core_set {pc : Int} {regs : List Int} {cells : List AV} (h : CoreC pc regs cells) {j : Nat} (hj : j < 8) (v : Int) : CoreC pc (regs.set j v) (cells.set (j + (0 + 1)) (.v (.int .i64 v))) := by
  obtain ⟨a, b, c, d, e, f, g, k, rfl, rfl⟩ := h
  have : j = 0 ∨ j = 1 ∨ j = 2 ∨ j = 3 ∨ j = 4 ∨ j = 5 ∨ j = 6 ∨ j = 7 := by omega
  rcases this with rfl | rfl | rfl | rfl | rfl | rfl | rfl | rfl <;> exact ⟨_, _, _, _, _, _, _, _, rfl, rfl⟩
theorem core_len {pc : Int} {regs : List Int} {cells : List AV} (h : CoreC pc regs cells) : cells.length = 9 ∧ regs.length = 8 := by
  obtain ⟨a, b, c, d, e, f, g, k, rfl, rfl⟩ := h
  exact ⟨rfl, rfl⟩

def busL (f r o : List Int) (rs : List Rg) (a s : Int) : Int × Int := if allowB rs a s 1 = false then (0, 5) else readR f r o a s
def hBLd : CH := fun args hl K => match args, hl with
  | [.agg [.ptr 0 0 0 _, .imm _ _ 6 L], .v (.int .i64 a), .v (.int .i64 s)], [.box [.sl 1 x, .sl 1 y, .sl 1 z]] => ∃ (f r o : List Int) (rs : List Rg), x = f.map byteC ∧ y = r.map byteC ∧ z = o.map byteC ∧ L = rs.map regC ∧ BytesOk f ∧ BytesOk r ∧ memOk f.length r.length o.length = true ∧ widthB s = true ∧ I64 a ∧ rs.length ≤ 1048576 ∧
      K (.tup [.v (.int .i64 (busL f r o rs a s).1), .v (.int .i64 (busL f r o rs a s).2)]) [.box [.sl 1 (f.map byteC), .sl 1 (r.map byteC), .sl 1 (o.map byteC)]]
  | _, _ => False
def cx_s_busLoad : Ctx := mkC [(232, callM [] true hAllow), (233, callM [.rw] true hMRd)]
theorem cx_s_busLoad_ok : CtxOk Tryz.prog cx_s_busLoad := mkC_ok (mem1 ⟨s_impl_Allowed, fnOk Tryz.func232 rfl rfl⟩ (mem1 ⟨s_mRead, fnOk Tryz.func233 rfl rfl⟩ mem0))
set_option maxRecDepth 100000 in
set_option pp.maxSteps 1500 in
set_option maxHeartbeats 4000000 in
theorem s_busLoad : HSound Tryz.prog 213 (callM [.ag [.rw, .ro]] true hBLd) := by
  refine callM_sound cx_s_busLoad_ok mixed Tryz.func213 rfl fun args hl K hp => ?_
  unfold hBLd at hp
  split at hp
  · rename_i _ _ _ L a s x y z
    obtain ⟨f, r, o, rs, rfl, rfl, rfl, rfl, bf, br_, m0, m1, ia, lrs, hp⟩ := hp
    refine Exists.intro rs (And.intro rfl (And.intro ia (And.intro lrs ?_)))
    refine And.intro (fun h1 => ?_) (fun h1 => ?_)
    · have h1 : allowB rs a s 1 = false := by simpa using h1
      rw [show busL f r o rs a s = (0, 5) from if_pos h1] at hp
      exact hp
    · have h1 : ¬ allowB rs a s 1 = false := by simpa using h1
      rw [show busL f r o rs a s = readR f r o a s from if_neg h1] at hp
      refine Exists.intro f (Exists.intro r (Exists.intro o (And.intro rfl (And.intro rfl (And.intro rfl (And.intro bf (And.intro br_ (And.intro m0 (And.intro m1 (And.intro ia ?_))))))))))
      exact hp
  · exact hp.elim
def busS (f r o : List Int) (rs : List Rg) (a s v : Int) : List Int × List Int × Int := if allowB rs a s 2 = false then (r, o, 5) else writeF f r o a s v
def hBSt : CH := fun args hl K => match args, hl with
  | [.agg [.ptr 0 0 0 _, .imm _ _ 6 L], .v (.int .i64 a), .v (.int .i64 s), .v (.int .i64 v)], [.box [.sl 1 x, .sl 1 y, .sl 1 z]] => ∃ (f r o : List Int) (rs : List Rg), x = f.map byteC ∧ y = r.map byteC ∧ z = o.map byteC ∧ L = rs.map regC ∧ memOk f.length r.length o.length = true ∧ widthB s = true ∧ I64 a ∧ I64 v ∧ rs.length ≤ 1048576 ∧
      K (.v (.int .i64 (busS f r o rs a s v).2.2)) [.box [.sl 1 (f.map byteC), .sl 1 ((busS f r o rs a s v).1.map byteC), .sl 1 ((busS f r o rs a s v).2.1.map byteC)]]
  | _, _ => False
def cx_s_busStore : Ctx := mkC [(232, callM [] true hAllow), (234, callM [.rw] true hMWr)]
theorem cx_s_busStore_ok : CtxOk Tryz.prog cx_s_busStore := mkC_ok (mem1 ⟨s_impl_Allowed, fnOk Tryz.func232 rfl rfl⟩ (mem1 ⟨s_mWrite, fnOk Tryz.func234 rfl rfl⟩ mem0))
set_option maxRecDepth 100000 in
set_option pp.maxSteps 1500 in
set_option maxHeartbeats 4000000 in
theorem s_busStore : HSound Tryz.prog 215 (callM [.ag [.rw, .ro]] true hBSt) := by
  refine callM_sound cx_s_busStore_ok mixed Tryz.func215 rfl fun args hl K hp => ?_
  unfold hBSt at hp
  split at hp
  · rename_i _ _ _ L a s v x y z
    obtain ⟨f, r, o, rs, rfl, rfl, rfl, rfl, m0, m1, ia, iv, lrs, hp⟩ := hp
    refine Exists.intro rs (And.intro rfl (And.intro ia (And.intro lrs ?_)))
    refine And.intro (fun h1 => ?_) (fun h1 => ?_)
    · have h1 : allowB rs a s 2 = false := by simpa using h1
      rw [show busS f r o rs a s v = (r, o, 5) from if_pos h1] at hp
      exact hp
    · have h1 : ¬ allowB rs a s 2 = false := by simpa using h1
      rw [show busS f r o rs a s v = writeF f r o a s v from if_neg h1] at hp
      refine Exists.intro f (Exists.intro r (Exists.intro o (And.intro rfl (And.intro rfl (And.intro rfl (And.intro m0 (And.intro m1 (And.intro ia (And.intro iv ?_)))))))))
      exact hp
  · exact hp.elim

def hNear : CH := fun args hl K => match args, hl with
  | [.ptr 0 0 0 _, .agg [.v _, .v _, .v (.int .i64 a), .v (.int .i64 imm)]], [.box cells] => ∃ (pc : Int) (regs : List Int) (A : Nat), CoreC pc regs cells ∧ a = A ∧ A < 8 ∧ 0 ≤ imm ∧ imm ≤ 65535 ∧ K (.v (.int .i64 ((regs.getD A 0 + wideF imm) % 4294967296))) [.box cells]
  | _, _ => False
def cx_s_near : Ctx := mkC [(210, callM [] false hWide)]
theorem cx_s_near_ok : CtxOk Tryz.prog cx_s_near := mkC_ok (mem1 ⟨s_widen, fnOk Tryz.func210 rfl rfl⟩ mem0)
set_option maxRecDepth 100000 in
set_option pp.maxSteps 1500 in
set_option maxHeartbeats 4000000 in
theorem s_near : HSound Tryz.prog 171 (callM [.rw] false hNear) := by
  refine callM_sound cx_s_near_ok mixed Tryz.func171 rfl fun args hl K hp => ?_
  unfold hNear at hp
  split at hp
  · rename_i _ _ _ a imm cells
    obtain ⟨pc, regs, A, hc, rfl, hA, i0, i1, hp⟩ := hp
    have hg := core_get hc hA
    obtain ⟨r0, r1, r2, r3, r4, r5, r6, r7, rfl, rfl⟩ := hc
    refine Or.inl ?_
    refine And.intro (show wfB _ = true from by kernel_rfl) ?_
    repeat' (first
      | refine Exists.intro A (And.intro rfl (And.intro hA ?_))
      | refine Exists.intro _ (And.intro hg (And.intro rfl ?_))
      | refine And.intro (Exists.intro A (And.intro rfl (And.intro hA (And.intro rfl rfl)))) ?_
      | refine And.intro (Exists.intro _ (And.intro hg (And.intro rfl (And.intro rfl rfl)))) ?_
      | (refine And.intro i0 ?_; refine And.intro i1 ?_; exact And.intro rfl rfl)
      | refine And.intro (show wfB _ = true from by kernel_rfl) ?_ | refine And.intro (And.intro rfl rfl) ?_ | exact And.intro rfl rfl | apply HeldC.intro | exact AV.top | (apply HeldF.intro; refine Exists.intro _ (And.intro (by assumption) ?_); refine And.intro (by decide) ?_; exact And.intro rfl rfl) | (refine And.intro (by (refine Exists.intro _ (And.intro (by assumption) ?_); refine And.intro (by decide) ?_; exact And.intro rfl rfl)) ?_) | refine Or.inl ?_
      | fail)
    exact fin_i hp (by rw [maskI, wrap_mod])
  · exact hp.elim

def hTarget : CH := fun args hl K => match args, hl with
  | [.ptr 0 0 0 _, .agg [.v _, .v _, .v _, .v (.int .i64 imm)]], [.box cells] => ∃ (pc : Int) (regs : List Int), CoreC pc regs cells ∧ 0 ≤ imm ∧ imm ≤ 65535 ∧ K (.v (.int .i64 ((pc + 4 * wideF imm) % 4294967296))) [.box cells]
  | _, _ => False
def cx_s_target : Ctx := mkC [(210, callM [] false hWide)]
theorem cx_s_target_ok : CtxOk Tryz.prog cx_s_target := mkC_ok (mem1 ⟨s_widen, fnOk Tryz.func210 rfl rfl⟩ mem0)
set_option maxRecDepth 100000 in
set_option pp.maxSteps 1500 in
set_option maxHeartbeats 4000000 in
theorem s_target : HSound Tryz.prog 166 (callM [.rw] false hTarget) := by
  refine callM_sound cx_s_target_ok mixed Tryz.func166 rfl fun args hl K hp => ?_
  unfold hTarget at hp
  split at hp
  · rename_i _ _ _ _ imm cells
    obtain ⟨pc, regs, hc, i0, i1, hp⟩ := hp
    have hw := wide_bd i0 i1
    obtain ⟨r0, r1, r2, r3, r4, r5, r6, r7, rfl, rfl⟩ := hc
    refine Or.inl ?_
    refine And.intro (show wfB _ = true from by kernel_rfl) ?_
    repeat' (first
      | (refine And.intro i0 ?_; refine And.intro i1 ?_; exact And.intro rfl rfl)
      | refine And.intro (show wfB _ = true from by kernel_rfl) ?_ | refine And.intro (And.intro rfl rfl) ?_ | exact And.intro rfl rfl | apply HeldC.intro | exact AV.top | (apply HeldF.intro; refine Exists.intro _ (And.intro (by assumption) ?_); refine And.intro (by decide) ?_; exact And.intro rfl rfl) | (refine And.intro (by (refine Exists.intro _ (And.intro (by assumption) ?_); refine And.intro (by decide) ?_; exact And.intro rfl rfl)) ?_) | refine Or.inl ?_
      | fail)
    exact fin_i hp (by rw [maskI, wrap_mod, wrap64 (x := 4 * wideF imm) (by omega)])
  · exact hp.elim

/-! ### The small functions of two words -/

def aluR (g : Nat) (d a : Int) : Int := if g = 4 then a else if g = 5 then IntKind.i64.wrap (d + a) else if g = 7 then IntKind.i64.wrap (d - a) else if g = 8 then IntKind.i64.wrap (d * a)
  else if g = 9 then IntKind.i64.wrap ((BitVec.ofInt IntKind.i64.bits d &&& BitVec.ofInt IntKind.i64.bits a).toNat : Nat) else if g = 10 then IntKind.i64.wrap ((BitVec.ofInt IntKind.i64.bits d ||| BitVec.ofInt IntKind.i64.bits a).toNat : Nat)
  else if g = 11 then IntKind.i64.wrap ((BitVec.ofInt IntKind.i64.bits d ^^^ BitVec.ofInt IntKind.i64.bits a).toNat : Nat) else if g = 12 then IntKind.i64.wrap (d * 2 ^ (min (a % 32).toNat 64)) else d.fdiv (2 ^ (min (a % 32).toNat 64))
def hG4 : CH := fun args hl K => match args, hl with
  | [.v (.int .i64 d), .v (.int .i64 a)], [] => K (.v (.int .i64 (aluR 4 d a))) []
  | _, _ => False
def cx_s_op4 : Ctx := mkC []
theorem cx_s_op4_ok : CtxOk Tryz.prog cx_s_op4 := cx0_ok
set_option maxRecDepth 100000 in
set_option pp.maxSteps 1500 in
theorem s_op4 : HSound Tryz.prog 173 (callM [] false hG4) := by
  refine callM_sound cx_s_op4_ok mixed Tryz.func173 rfl fun args hl K hp => ?_
  unfold hG4 at hp
  split at hp
  · exact hp
  · exact hp.elim
def hG5 : CH := fun args hl K => match args, hl with
  | [.v (.int .i64 d), .v (.int .i64 a)], [] => K (.v (.int .i64 (aluR 5 d a))) []
  | _, _ => False
def cx_s_op5 : Ctx := mkC []
theorem cx_s_op5_ok : CtxOk Tryz.prog cx_s_op5 := cx0_ok
set_option maxRecDepth 100000 in
set_option pp.maxSteps 1500 in
theorem s_op5 : HSound Tryz.prog 174 (callM [] false hG5) := by
  refine callM_sound cx_s_op5_ok mixed Tryz.func174 rfl fun args hl K hp => ?_
  unfold hG5 at hp
  split at hp
  · exact hp
  · exact hp.elim
def hG7 : CH := fun args hl K => match args, hl with
  | [.v (.int .i64 d), .v (.int .i64 a)], [] => K (.v (.int .i64 (aluR 7 d a))) []
  | _, _ => False
def cx_s_op7 : Ctx := mkC []
theorem cx_s_op7_ok : CtxOk Tryz.prog cx_s_op7 := cx0_ok
set_option maxRecDepth 100000 in
set_option pp.maxSteps 1500 in
theorem s_op7 : HSound Tryz.prog 175 (callM [] false hG7) := by
  refine callM_sound cx_s_op7_ok mixed Tryz.func175 rfl fun args hl K hp => ?_
  unfold hG7 at hp
  split at hp
  · exact hp
  · exact hp.elim
def hG8 : CH := fun args hl K => match args, hl with
  | [.v (.int .i64 d), .v (.int .i64 a)], [] => K (.v (.int .i64 (aluR 8 d a))) []
  | _, _ => False
def cx_s_op8 : Ctx := mkC []
theorem cx_s_op8_ok : CtxOk Tryz.prog cx_s_op8 := cx0_ok
set_option maxRecDepth 100000 in
set_option pp.maxSteps 1500 in
theorem s_op8 : HSound Tryz.prog 176 (callM [] false hG8) := by
  refine callM_sound cx_s_op8_ok mixed Tryz.func176 rfl fun args hl K hp => ?_
  unfold hG8 at hp
  split at hp
  · exact hp
  · exact hp.elim
def hG9 : CH := fun args hl K => match args, hl with
  | [.v (.int .i64 d), .v (.int .i64 a)], [] => K (.v (.int .i64 (aluR 9 d a))) []
  | _, _ => False
def cx_s_op9 : Ctx := mkC []
theorem cx_s_op9_ok : CtxOk Tryz.prog cx_s_op9 := cx0_ok
set_option maxRecDepth 100000 in
set_option pp.maxSteps 1500 in
theorem s_op9 : HSound Tryz.prog 177 (callM [] false hG9) := by
  refine callM_sound cx_s_op9_ok mixed Tryz.func177 rfl fun args hl K hp => ?_
  unfold hG9 at hp
  split at hp
  · exact hp
  · exact hp.elim
def hG10 : CH := fun args hl K => match args, hl with
  | [.v (.int .i64 d), .v (.int .i64 a)], [] => K (.v (.int .i64 (aluR 10 d a))) []
  | _, _ => False
def cx_s_op10 : Ctx := mkC []
theorem cx_s_op10_ok : CtxOk Tryz.prog cx_s_op10 := cx0_ok
set_option maxRecDepth 100000 in
set_option pp.maxSteps 1500 in
theorem s_op10 : HSound Tryz.prog 178 (callM [] false hG10) := by
  refine callM_sound cx_s_op10_ok mixed Tryz.func178 rfl fun args hl K hp => ?_
  unfold hG10 at hp
  split at hp
  · exact hp
  · exact hp.elim
def hG11 : CH := fun args hl K => match args, hl with
  | [.v (.int .i64 d), .v (.int .i64 a)], [] => K (.v (.int .i64 (aluR 11 d a))) []
  | _, _ => False
def cx_s_op11 : Ctx := mkC []
theorem cx_s_op11_ok : CtxOk Tryz.prog cx_s_op11 := cx0_ok
set_option maxRecDepth 100000 in
set_option pp.maxSteps 1500 in
theorem s_op11 : HSound Tryz.prog 179 (callM [] false hG11) := by
  refine callM_sound cx_s_op11_ok mixed Tryz.func179 rfl fun args hl K hp => ?_
  unfold hG11 at hp
  split at hp
  · exact hp
  · exact hp.elim
def hG12 : CH := fun args hl K => match args, hl with
  | [.v (.int .i64 d), .v (.int .i64 a)], [] => K (.v (.int .i64 (aluR 12 d a))) []
  | _, _ => False
def cx_s_op12 : Ctx := mkC []
theorem cx_s_op12_ok : CtxOk Tryz.prog cx_s_op12 := cx0_ok
set_option maxRecDepth 100000 in
set_option pp.maxSteps 1500 in
theorem s_op12 : HSound Tryz.prog 180 (callM [] false hG12) := by
  refine callM_sound cx_s_op12_ok mixed Tryz.func180 rfl fun args hl K hp => ?_
  unfold hG12 at hp
  split at hp
  · rename_i d a
    have e := mask5 a
    refine And.intro (by rw [e]; omega) ?_
    refine fin_i hp ?_
    rw [e]
    rfl
  · exact hp.elim
def hG13 : CH := fun args hl K => match args, hl with
  | [.v (.int .i64 d), .v (.int .i64 a)], [] => K (.v (.int .i64 (aluR 13 d a))) []
  | _, _ => False
def cx_s_op13 : Ctx := mkC []
theorem cx_s_op13_ok : CtxOk Tryz.prog cx_s_op13 := cx0_ok
set_option maxRecDepth 100000 in
set_option pp.maxSteps 1500 in
theorem s_op13 : HSound Tryz.prog 181 (callM [] false hG13) := by
  refine callM_sound cx_s_op13_ok mixed Tryz.func181 rfl fun args hl K hp => ?_
  unfold hG13 at hp
  split at hp
  · rename_i d a
    have e := mask5 a
    refine And.intro (by rw [e]; omega) ?_
    refine fin_i hp ?_
    rw [e]
    rfl
  · exact hp.elim

theorem aluR_eq {g : Nat} {d a imm : Int} (hg : g = 4 ∨ g = 5 ∨ g = 7 ∨ g = 8 ∨ g = 9 ∨ g = 10 ∨ g = 11 ∨ g = 12 ∨ g = 13) (d0 : 0 ≤ d) (d1 : d ≤ 4294967295) (a0 : 0 ≤ a) (a1 : a ≤ 4294967295) :
    IntKind.i64.wrap ((BitVec.ofInt IntKind.i64.bits (aluR g d a) &&& BitVec.ofInt IntKind.i64.bits 4294967295).toNat : Nat) = aluF g imm d a := by
  rw [maskI]
  have m64 : min (a % 32).toNat 64 = (a % 32).toNat := by omega
  have p32 := pow32 (n := (a % 32).toNat) (by omega)
  rcases hg with rfl | rfl | rfl | rfl | rfl | rfl | rfl | rfl | rfl
  · simp [aluR, aluF]; omega
  · simp [aluR, aluF, wrap_mod]
  · simp [aluR, aluF, wrap_mod]
  · simp [aluR, aluF, wrap_mod]
  · obtain ⟨x, rfl⟩ := Int.eq_ofNat_of_zero_le d0
    obtain ⟨y, rfl⟩ := Int.eq_ofNat_of_zero_le a0
    have hb := bit_lt x y (by omega) (by omega)
    simp only [aluR, aluF]
    simp only [Nat.reduceEqDiff, if_false, if_true, andN x y (by omega) (by omega)]
    simp
    omega
  · obtain ⟨x, rfl⟩ := Int.eq_ofNat_of_zero_le d0
    obtain ⟨y, rfl⟩ := Int.eq_ofNat_of_zero_le a0
    have hb := bit_lt x y (by omega) (by omega)
    simp only [aluR, aluF]
    simp only [Nat.reduceEqDiff, if_false, if_true, orN x y (by omega) (by omega)]
    simp
    omega
  · obtain ⟨x, rfl⟩ := Int.eq_ofNat_of_zero_le d0
    obtain ⟨y, rfl⟩ := Int.eq_ofNat_of_zero_le a0
    have hb := bit_lt x y (by omega) (by omega)
    simp only [aluR, aluF]
    simp only [Nat.reduceEqDiff, if_false, if_true, xorN x y (by omega) (by omega)]
    simp
    omega
  · simp [aluR, aluF, m64, wrap_mod]
  · have e : d.fdiv (2 ^ (a % 32).toNat) = d / 2 ^ (a % 32).toNat := Int.fdiv_eq_ediv_of_nonneg _ (by omega)
    have h1 : 0 ≤ d / 2 ^ (a % 32).toNat := Int.ediv_nonneg d0 (by omega)
    have h2 : d / 2 ^ (a % 32).toNat ≤ d := Int.ediv_le_self _ d0
    simp [aluR, aluF, m64, e]
    omega
end Go.Proofs.YtbfjkjdbdejnmaaGreat.Ab

/- Step of impl: the operations. No condition. -/
namespace Go.Proofs.YtbfjkjdbdejnmaaGreat.Ab
set_option linter.unusedVariables false
set_option linter.unusedSimpArgs false

/-- What an operation finds. -/
structure OpIn (nx : Int) (regs f r o : List Int) (rs : List Rg) (imm : Int) (D A : Nat) : Prop where
  hD : D < 8
  hA : A < 8
  i0 : 0 ≤ imm
  i1 : imm ≤ 65535
  n0 : 0 ≤ nx
  n1 : nx ≤ 4294967295
  w : ∀ j < 8, 0 ≤ regs.getD j 0 ∧ regs.getD j 0 ≤ 4294967295
  bf : BytesOk f
  br : BytesOk r
  m0 : memOk f.length r.length o.length = true
  lrs : rs.length ≤ 1048576
/-- What it leaves. -/
def opPost (K : AV → HP → Prop) (nx : Int) (s : StepR) : Prop := ∀ cells', CoreC (if s.did = 5 then nx else s.pc) s.regs cells' → K (.agg [.v (.int .i64 s.did), .v (.int .i64 s.n)]) [.box cells', .box [.sl 1 (s.f.map byteC), .sl 1 (s.r.map byteC), .sl 1 (s.o.map byteC)]]
theorem execAlu {op imm pc nx : Int} {regs f r o : List Int} {rs : List Rg} {D A : Nat} (h : 2 ≤ op ∧ op ≤ 13) : execF op D A imm pc nx regs f r o rs = ⟨nx, regs.set D (aluF op imm (regs.getD D 0) (regs.getD A 0)), f, r, o, 0, 0⟩ := by
  unfold execF
  rw [if_neg (by omega), if_pos h]
  simp
theorem high_eq {d imm : Int} (d0 : 0 ≤ d) (d1 : d ≤ 4294967295) (i0 : 0 ≤ imm) (i1 : imm ≤ 65535) :
    IntKind.i64.wrap ((BitVec.ofInt IntKind.i64.bits (IntKind.i64.wrap ((BitVec.ofInt IntKind.i64.bits d &&& BitVec.ofInt IntKind.i64.bits 65535).toNat : Nat)) ||| BitVec.ofInt IntKind.i64.bits (IntKind.i64.wrap (imm * 2 ^ (min (16 : Int).toNat IntKind.i64.bits)))).toNat : Nat) = d % 65536 + imm * 65536 := by
  obtain ⟨x, rfl⟩ := Int.eq_ofNat_of_zero_le d0
  have e1 : IntKind.i64.wrap ((BitVec.ofInt IntKind.i64.bits (x : Int) &&& BitVec.ofInt IntKind.i64.bits 65535).toNat : Nat) = ((x % 65536 : Nat) : Int) := and64 x 16 65535 (by omega) (by decide) (by decide)
  have e2 : (2 : Int) ^ (min (16 : Int).toNat IntKind.i64.bits) = 65536 := by decide
  rw [e1, e2, wrap64 (x := imm * 65536) (by omega), BitVec.or_comm, orI (x := imm * 65536) (y := ((x % 65536 : Nat) : Int)) 16 ⟨imm.toNat, by omega⟩ (by omega) (by omega) (by omega)]
  omega
def hOp2 : CH := fun args hl K => match args, hl with
  | [.ptr 0 0 0 _, .agg [.ptr 1 0 0 _, .imm _ _ 6 L], .agg [.v (.int .i64 op), .v (.int .i64 d), .v (.int .i64 a), .v (.int .i64 imm)]], [.box cells, .box [.sl 1 x, .sl 1 y, .sl 1 z]] => ∃ (pc nx : Int) (regs f r o : List Int) (rs : List Rg) (D A : Nat), CoreC nx regs cells ∧ x = f.map byteC ∧ y = r.map byteC ∧ z = o.map byteC ∧ L = rs.map regC ∧ d = D ∧ a = A ∧ OpIn nx regs f r o rs imm D A ∧ op = 2 ∧ opPost K nx (execF op D A imm pc nx regs f r o rs)
  | _, _ => False
def cx_s_oSet : Ctx := mkC []
theorem cx_s_oSet_ok : CtxOk Tryz.prog cx_s_oSet := cx0_ok
set_option maxRecDepth 100000 in
set_option pp.maxSteps 1500 in
set_option maxHeartbeats 4000000 in
theorem s_oSet : HSound Tryz.prog 168 (callM [.rw, .ag [.rw, .ro], .ro] true hOp2) := by
  refine callM_sound cx_s_oSet_ok mixed Tryz.func168 rfl fun args hl K hp => ?_
  unfold hOp2 at hp
  split at hp
  · rename_i _ _ _ _ L op d a imm cells x y z
    obtain ⟨pc, nx, regs, f, r, o, rs, D, A, hc, rfl, rfl, rfl, rfl, rfl, rfl, hin, rfl, hp⟩ := hp
    obtain ⟨hD, hA, i0, i1, n0, n1, hw, bf, br_, m0, lrs⟩ := hin
    have hgD := core_get hc hD
    have hgA := core_get hc hA
    have wD := hw D hD
    have wA := hw A hA
    rw [execAlu (by omega)] at hp
    have hs := core_set hc hD (imm)
    have hp := hp _ (show CoreC (if (0 : Int) = 5 then nx else nx) (regs.set D (aluF 2 imm (regs.getD D 0) (regs.getD A 0))) _ from by rw [if_neg (by decide), show aluF 2 imm (regs.getD D 0) (regs.getD A 0) = imm from rfl]; exact hs)
    obtain ⟨s0, s1, s2, s3, s4, s5, s6, s7, hregs, hcells⟩ := hs
    rw [hcells] at hp
    generalize hRD : regs.getD D 0 = vD at *
    generalize hRA : regs.getD A 0 = vA at *
    obtain ⟨r0, r1, r2, r3, r4, r5, r6, r7, rfl, rfl⟩ := hc
    refine Or.inl ?_
    refine And.intro (show wfB _ = true from by kernel_rfl) ?_
    repeat' (first
      | refine Exists.intro D (And.intro rfl (And.intro hD ?_))
      | refine Exists.intro A (And.intro rfl (And.intro hA ?_))
      | refine Exists.intro _ (And.intro hgD (And.intro rfl ?_))
      | refine Exists.intro _ (And.intro hgA (And.intro rfl ?_))
      | refine And.intro (Exists.intro D (And.intro rfl (And.intro hD (And.intro rfl rfl)))) ?_
      | refine And.intro (Exists.intro A (And.intro rfl (And.intro hA (And.intro rfl rfl)))) ?_
      | refine And.intro (Exists.intro _ (And.intro hgD (And.intro rfl (And.intro rfl rfl)))) ?_
      | refine And.intro (Exists.intro _ (And.intro hgA (And.intro rfl (And.intro rfl rfl)))) ?_
      | refine And.intro (by decide) ?_
      | (refine And.intro (show D + (0 + 1) < 9 by omega) ?_; refine Exists.intro _ (And.intro hcells ?_); exact And.intro rfl rfl)
      | refine Exists.intro _ (And.intro List.take_length (And.intro rfl (And.intro (closed_bytes _) ?_)))
      | refine And.intro (show wfB _ = true from by kernel_rfl) ?_ | refine And.intro (And.intro rfl rfl) ?_ | exact And.intro rfl rfl | apply HeldC.intro | exact AV.top | (apply HeldF.intro; refine Exists.intro _ (And.intro (by assumption) ?_); refine And.intro (by decide) ?_; exact And.intro rfl rfl) | (refine And.intro (by (refine Exists.intro _ (And.intro (by assumption) ?_); refine And.intro (by decide) ?_; exact And.intro rfl rfl)) ?_) | refine Or.inl ?_
      | fail)
    exact hp
  · exact hp.elim
def hOp3 : CH := fun args hl K => match args, hl with
  | [.ptr 0 0 0 _, .agg [.ptr 1 0 0 _, .imm _ _ 6 L], .agg [.v (.int .i64 op), .v (.int .i64 d), .v (.int .i64 a), .v (.int .i64 imm)]], [.box cells, .box [.sl 1 x, .sl 1 y, .sl 1 z]] => ∃ (pc nx : Int) (regs f r o : List Int) (rs : List Rg) (D A : Nat), CoreC nx regs cells ∧ x = f.map byteC ∧ y = r.map byteC ∧ z = o.map byteC ∧ L = rs.map regC ∧ d = D ∧ a = A ∧ OpIn nx regs f r o rs imm D A ∧ op = 3 ∧ opPost K nx (execF op D A imm pc nx regs f r o rs)
  | _, _ => False
def cx_s_oHigh : Ctx := mkC []
theorem cx_s_oHigh_ok : CtxOk Tryz.prog cx_s_oHigh := cx0_ok
set_option maxRecDepth 100000 in
set_option pp.maxSteps 1500 in
set_option maxHeartbeats 4000000 in
theorem s_oHigh : HSound Tryz.prog 169 (callM [.rw, .ag [.rw, .ro], .ro] true hOp3) := by
  refine callM_sound cx_s_oHigh_ok mixed Tryz.func169 rfl fun args hl K hp => ?_
  unfold hOp3 at hp
  split at hp
  · rename_i _ _ _ _ L op d a imm cells x y z
    obtain ⟨pc, nx, regs, f, r, o, rs, D, A, hc, rfl, rfl, rfl, rfl, rfl, rfl, hin, rfl, hp⟩ := hp
    obtain ⟨hD, hA, i0, i1, n0, n1, hw, bf, br_, m0, lrs⟩ := hin
    have hgD := core_get hc hD
    have hgA := core_get hc hA
    have wD := hw D hD
    have wA := hw A hA
    have hv := high_eq wD.1 wD.2 i0 i1
    rw [execAlu (by omega)] at hp
    have hs := core_set hc hD (IntKind.i64.wrap ((BitVec.ofInt IntKind.i64.bits (IntKind.i64.wrap ((BitVec.ofInt IntKind.i64.bits (regs.getD D 0) &&& BitVec.ofInt IntKind.i64.bits 65535).toNat : Nat)) ||| BitVec.ofInt IntKind.i64.bits (IntKind.i64.wrap (imm * 2 ^ (min (16 : Int).toNat IntKind.i64.bits)))).toNat : Nat))
    have hp := hp _ (show CoreC (if (0 : Int) = 5 then nx else nx) (regs.set D (aluF 3 imm (regs.getD D 0) (regs.getD A 0))) _ from by rw [if_neg (by decide), show aluF 3 imm (regs.getD D 0) (regs.getD A 0) = regs.getD D 0 % 65536 + imm * 65536 from rfl, ← hv]; exact hs)
    obtain ⟨s0, s1, s2, s3, s4, s5, s6, s7, hregs, hcells⟩ := hs
    rw [hcells] at hp
    generalize hRD : regs.getD D 0 = vD at *
    generalize hRA : regs.getD A 0 = vA at *
    obtain ⟨r0, r1, r2, r3, r4, r5, r6, r7, rfl, rfl⟩ := hc
    refine Or.inl ?_
    refine And.intro (show wfB _ = true from by kernel_rfl) ?_
    repeat' (first
      | refine Exists.intro D (And.intro rfl (And.intro hD ?_))
      | refine Exists.intro A (And.intro rfl (And.intro hA ?_))
      | refine Exists.intro _ (And.intro hgD (And.intro rfl ?_))
      | refine Exists.intro _ (And.intro hgA (And.intro rfl ?_))
      | refine And.intro (Exists.intro D (And.intro rfl (And.intro hD (And.intro rfl rfl)))) ?_
      | refine And.intro (Exists.intro A (And.intro rfl (And.intro hA (And.intro rfl rfl)))) ?_
      | refine And.intro (Exists.intro _ (And.intro hgD (And.intro rfl (And.intro rfl rfl)))) ?_
      | refine And.intro (Exists.intro _ (And.intro hgA (And.intro rfl (And.intro rfl rfl)))) ?_
      | refine And.intro (by decide) ?_
      | (refine And.intro (show D + (0 + 1) < 9 by omega) ?_; refine Exists.intro _ (And.intro hcells ?_); exact And.intro rfl rfl)
      | refine Exists.intro _ (And.intro List.take_length (And.intro rfl (And.intro (closed_bytes _) ?_)))
      | refine And.intro (show wfB _ = true from by kernel_rfl) ?_ | refine And.intro (And.intro rfl rfl) ?_ | exact And.intro rfl rfl | apply HeldC.intro | exact AV.top | (apply HeldF.intro; refine Exists.intro _ (And.intro (by assumption) ?_); refine And.intro (by decide) ?_; exact And.intro rfl rfl) | (refine And.intro (by (refine Exists.intro _ (And.intro (by assumption) ?_); refine And.intro (by decide) ?_; exact And.intro rfl rfl)) ?_) | refine Or.inl ?_
      | fail)
    exact hp
  · exact hp.elim
def hOp6 : CH := fun args hl K => match args, hl with
  | [.ptr 0 0 0 _, .agg [.ptr 1 0 0 _, .imm _ _ 6 L], .agg [.v (.int .i64 op), .v (.int .i64 d), .v (.int .i64 a), .v (.int .i64 imm)]], [.box cells, .box [.sl 1 x, .sl 1 y, .sl 1 z]] => ∃ (pc nx : Int) (regs f r o : List Int) (rs : List Rg) (D A : Nat), CoreC nx regs cells ∧ x = f.map byteC ∧ y = r.map byteC ∧ z = o.map byteC ∧ L = rs.map regC ∧ d = D ∧ a = A ∧ OpIn nx regs f r o rs imm D A ∧ op = 6 ∧ opPost K nx (execF op D A imm pc nx regs f r o rs)
  | _, _ => False
def cx_s_oNear : Ctx := mkC [(171, callM [.rw] false hNear)]
theorem cx_s_oNear_ok : CtxOk Tryz.prog cx_s_oNear := mkC_ok (mem1 ⟨s_near, fnOk Tryz.func171 rfl rfl⟩ mem0)
set_option maxRecDepth 100000 in
set_option pp.maxSteps 1500 in
set_option maxHeartbeats 4000000 in
theorem s_oNear : HSound Tryz.prog 170 (callM [.rw, .ag [.rw, .ro], .ro] true hOp6) := by
  refine callM_sound cx_s_oNear_ok mixed Tryz.func170 rfl fun args hl K hp => ?_
  unfold hOp6 at hp
  split at hp
  · rename_i _ _ _ _ L op d a imm cells x y z
    obtain ⟨pc, nx, regs, f, r, o, rs, D, A, hc, rfl, rfl, rfl, rfl, rfl, rfl, hin, rfl, hp⟩ := hp
    obtain ⟨hD, hA, i0, i1, n0, n1, hw, bf, br_, m0, lrs⟩ := hin
    have hgD := core_get hc hD
    have hgA := core_get hc hA
    have wD := hw D hD
    have wA := hw A hA
    have hc0 := hc
    rw [execAlu (by omega)] at hp
    have hs := core_set hc hD ((regs.getD A 0 + wideF imm) % 4294967296)
    have hp := hp _ (show CoreC (if (0 : Int) = 5 then nx else nx) (regs.set D (aluF 6 imm (regs.getD D 0) (regs.getD A 0))) _ from by rw [if_neg (by decide), show aluF 6 imm (regs.getD D 0) (regs.getD A 0) = (regs.getD A 0 + wideF imm) % 4294967296 from rfl]; exact hs)
    obtain ⟨s0, s1, s2, s3, s4, s5, s6, s7, hregs, hcells⟩ := hs
    rw [hcells] at hp
    generalize hRD : regs.getD D 0 = vD at *
    generalize hRA : regs.getD A 0 = vA at *
    obtain ⟨r0, r1, r2, r3, r4, r5, r6, r7, rfl, rfl⟩ := hc
    refine Or.inl ?_
    refine And.intro (show wfB _ = true from by kernel_rfl) ?_
    repeat' (first
      | refine Exists.intro D (And.intro rfl (And.intro hD ?_))
      | refine Exists.intro A (And.intro rfl (And.intro hA ?_))
      | refine Exists.intro _ (And.intro hgD (And.intro rfl ?_))
      | refine Exists.intro _ (And.intro hgA (And.intro rfl ?_))
      | refine And.intro (Exists.intro D (And.intro rfl (And.intro hD (And.intro rfl rfl)))) ?_
      | refine And.intro (Exists.intro A (And.intro rfl (And.intro hA (And.intro rfl rfl)))) ?_
      | refine And.intro (Exists.intro _ (And.intro hgD (And.intro rfl (And.intro rfl rfl)))) ?_
      | refine And.intro (Exists.intro _ (And.intro hgA (And.intro rfl (And.intro rfl rfl)))) ?_
      | refine And.intro (by decide) ?_
      | (refine Exists.intro nx (Exists.intro _ (Exists.intro A (And.intro hc0 (And.intro rfl (And.intro hA (And.intro i0 (And.intro i1 ?_))))))); rw [hRA]; exact And.intro rfl rfl)
      | (refine And.intro (show D + (0 + 1) < 9 by omega) ?_; refine Exists.intro _ (And.intro hcells ?_); exact And.intro rfl rfl)
      | refine Exists.intro _ (And.intro List.take_length (And.intro rfl (And.intro (closed_bytes _) ?_)))
      | refine And.intro (show wfB _ = true from by kernel_rfl) ?_ | refine And.intro (And.intro rfl rfl) ?_ | exact And.intro rfl rfl | apply HeldC.intro | exact AV.top | (apply HeldF.intro; refine Exists.intro _ (And.intro (by assumption) ?_); refine And.intro (by decide) ?_; exact And.intro rfl rfl) | (refine And.intro (by (refine Exists.intro _ (And.intro (by assumption) ?_); refine And.intro (by decide) ?_; exact And.intro rfl rfl)) ?_) | refine Or.inl ?_
      | fail)
    exact hp
  · exact hp.elim
def hOpP : CH := fun args hl K => match args, hl with
  | [.ptr 0 0 0 _, .agg [.ptr 1 0 0 _, .imm _ _ 6 L], .agg [.v (.int .i64 op), .v (.int .i64 d), .v (.int .i64 a), .v (.int .i64 imm)], .iptr _ [.fn g []]], [.box cells, .box [.sl 1 x, .sl 1 y, .sl 1 z]] => ∃ (pc nx : Int) (regs f r o : List Int) (rs : List Rg) (D A : Nat), CoreC nx regs cells ∧ x = f.map byteC ∧ y = r.map byteC ∧ z = o.map byteC ∧ L = rs.map regC ∧ d = D ∧ a = A ∧ OpIn nx regs f r o rs imm D A ∧ ((op = 4 ∧ g = 173) ∨ (op = 5 ∧ g = 174) ∨ (op = 7 ∧ g = 175) ∨ (op = 8 ∧ g = 176) ∨ (op = 9 ∧ g = 177) ∨ (op = 10 ∧ g = 178) ∨ (op = 11 ∧ g = 179) ∨ (op = 12 ∧ g = 180) ∨ (op = 13 ∧ g = 181)) ∧ opPost K nx (execF op D A imm pc nx regs f r o rs)
  | _, _ => False
def cx_s_oPair : Ctx := mkC [(173, callM [] false hG4), (174, callM [] false hG5), (175, callM [] false hG7), (176, callM [] false hG8), (177, callM [] false hG9), (178, callM [] false hG10), (179, callM [] false hG11), (180, callM [] false hG12), (181, callM [] false hG13)]
theorem cx_s_oPair_ok : CtxOk Tryz.prog cx_s_oPair := mkC_ok (mem1 ⟨s_op4, fnOk Tryz.func173 rfl rfl⟩ (mem1 ⟨s_op5, fnOk Tryz.func174 rfl rfl⟩ (mem1 ⟨s_op7, fnOk Tryz.func175 rfl rfl⟩ (mem1 ⟨s_op8, fnOk Tryz.func176 rfl rfl⟩ (mem1 ⟨s_op9, fnOk Tryz.func177 rfl rfl⟩ (mem1 ⟨s_op10, fnOk Tryz.func178 rfl rfl⟩ (mem1 ⟨s_op11, fnOk Tryz.func179 rfl rfl⟩ (mem1 ⟨s_op12, fnOk Tryz.func180 rfl rfl⟩ (mem1 ⟨s_op13, fnOk Tryz.func181 rfl rfl⟩ mem0)))))))))
set_option maxRecDepth 100000 in
set_option pp.maxSteps 1500 in
set_option maxHeartbeats 16000000 in
theorem s_oPair : HSound Tryz.prog 211 (callM [.rw, .ag [.rw, .ro], .ro, .ro] true hOpP) := by
  refine callM_sound cx_s_oPair_ok mixed Tryz.func211 rfl fun args hl K hp => ?_
  unfold hOpP at hp
  split at hp
  · rename_i _ _ _ _ L op d a imm _ g cells x y z
    obtain ⟨pc, nx, regs, f, r, o, rs, D, A, hc, rfl, rfl, rfl, rfl, rfl, rfl, hin, hg, hp⟩ := hp
    obtain ⟨hD, hA, i0, i1, n0, n1, hw, bf, br_, m0, lrs⟩ := hin
    have hgD := core_get hc hD
    have hgA := core_get hc hA
    have wD := hw D hD
    have wA := hw A hA
    rcases hg with ⟨rfl, rfl⟩ | ⟨rfl, rfl⟩ | ⟨rfl, rfl⟩ | ⟨rfl, rfl⟩ | ⟨rfl, rfl⟩ | ⟨rfl, rfl⟩ | ⟨rfl, rfl⟩ | ⟨rfl, rfl⟩ | ⟨rfl, rfl⟩
    · have hv := aluR_eq (g := 4) (d := regs.getD D 0) (a := regs.getD A 0) (imm := imm) (by decide) wD.1 wD.2 wA.1 wA.2
      rw [execAlu (by omega)] at hp
      have hs := core_set hc hD (IntKind.i64.wrap ((BitVec.ofInt IntKind.i64.bits (aluR 4 (regs.getD D 0) (regs.getD A 0)) &&& BitVec.ofInt IntKind.i64.bits 4294967295).toNat : Nat))
      have hp := hp _ (show CoreC (if (0 : Int) = 5 then nx else nx) (regs.set D (aluF 4 imm (regs.getD D 0) (regs.getD A 0))) _ from by rw [if_neg (by decide), show aluF (4 : Int) imm (regs.getD D 0) (regs.getD A 0) = _ from hv.symm]; exact hs)
      obtain ⟨s0, s1, s2, s3, s4, s5, s6, s7, hregs, hcells⟩ := hs
      rw [hcells] at hp
      generalize hRD : regs.getD D 0 = vD at *
      generalize hRA : regs.getD A 0 = vA at *
      obtain ⟨r0, r1, r2, r3, r4, r5, r6, r7, rfl, rfl⟩ := hc
      refine Or.inl ?_
      refine And.intro (show wfB _ = true from by kernel_rfl) ?_
      repeat' (first
        | refine Exists.intro D (And.intro rfl (And.intro hD ?_))
        | refine Exists.intro A (And.intro rfl (And.intro hA ?_))
        | refine Exists.intro _ (And.intro hgD (And.intro rfl ?_))
        | refine Exists.intro _ (And.intro hgA (And.intro rfl ?_))
        | refine And.intro (Exists.intro D (And.intro rfl (And.intro hD (And.intro rfl rfl)))) ?_
        | refine And.intro (Exists.intro A (And.intro rfl (And.intro hA (And.intro rfl rfl)))) ?_
        | refine And.intro (Exists.intro _ (And.intro hgD (And.intro rfl (And.intro rfl rfl)))) ?_
        | refine And.intro (Exists.intro _ (And.intro hgA (And.intro rfl (And.intro rfl rfl)))) ?_
        | refine And.intro (by decide) ?_
        | (refine And.intro (show D + (0 + 1) < 9 by omega) ?_; refine Exists.intro _ (And.intro hcells ?_); exact And.intro rfl rfl)
        | refine Exists.intro _ (And.intro List.take_length (And.intro rfl (And.intro (closed_bytes _) ?_)))
        | refine And.intro (show wfB _ = true from by kernel_rfl) ?_ | refine And.intro (And.intro rfl rfl) ?_ | exact And.intro rfl rfl | apply HeldC.intro | exact AV.top | (apply HeldF.intro; refine Exists.intro _ (And.intro (by assumption) ?_); refine And.intro (by decide) ?_; exact And.intro rfl rfl) | (refine And.intro (by (refine Exists.intro _ (And.intro (by assumption) ?_); refine And.intro (by decide) ?_; exact And.intro rfl rfl)) ?_) | refine Or.inl ?_
        | fail)
      exact hp
    · have hv := aluR_eq (g := 5) (d := regs.getD D 0) (a := regs.getD A 0) (imm := imm) (by decide) wD.1 wD.2 wA.1 wA.2
      rw [execAlu (by omega)] at hp
      have hs := core_set hc hD (IntKind.i64.wrap ((BitVec.ofInt IntKind.i64.bits (aluR 5 (regs.getD D 0) (regs.getD A 0)) &&& BitVec.ofInt IntKind.i64.bits 4294967295).toNat : Nat))
      have hp := hp _ (show CoreC (if (0 : Int) = 5 then nx else nx) (regs.set D (aluF 5 imm (regs.getD D 0) (regs.getD A 0))) _ from by rw [if_neg (by decide), show aluF (5 : Int) imm (regs.getD D 0) (regs.getD A 0) = _ from hv.symm]; exact hs)
      obtain ⟨s0, s1, s2, s3, s4, s5, s6, s7, hregs, hcells⟩ := hs
      rw [hcells] at hp
      generalize hRD : regs.getD D 0 = vD at *
      generalize hRA : regs.getD A 0 = vA at *
      obtain ⟨r0, r1, r2, r3, r4, r5, r6, r7, rfl, rfl⟩ := hc
      refine Or.inl ?_
      refine And.intro (show wfB _ = true from by kernel_rfl) ?_
      repeat' (first
        | refine Exists.intro D (And.intro rfl (And.intro hD ?_))
        | refine Exists.intro A (And.intro rfl (And.intro hA ?_))
        | refine Exists.intro _ (And.intro hgD (And.intro rfl ?_))
        | refine Exists.intro _ (And.intro hgA (And.intro rfl ?_))
        | refine And.intro (Exists.intro D (And.intro rfl (And.intro hD (And.intro rfl rfl)))) ?_
        | refine And.intro (Exists.intro A (And.intro rfl (And.intro hA (And.intro rfl rfl)))) ?_
        | refine And.intro (Exists.intro _ (And.intro hgD (And.intro rfl (And.intro rfl rfl)))) ?_
        | refine And.intro (Exists.intro _ (And.intro hgA (And.intro rfl (And.intro rfl rfl)))) ?_
        | refine And.intro (by decide) ?_
        | (refine And.intro (show D + (0 + 1) < 9 by omega) ?_; refine Exists.intro _ (And.intro hcells ?_); exact And.intro rfl rfl)
        | refine Exists.intro _ (And.intro List.take_length (And.intro rfl (And.intro (closed_bytes _) ?_)))
        | refine And.intro (show wfB _ = true from by kernel_rfl) ?_ | refine And.intro (And.intro rfl rfl) ?_ | exact And.intro rfl rfl | apply HeldC.intro | exact AV.top | (apply HeldF.intro; refine Exists.intro _ (And.intro (by assumption) ?_); refine And.intro (by decide) ?_; exact And.intro rfl rfl) | (refine And.intro (by (refine Exists.intro _ (And.intro (by assumption) ?_); refine And.intro (by decide) ?_; exact And.intro rfl rfl)) ?_) | refine Or.inl ?_
        | fail)
      exact hp
    · have hv := aluR_eq (g := 7) (d := regs.getD D 0) (a := regs.getD A 0) (imm := imm) (by decide) wD.1 wD.2 wA.1 wA.2
      rw [execAlu (by omega)] at hp
      have hs := core_set hc hD (IntKind.i64.wrap ((BitVec.ofInt IntKind.i64.bits (aluR 7 (regs.getD D 0) (regs.getD A 0)) &&& BitVec.ofInt IntKind.i64.bits 4294967295).toNat : Nat))
      have hp := hp _ (show CoreC (if (0 : Int) = 5 then nx else nx) (regs.set D (aluF 7 imm (regs.getD D 0) (regs.getD A 0))) _ from by rw [if_neg (by decide), show aluF (7 : Int) imm (regs.getD D 0) (regs.getD A 0) = _ from hv.symm]; exact hs)
      obtain ⟨s0, s1, s2, s3, s4, s5, s6, s7, hregs, hcells⟩ := hs
      rw [hcells] at hp
      generalize hRD : regs.getD D 0 = vD at *
      generalize hRA : regs.getD A 0 = vA at *
      obtain ⟨r0, r1, r2, r3, r4, r5, r6, r7, rfl, rfl⟩ := hc
      refine Or.inl ?_
      refine And.intro (show wfB _ = true from by kernel_rfl) ?_
      repeat' (first
        | refine Exists.intro D (And.intro rfl (And.intro hD ?_))
        | refine Exists.intro A (And.intro rfl (And.intro hA ?_))
        | refine Exists.intro _ (And.intro hgD (And.intro rfl ?_))
        | refine Exists.intro _ (And.intro hgA (And.intro rfl ?_))
        | refine And.intro (Exists.intro D (And.intro rfl (And.intro hD (And.intro rfl rfl)))) ?_
        | refine And.intro (Exists.intro A (And.intro rfl (And.intro hA (And.intro rfl rfl)))) ?_
        | refine And.intro (Exists.intro _ (And.intro hgD (And.intro rfl (And.intro rfl rfl)))) ?_
        | refine And.intro (Exists.intro _ (And.intro hgA (And.intro rfl (And.intro rfl rfl)))) ?_
        | refine And.intro (by decide) ?_
        | (refine And.intro (show D + (0 + 1) < 9 by omega) ?_; refine Exists.intro _ (And.intro hcells ?_); exact And.intro rfl rfl)
        | refine Exists.intro _ (And.intro List.take_length (And.intro rfl (And.intro (closed_bytes _) ?_)))
        | refine And.intro (show wfB _ = true from by kernel_rfl) ?_ | refine And.intro (And.intro rfl rfl) ?_ | exact And.intro rfl rfl | apply HeldC.intro | exact AV.top | (apply HeldF.intro; refine Exists.intro _ (And.intro (by assumption) ?_); refine And.intro (by decide) ?_; exact And.intro rfl rfl) | (refine And.intro (by (refine Exists.intro _ (And.intro (by assumption) ?_); refine And.intro (by decide) ?_; exact And.intro rfl rfl)) ?_) | refine Or.inl ?_
        | fail)
      exact hp
    · have hv := aluR_eq (g := 8) (d := regs.getD D 0) (a := regs.getD A 0) (imm := imm) (by decide) wD.1 wD.2 wA.1 wA.2
      rw [execAlu (by omega)] at hp
      have hs := core_set hc hD (IntKind.i64.wrap ((BitVec.ofInt IntKind.i64.bits (aluR 8 (regs.getD D 0) (regs.getD A 0)) &&& BitVec.ofInt IntKind.i64.bits 4294967295).toNat : Nat))
      have hp := hp _ (show CoreC (if (0 : Int) = 5 then nx else nx) (regs.set D (aluF 8 imm (regs.getD D 0) (regs.getD A 0))) _ from by rw [if_neg (by decide), show aluF (8 : Int) imm (regs.getD D 0) (regs.getD A 0) = _ from hv.symm]; exact hs)
      obtain ⟨s0, s1, s2, s3, s4, s5, s6, s7, hregs, hcells⟩ := hs
      rw [hcells] at hp
      generalize hRD : regs.getD D 0 = vD at *
      generalize hRA : regs.getD A 0 = vA at *
      obtain ⟨r0, r1, r2, r3, r4, r5, r6, r7, rfl, rfl⟩ := hc
      refine Or.inl ?_
      refine And.intro (show wfB _ = true from by kernel_rfl) ?_
      repeat' (first
        | refine Exists.intro D (And.intro rfl (And.intro hD ?_))
        | refine Exists.intro A (And.intro rfl (And.intro hA ?_))
        | refine Exists.intro _ (And.intro hgD (And.intro rfl ?_))
        | refine Exists.intro _ (And.intro hgA (And.intro rfl ?_))
        | refine And.intro (Exists.intro D (And.intro rfl (And.intro hD (And.intro rfl rfl)))) ?_
        | refine And.intro (Exists.intro A (And.intro rfl (And.intro hA (And.intro rfl rfl)))) ?_
        | refine And.intro (Exists.intro _ (And.intro hgD (And.intro rfl (And.intro rfl rfl)))) ?_
        | refine And.intro (Exists.intro _ (And.intro hgA (And.intro rfl (And.intro rfl rfl)))) ?_
        | refine And.intro (by decide) ?_
        | (refine And.intro (show D + (0 + 1) < 9 by omega) ?_; refine Exists.intro _ (And.intro hcells ?_); exact And.intro rfl rfl)
        | refine Exists.intro _ (And.intro List.take_length (And.intro rfl (And.intro (closed_bytes _) ?_)))
        | refine And.intro (show wfB _ = true from by kernel_rfl) ?_ | refine And.intro (And.intro rfl rfl) ?_ | exact And.intro rfl rfl | apply HeldC.intro | exact AV.top | (apply HeldF.intro; refine Exists.intro _ (And.intro (by assumption) ?_); refine And.intro (by decide) ?_; exact And.intro rfl rfl) | (refine And.intro (by (refine Exists.intro _ (And.intro (by assumption) ?_); refine And.intro (by decide) ?_; exact And.intro rfl rfl)) ?_) | refine Or.inl ?_
        | fail)
      exact hp
    · have hv := aluR_eq (g := 9) (d := regs.getD D 0) (a := regs.getD A 0) (imm := imm) (by decide) wD.1 wD.2 wA.1 wA.2
      rw [execAlu (by omega)] at hp
      have hs := core_set hc hD (IntKind.i64.wrap ((BitVec.ofInt IntKind.i64.bits (aluR 9 (regs.getD D 0) (regs.getD A 0)) &&& BitVec.ofInt IntKind.i64.bits 4294967295).toNat : Nat))
      have hp := hp _ (show CoreC (if (0 : Int) = 5 then nx else nx) (regs.set D (aluF 9 imm (regs.getD D 0) (regs.getD A 0))) _ from by rw [if_neg (by decide), show aluF (9 : Int) imm (regs.getD D 0) (regs.getD A 0) = _ from hv.symm]; exact hs)
      obtain ⟨s0, s1, s2, s3, s4, s5, s6, s7, hregs, hcells⟩ := hs
      rw [hcells] at hp
      generalize hRD : regs.getD D 0 = vD at *
      generalize hRA : regs.getD A 0 = vA at *
      obtain ⟨r0, r1, r2, r3, r4, r5, r6, r7, rfl, rfl⟩ := hc
      refine Or.inl ?_
      refine And.intro (show wfB _ = true from by kernel_rfl) ?_
      repeat' (first
        | refine Exists.intro D (And.intro rfl (And.intro hD ?_))
        | refine Exists.intro A (And.intro rfl (And.intro hA ?_))
        | refine Exists.intro _ (And.intro hgD (And.intro rfl ?_))
        | refine Exists.intro _ (And.intro hgA (And.intro rfl ?_))
        | refine And.intro (Exists.intro D (And.intro rfl (And.intro hD (And.intro rfl rfl)))) ?_
        | refine And.intro (Exists.intro A (And.intro rfl (And.intro hA (And.intro rfl rfl)))) ?_
        | refine And.intro (Exists.intro _ (And.intro hgD (And.intro rfl (And.intro rfl rfl)))) ?_
        | refine And.intro (Exists.intro _ (And.intro hgA (And.intro rfl (And.intro rfl rfl)))) ?_
        | refine And.intro (by decide) ?_
        | (refine And.intro (show D + (0 + 1) < 9 by omega) ?_; refine Exists.intro _ (And.intro hcells ?_); exact And.intro rfl rfl)
        | refine Exists.intro _ (And.intro List.take_length (And.intro rfl (And.intro (closed_bytes _) ?_)))
        | refine And.intro (show wfB _ = true from by kernel_rfl) ?_ | refine And.intro (And.intro rfl rfl) ?_ | exact And.intro rfl rfl | apply HeldC.intro | exact AV.top | (apply HeldF.intro; refine Exists.intro _ (And.intro (by assumption) ?_); refine And.intro (by decide) ?_; exact And.intro rfl rfl) | (refine And.intro (by (refine Exists.intro _ (And.intro (by assumption) ?_); refine And.intro (by decide) ?_; exact And.intro rfl rfl)) ?_) | refine Or.inl ?_
        | fail)
      exact hp
    · have hv := aluR_eq (g := 10) (d := regs.getD D 0) (a := regs.getD A 0) (imm := imm) (by decide) wD.1 wD.2 wA.1 wA.2
      rw [execAlu (by omega)] at hp
      have hs := core_set hc hD (IntKind.i64.wrap ((BitVec.ofInt IntKind.i64.bits (aluR 10 (regs.getD D 0) (regs.getD A 0)) &&& BitVec.ofInt IntKind.i64.bits 4294967295).toNat : Nat))
      have hp := hp _ (show CoreC (if (0 : Int) = 5 then nx else nx) (regs.set D (aluF 10 imm (regs.getD D 0) (regs.getD A 0))) _ from by rw [if_neg (by decide), show aluF (10 : Int) imm (regs.getD D 0) (regs.getD A 0) = _ from hv.symm]; exact hs)
      obtain ⟨s0, s1, s2, s3, s4, s5, s6, s7, hregs, hcells⟩ := hs
      rw [hcells] at hp
      generalize hRD : regs.getD D 0 = vD at *
      generalize hRA : regs.getD A 0 = vA at *
      obtain ⟨r0, r1, r2, r3, r4, r5, r6, r7, rfl, rfl⟩ := hc
      refine Or.inl ?_
      refine And.intro (show wfB _ = true from by kernel_rfl) ?_
      repeat' (first
        | refine Exists.intro D (And.intro rfl (And.intro hD ?_))
        | refine Exists.intro A (And.intro rfl (And.intro hA ?_))
        | refine Exists.intro _ (And.intro hgD (And.intro rfl ?_))
        | refine Exists.intro _ (And.intro hgA (And.intro rfl ?_))
        | refine And.intro (Exists.intro D (And.intro rfl (And.intro hD (And.intro rfl rfl)))) ?_
        | refine And.intro (Exists.intro A (And.intro rfl (And.intro hA (And.intro rfl rfl)))) ?_
        | refine And.intro (Exists.intro _ (And.intro hgD (And.intro rfl (And.intro rfl rfl)))) ?_
        | refine And.intro (Exists.intro _ (And.intro hgA (And.intro rfl (And.intro rfl rfl)))) ?_
        | refine And.intro (by decide) ?_
        | (refine And.intro (show D + (0 + 1) < 9 by omega) ?_; refine Exists.intro _ (And.intro hcells ?_); exact And.intro rfl rfl)
        | refine Exists.intro _ (And.intro List.take_length (And.intro rfl (And.intro (closed_bytes _) ?_)))
        | refine And.intro (show wfB _ = true from by kernel_rfl) ?_ | refine And.intro (And.intro rfl rfl) ?_ | exact And.intro rfl rfl | apply HeldC.intro | exact AV.top | (apply HeldF.intro; refine Exists.intro _ (And.intro (by assumption) ?_); refine And.intro (by decide) ?_; exact And.intro rfl rfl) | (refine And.intro (by (refine Exists.intro _ (And.intro (by assumption) ?_); refine And.intro (by decide) ?_; exact And.intro rfl rfl)) ?_) | refine Or.inl ?_
        | fail)
      exact hp
    · have hv := aluR_eq (g := 11) (d := regs.getD D 0) (a := regs.getD A 0) (imm := imm) (by decide) wD.1 wD.2 wA.1 wA.2
      rw [execAlu (by omega)] at hp
      have hs := core_set hc hD (IntKind.i64.wrap ((BitVec.ofInt IntKind.i64.bits (aluR 11 (regs.getD D 0) (regs.getD A 0)) &&& BitVec.ofInt IntKind.i64.bits 4294967295).toNat : Nat))
      have hp := hp _ (show CoreC (if (0 : Int) = 5 then nx else nx) (regs.set D (aluF 11 imm (regs.getD D 0) (regs.getD A 0))) _ from by rw [if_neg (by decide), show aluF (11 : Int) imm (regs.getD D 0) (regs.getD A 0) = _ from hv.symm]; exact hs)
      obtain ⟨s0, s1, s2, s3, s4, s5, s6, s7, hregs, hcells⟩ := hs
      rw [hcells] at hp
      generalize hRD : regs.getD D 0 = vD at *
      generalize hRA : regs.getD A 0 = vA at *
      obtain ⟨r0, r1, r2, r3, r4, r5, r6, r7, rfl, rfl⟩ := hc
      refine Or.inl ?_
      refine And.intro (show wfB _ = true from by kernel_rfl) ?_
      repeat' (first
        | refine Exists.intro D (And.intro rfl (And.intro hD ?_))
        | refine Exists.intro A (And.intro rfl (And.intro hA ?_))
        | refine Exists.intro _ (And.intro hgD (And.intro rfl ?_))
        | refine Exists.intro _ (And.intro hgA (And.intro rfl ?_))
        | refine And.intro (Exists.intro D (And.intro rfl (And.intro hD (And.intro rfl rfl)))) ?_
        | refine And.intro (Exists.intro A (And.intro rfl (And.intro hA (And.intro rfl rfl)))) ?_
        | refine And.intro (Exists.intro _ (And.intro hgD (And.intro rfl (And.intro rfl rfl)))) ?_
        | refine And.intro (Exists.intro _ (And.intro hgA (And.intro rfl (And.intro rfl rfl)))) ?_
        | refine And.intro (by decide) ?_
        | (refine And.intro (show D + (0 + 1) < 9 by omega) ?_; refine Exists.intro _ (And.intro hcells ?_); exact And.intro rfl rfl)
        | refine Exists.intro _ (And.intro List.take_length (And.intro rfl (And.intro (closed_bytes _) ?_)))
        | refine And.intro (show wfB _ = true from by kernel_rfl) ?_ | refine And.intro (And.intro rfl rfl) ?_ | exact And.intro rfl rfl | apply HeldC.intro | exact AV.top | (apply HeldF.intro; refine Exists.intro _ (And.intro (by assumption) ?_); refine And.intro (by decide) ?_; exact And.intro rfl rfl) | (refine And.intro (by (refine Exists.intro _ (And.intro (by assumption) ?_); refine And.intro (by decide) ?_; exact And.intro rfl rfl)) ?_) | refine Or.inl ?_
        | fail)
      exact hp
    · have hv := aluR_eq (g := 12) (d := regs.getD D 0) (a := regs.getD A 0) (imm := imm) (by decide) wD.1 wD.2 wA.1 wA.2
      rw [execAlu (by omega)] at hp
      have hs := core_set hc hD (IntKind.i64.wrap ((BitVec.ofInt IntKind.i64.bits (aluR 12 (regs.getD D 0) (regs.getD A 0)) &&& BitVec.ofInt IntKind.i64.bits 4294967295).toNat : Nat))
      have hp := hp _ (show CoreC (if (0 : Int) = 5 then nx else nx) (regs.set D (aluF 12 imm (regs.getD D 0) (regs.getD A 0))) _ from by rw [if_neg (by decide), show aluF (12 : Int) imm (regs.getD D 0) (regs.getD A 0) = _ from hv.symm]; exact hs)
      obtain ⟨s0, s1, s2, s3, s4, s5, s6, s7, hregs, hcells⟩ := hs
      rw [hcells] at hp
      generalize hRD : regs.getD D 0 = vD at *
      generalize hRA : regs.getD A 0 = vA at *
      obtain ⟨r0, r1, r2, r3, r4, r5, r6, r7, rfl, rfl⟩ := hc
      refine Or.inl ?_
      refine And.intro (show wfB _ = true from by kernel_rfl) ?_
      repeat' (first
        | refine Exists.intro D (And.intro rfl (And.intro hD ?_))
        | refine Exists.intro A (And.intro rfl (And.intro hA ?_))
        | refine Exists.intro _ (And.intro hgD (And.intro rfl ?_))
        | refine Exists.intro _ (And.intro hgA (And.intro rfl ?_))
        | refine And.intro (Exists.intro D (And.intro rfl (And.intro hD (And.intro rfl rfl)))) ?_
        | refine And.intro (Exists.intro A (And.intro rfl (And.intro hA (And.intro rfl rfl)))) ?_
        | refine And.intro (Exists.intro _ (And.intro hgD (And.intro rfl (And.intro rfl rfl)))) ?_
        | refine And.intro (Exists.intro _ (And.intro hgA (And.intro rfl (And.intro rfl rfl)))) ?_
        | refine And.intro (by decide) ?_
        | (refine And.intro (show D + (0 + 1) < 9 by omega) ?_; refine Exists.intro _ (And.intro hcells ?_); exact And.intro rfl rfl)
        | refine Exists.intro _ (And.intro List.take_length (And.intro rfl (And.intro (closed_bytes _) ?_)))
        | refine And.intro (show wfB _ = true from by kernel_rfl) ?_ | refine And.intro (And.intro rfl rfl) ?_ | exact And.intro rfl rfl | apply HeldC.intro | exact AV.top | (apply HeldF.intro; refine Exists.intro _ (And.intro (by assumption) ?_); refine And.intro (by decide) ?_; exact And.intro rfl rfl) | (refine And.intro (by (refine Exists.intro _ (And.intro (by assumption) ?_); refine And.intro (by decide) ?_; exact And.intro rfl rfl)) ?_) | refine Or.inl ?_
        | fail)
      exact hp
    · have hv := aluR_eq (g := 13) (d := regs.getD D 0) (a := regs.getD A 0) (imm := imm) (by decide) wD.1 wD.2 wA.1 wA.2
      rw [execAlu (by omega)] at hp
      have hs := core_set hc hD (IntKind.i64.wrap ((BitVec.ofInt IntKind.i64.bits (aluR 13 (regs.getD D 0) (regs.getD A 0)) &&& BitVec.ofInt IntKind.i64.bits 4294967295).toNat : Nat))
      have hp := hp _ (show CoreC (if (0 : Int) = 5 then nx else nx) (regs.set D (aluF 13 imm (regs.getD D 0) (regs.getD A 0))) _ from by rw [if_neg (by decide), show aluF (13 : Int) imm (regs.getD D 0) (regs.getD A 0) = _ from hv.symm]; exact hs)
      obtain ⟨s0, s1, s2, s3, s4, s5, s6, s7, hregs, hcells⟩ := hs
      rw [hcells] at hp
      generalize hRD : regs.getD D 0 = vD at *
      generalize hRA : regs.getD A 0 = vA at *
      obtain ⟨r0, r1, r2, r3, r4, r5, r6, r7, rfl, rfl⟩ := hc
      refine Or.inl ?_
      refine And.intro (show wfB _ = true from by kernel_rfl) ?_
      repeat' (first
        | refine Exists.intro D (And.intro rfl (And.intro hD ?_))
        | refine Exists.intro A (And.intro rfl (And.intro hA ?_))
        | refine Exists.intro _ (And.intro hgD (And.intro rfl ?_))
        | refine Exists.intro _ (And.intro hgA (And.intro rfl ?_))
        | refine And.intro (Exists.intro D (And.intro rfl (And.intro hD (And.intro rfl rfl)))) ?_
        | refine And.intro (Exists.intro A (And.intro rfl (And.intro hA (And.intro rfl rfl)))) ?_
        | refine And.intro (Exists.intro _ (And.intro hgD (And.intro rfl (And.intro rfl rfl)))) ?_
        | refine And.intro (Exists.intro _ (And.intro hgA (And.intro rfl (And.intro rfl rfl)))) ?_
        | refine And.intro (by decide) ?_
        | (refine And.intro (show D + (0 + 1) < 9 by omega) ?_; refine Exists.intro _ (And.intro hcells ?_); exact And.intro rfl rfl)
        | refine Exists.intro _ (And.intro List.take_length (And.intro rfl (And.intro (closed_bytes _) ?_)))
        | refine And.intro (show wfB _ = true from by kernel_rfl) ?_ | refine And.intro (And.intro rfl rfl) ?_ | exact And.intro rfl rfl | apply HeldC.intro | exact AV.top | (apply HeldF.intro; refine Exists.intro _ (And.intro (by assumption) ?_); refine And.intro (by decide) ?_; exact And.intro rfl rfl) | (refine And.intro (by (refine Exists.intro _ (And.intro (by assumption) ?_); refine And.intro (by decide) ?_; exact And.intro rfl rfl)) ?_) | refine Or.inl ?_
        | fail)
      exact hp
  · exact hp.elim
end Go.Proofs.YtbfjkjdbdejnmaaGreat.Ab
