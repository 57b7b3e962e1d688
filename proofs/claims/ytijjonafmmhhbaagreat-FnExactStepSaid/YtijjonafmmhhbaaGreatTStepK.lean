/- Step of impl: one operation. No condition. -/
import Derived.Test.YtijjonafmmhhbaaGreatTStepI
namespace Go.Proofs.YtijjonafmmhhbaaGreat.Ab
set_option linter.unusedVariables false
set_option linter.unusedSimpArgs false

def cEnd (s : Int) (g : FuncId) : AV := .fn 106 [.iptr true [.v (.int .i64 s)], .iptr true [.fn g []]]
def cFn (f : FuncId) (g : FuncId) : AV := .fn f [.iptr true [.fn g []]]
def cSz (f : FuncId) (s : Int) : AV := .fn f [.iptr true [.v (.int .i64 s)]]
/-- The table of the operations. -/
def opsT : List AV := [.v Value.nilFunc, cEnd 1 78, .fn 82 [], .fn 83 [], cFn 108 87, cFn 108 88, .fn 84 [],
  cFn 108 89, cFn 108 90, cFn 108 91, cFn 108 92, cFn 108 93, cFn 108 94, cFn 108 95,
  cSz 109 1, cSz 109 2, cSz 109 4, cSz 111 1, cSz 111 2, cSz 111 4, cFn 113 99, cFn 113 100, cFn 113 101,
  cEnd 2 80, cEnd 3 81, cEnd 4 78]
def coreL (pc : Int) (regs : List Int) : List AV := .v (.int .i64 pc) :: regs.map fun x => .v (.int .i64 x)
theorem coreC_L {pc : Int} {regs : List Int} {cells : List AV} (h : CoreC pc regs cells) : cells = coreL pc regs ∧ regs.length = 8 := by
  obtain ⟨a, b, c, d, e, f, g, k, rfl, rfl⟩ := h
  exact ⟨rfl, rfl⟩
theorem coreL_C {pc : Int} {regs : List Int} (h : regs.length = 8) : CoreC pc regs (coreL pc regs) := by
  obtain ⟨a, b, c, d, e, f, g, k, rfl⟩ := eight h
  exact ⟨a, b, c, d, e, f, g, k, rfl, rfl⟩
theorem step_fault {pc : Int} {regs f r o : List Int} {rs : List Rg} (hk : coreOk pc regs = true) (m0 : memOk f.length r.length o.length = true) (h : fltF f r o rs pc ≠ 0) : stepF pc regs f r o rs = ⟨pc, regs, f, r, o, 5, fltF f r o rs pc⟩ := by
  unfold fltF at *
  unfold stepF
  rw [if_neg (by simp [hk, m0])]
  by_cases h1 : allowB rs pc 4 3 = false
  · rw [if_pos h1, if_pos h1]
  rw [if_neg h1] at h
  rw [if_neg h1, if_neg h1]
  by_cases h2 : (readR f r o pc 4).2 ≠ 0
  · rw [if_pos h2, if_pos h2]
  rw [if_neg h2] at h
  rw [if_neg h2, if_neg h2]
  by_cases h3 : decOk (readR f r o pc 4).1 = false
  · rw [if_pos h3, if_pos h3]
  rw [if_neg h3] at h
  exact absurd rfl h
theorem step_exec {pc : Int} {regs f r o : List Int} {rs : List Rg} (hk : coreOk pc regs = true) (m0 : memOk f.length r.length o.length = true) (h : fltF f r o rs pc = 0) : decOk (readR f r o pc 4).1 = true ∧
    stepF pc regs f r o rs = execF ((readR f r o pc 4).1 / 67108864) ((readR f r o pc 4).1 / 8388608 % 8) ((readR f r o pc 4).1 / 1048576 % 8) ((readR f r o pc 4).1 % 65536) pc ((pc + 4) % 4294967296) regs f r o rs := by
  unfold fltF at *
  unfold stepF
  rw [if_neg (by simp [hk, m0])]
  by_cases h1 : allowB rs pc 4 3 = false
  · rw [if_pos h1] at h
    exact absurd h (by decide)
  rw [if_neg h1] at h
  rw [if_neg h1]
  by_cases h2 : (readR f r o pc 4).2 ≠ 0
  · rw [if_pos h2] at h
    exact absurd h h2
  rw [if_neg h2] at h
  rw [if_neg h2]
  by_cases h3 : decOk (readR f r o pc 4).1 = false
  · rw [if_pos h3] at h
    exact absurd h (by decide)
  rw [if_neg h3]
  exact ⟨by simpa using h3, rfl⟩
def FltP (pc : Int) (regs : List Int) (s : StepR) : Prop := s.did = 5 → s.pc = pc ∧ s.regs = regs
theorem event_5 {op imm nx : Int} : (eventF op imm nx).1 ≠ 5 := by
  unfold eventF
  repeat' split
  all_goals simp
theorem exec_fault {op d a imm pc nx : Int} {regs f r o : List Int} {rs : List Rg} : FltP pc regs (execF op d a imm pc nx regs f r o rs) := by
  unfold execF
  split
  · unfold memF
    repeat' split
    all_goals first
      | (intro h; exact ⟨rfl, rfl⟩)
      | (intro h; exfalso; simp at h)
  · split
    · intro h
      exfalso
      simp at h
    · intro h
      exact absurd h event_5
theorem exec_len {op d a imm pc nx : Int} {regs f r o : List Int} {rs : List Rg} (h : regs.length = 8) : (execF op d a imm pc nx regs f r o rs).regs.length = 8 := by
  unfold execF
  split
  · unfold memF
    repeat' split
    all_goals simp [h]
  · split
    · simp [h]
    · simp [h]
theorem op_cases {w : Int} (h : decOk w = true) : 1 ≤ w / 67108864 ∧ w / 67108864 ≤ 25 ∧ 0 ≤ w := by
  simp only [decOk, Bool.and_eq_true, decide_eq_true_eq, insOk] at h
  have := l3U_cases (w / 67108864)
  omega
def hStI : CH := fun args hl K => match args, hl with
  | [.ptr 0 0 0 _, .agg [.ptr 1 0 0 _, .imm _ _ 6 L], .ptr 2 0 0 _], [.box cells, .box [.sl 1 x, .sl 1 y, .sl 1 z], .box T] => ∃ (pc : Int) (regs f r o : List Int) (rs : List Rg), CoreC pc regs cells ∧ x = f.map byteC ∧ y = r.map byteC ∧ z = o.map byteC ∧ L = rs.map regC ∧ T = opsT ∧ coreOk pc regs = true ∧ BytesOk f ∧ BytesOk r ∧ memOk f.length r.length o.length = true ∧ rs.length ≤ 1048576 ∧
      (∀ cells', CoreC (stepF pc regs f r o rs).pc (stepF pc regs f r o rs).regs cells' → K (.agg [.v (.int .i64 (stepF pc regs f r o rs).did), .v (.int .i64 (stepF pc regs f r o rs).n)])
        [.box cells', .box [.sl 1 ((stepF pc regs f r o rs).f.map byteC), .sl 1 ((stepF pc regs f r o rs).r.map byteC), .sl 1 ((stepF pc regs f r o rs).o.map byteC)], .box opsT])
  | _, _ => False
def cx_s_stepI : Ctx := mkCut [(102, callM [.ag [.rw, .ro], .ro] true hFetch), (82, callM [.rw, .ag [.rw, .ro], .ro] true hOp2), (83, callM [.rw, .ag [.rw, .ro], .ro] true hOp3), (84, callM [.rw, .ag [.rw, .ro], .ro] true hOp6), (108, callM [.rw, .ag [.rw, .ro], .ro, .ro] true hOpP), (109, callM [.rw, .ag [.rw, .ro], .ro, .ro] true hOpL), (111, callM [.rw, .ag [.rw, .ro], .ro, .ro] true hOpS), (113, callM [.rw, .ag [.rw, .ro], .ro, .ro] true hOpJ), (106, callM [.rw, .ag [.rw, .ro], .ro, .ro, .ro] true hOpE)]
theorem cx_s_stepI_ok : CtxOk Tryz.prog cx_s_stepI := mkCut_ok (mem1 ⟨s_fetch, fnOk Tryz.func102 rfl rfl⟩ (mem1 ⟨s_oSet, fnOk Tryz.func82 rfl rfl⟩ (mem1 ⟨s_oHigh, fnOk Tryz.func83 rfl rfl⟩ (mem1 ⟨s_oNear, fnOk Tryz.func84 rfl rfl⟩ (mem1 ⟨s_oPair, fnOk Tryz.func108 rfl rfl⟩ (mem1 ⟨s_oLoads, fnOk Tryz.func109 rfl rfl⟩ (mem1 ⟨s_oStores, fnOk Tryz.func111 rfl rfl⟩ (mem1 ⟨s_oJumps, fnOk Tryz.func113 rfl rfl⟩ (mem1 ⟨s_oEnds, fnOk Tryz.func106 rfl rfl⟩ mem0)))))))))
set_option maxRecDepth 100000 in
set_option pp.maxSteps 1500 in
set_option maxHeartbeats 16000000 in
theorem s_stepI : HSound Tryz.prog 48 (callM [.rw, .ag [.rw, .ro], .rw] true hStI) := by
  refine callM_sound cx_s_stepI_ok mixed Tryz.func48 rfl fun args hl K hp => ?_
  unfold hStI at hp
  split at hp
  · rename_i k0 k1 t1 z1 L k2 cells x y z T
    obtain ⟨pc, regs, f, r, o, rs, hc, rfl, rfl, rfl, rfl, rfl, hk, bf, br_, m0, lrs, hp⟩ := hp
    have ipc : I64 pc := by
      simp [coreOk, wordB] at hk
      simp only [I64]
      omega
    have hwd : ∀ j < 8, 0 ≤ regs.getD j 0 ∧ regs.getD j 0 ≤ 4294967295 := fun j hj => by
      have h8 := (coreC_L hc).2
      simp only [coreOk, Bool.and_eq_true, decide_eq_true_eq, wordB, List.all_eq_true] at hk
      rw [List.getD_eq_getElem?_getD, List.getElem?_eq_getElem (by omega)]
      exact hk.2 _ (List.getElem_mem _)
    have h8 := (coreC_L hc).2
    obtain ⟨a, b, c, d, e, f', g, h', rfl, rfl⟩ := hc
    refine Or.inr (Exists.intro false (Exists.intro [0, 2, 4, 6, 7, 8] (Exists.intro (fun vs h => ∃ (op imm fl : Int) (D A : Nat), (fl = fltF f r o rs pc ∧ (fl = 0 → op = (readR f r o pc 4).1 / 67108864 ∧ (D : Int) = (readR f r o pc 4).1 / 8388608 % 8 ∧ (A : Int) = (readR f r o pc 4).1 / 1048576 % 8 ∧ imm = (readR f r o pc 4).1 % 65536)) ∧
      vs = [.ptr 0 0 0 k0, .ptr 2 0 0 k2, .ptr 3 0 0 2, .ptr 4 0 0 2, .ptr 8 0 0 4, .v (.int .i64 fl)] ∧
      h = [.box [.v (.int .i64 pc), .v (.int .i64 a), .v (.int .i64 b), .v (.int .i64 c), .v (.int .i64 d), .v (.int .i64 e), .v (.int .i64 f'), .v (.int .i64 g), .v (.int .i64 h')],
        .box [.sl 1 (f.map byteC), .sl 1 (r.map byteC), .sl 1 (o.map byteC)], .box opsT, .box [.ptr 1 0 0 k1, .imm t1 z1 6 (rs.map regC)], .box [.v (.int .i64 0), .v (.int .i64 0)], .dead, .dead, .dead,
        .box [.v (.int .i64 op), .v (.int .i64 D), .v (.int .i64 A), .v (.int .i64 imm)]]) (And.intro ?_ ?_))))
    · refine Or.inl ?_
      refine And.intro (show wfB _ = true from by kernel_rfl) ?_
      have hI : fltF f r o rs pc = 0 → ∀ v, insV f r o rs pc v = v := fun h v => if_pos h
      have hD : insV f r o rs pc ((readR f r o pc 4).1 / 8388608 % 8) = ((insV f r o rs pc ((readR f r o pc 4).1 / 8388608 % 8)).toNat : Int) := by unfold insV; split <;> omega
      have hA : insV f r o rs pc ((readR f r o pc 4).1 / 1048576 % 8) = ((insV f r o rs pc ((readR f r o pc 4).1 / 1048576 % 8)).toNat : Int) := by unfold insV; split <;> omega
      repeat' (first
        | (refine Exists.intro f (Exists.intro r (Exists.intro o (Exists.intro rs (And.intro rfl (And.intro rfl (And.intro rfl (And.intro rfl (And.intro bf (And.intro br_ (And.intro m0 (And.intro ipc (And.intro lrs ?_)))))))))))); exact And.intro rfl rfl)
        | refine Exists.intro _ (And.intro List.take_length (And.intro rfl (And.intro (closed_bytes _) ?_)))
        | refine And.intro (show wfB _ = true from by kernel_rfl) ?_ | refine And.intro (And.intro rfl rfl) ?_ | exact And.intro rfl rfl | apply HeldC.intro | exact AV.top | (apply HeldF.intro; refine Exists.intro _ (And.intro (by assumption) ?_); refine And.intro (by decide) ?_; exact And.intro rfl rfl) | (refine And.intro (by (refine Exists.intro _ (And.intro (by assumption) ?_); refine And.intro (by decide) ?_; exact And.intro rfl rfl)) ?_) | refine Or.inl ?_
        | refine And.intro ?_ ?_
        | fail)
      all_goals refine Exists.intro (insV f r o rs pc ((readR f r o pc 4).1 / 67108864)) (Exists.intro (insV f r o rs pc ((readR f r o pc 4).1 % 65536)) (Exists.intro (fltF f r o rs pc) (Exists.intro _ (Exists.intro _ (And.intro (And.intro rfl (fun h0 => And.intro (hI h0 _) (And.intro (hD.symm.trans (hI h0 _)) (And.intro (hA.symm.trans (hI h0 _)) (hI h0 _))))) (And.intro rfl ?_))))))
      all_goals rw [← hD, ← hA]
      all_goals rfl
    · intro vs h hI
      obtain ⟨op, imm, fl, D, A, ⟨rfl, hfl⟩, rfl, rfl⟩ := hI
      refine Or.inl ?_
      refine And.intro (fun h1 => ?_) (fun h1 => ?_)
      · have h1 : fltF f r o rs pc ≠ 0 := by simpa using h1
        rw [step_fault hk m0 h1] at hp
        exact hp _ (core_pc rfl)
      · have h1 : fltF f r o rs pc = 0 := by simpa using h1
        obtain ⟨hop, hD, hA, him⟩ := hfl h1
        obtain ⟨hdec, hs⟩ := step_exec hk m0 h1
        obtain ⟨o1, o2, o3⟩ := op_cases hdec
        rw [hs, ← hop, ← hD, ← hA, ← him] at hp
        have i0 : 0 ≤ imm ∧ imm ≤ 65535 := by omega
        have d8 : D < 8 ∧ A < 8 := by omega
        rw [← hop] at o1 o2
        obtain ⟨nx, hnx⟩ : ∃ nx, nx = (pc + 4) % 4294967296 := ⟨_, rfl⟩
        rw [← hnx] at hp
        have hin : OpIn nx [a, b, c, d, e, f', g, h'] f r o rs imm D A := ⟨d8.1, d8.2, i0.1, i0.2, by omega, by omega, hwd, bf, br_, m0, lrs⟩
        have hcn : CoreC nx [a, b, c, d, e, f', g, h'] [.v (.int .i64 nx), .v (.int .i64 a), .v (.int .i64 b), .v (.int .i64 c), .v (.int .i64 d), .v (.int .i64 e), .v (.int .i64 f'), .v (.int .i64 g), .v (.int .i64 h')] := core_pc rfl
        have hu : IntKind.i64.wrap ((BitVec.ofInt IntKind.i64.bits (IntKind.i64.wrap (pc + 4)) &&& BitVec.ofInt IntKind.i64.bits 4294967295).toNat : Nat) = nx := by rw [maskI, wrap_mod, hnx]
        clear hop hD hA him hs hdec hfl h1 o3
        have hl := exec_len (op := op) (d := D) (a := A) (imm := imm) (pc := pc) (nx := nx) (f := f) (r := r) (o := o) (rs := rs) h8
        have hft := exec_fault (op := op) (d := D) (a := A) (imm := imm) (pc := pc) (nx := nx) (regs := [a, b, c, d, e, f', g, h']) (f := f) (r := r) (o := o) (rs := rs)
        refine Or.inr (Exists.intro false (Exists.intro [0, 6, 9, 10] (Exists.intro (fun vs h => ∃ s : StepR, s = execF op D A imm pc nx [a, b, c, d, e, f', g, h'] f r o rs ∧ vs = [.ptr 0 0 0 k0, .ptr 4 0 0 2, .ptr 9 0 0 9, .ptr 13 0 0 2] ∧
          h = [.box (coreL (if s.did = 5 then nx else s.pc) s.regs), .box [.sl 1 (s.f.map byteC), .sl 1 (s.r.map byteC), .sl 1 (s.o.map byteC)], .box opsT, .box [.ptr 1 0 0 k1, .imm t1 z1 6 (rs.map regC)], .box [.v (.int .i64 0), .v (.int .i64 0)], .dead, .dead, .dead,
            .box [.v (.int .i64 op), .v (.int .i64 D), .v (.int .i64 A), .v (.int .i64 imm)], .box [.v (.int .i64 pc), .v (.int .i64 a), .v (.int .i64 b), .v (.int .i64 c), .v (.int .i64 d), .v (.int .i64 e), .v (.int .i64 f'), .v (.int .i64 g), .v (.int .i64 h')], .dead, .dead, .dead,
            .box [.v (.int .i64 s.did), .v (.int .i64 s.n)]]) (And.intro ?_ ?_))))
        · rw [hu]
          have hops : op = 1 ∨ op = 2 ∨ op = 3 ∨ op = 4 ∨ op = 5 ∨ op = 6 ∨ op = 7 ∨ op = 8 ∨ op = 9 ∨ op = 10 ∨ op = 11 ∨ op = 12 ∨ op = 13 ∨ op = 14 ∨ op = 15 ∨ op = 16 ∨ op = 17 ∨ op = 18 ∨ op = 19 ∨ op = 20 ∨ op = 21 ∨ op = 22 ∨ op = 23 ∨ op = 24 ∨ op = 25 := by omega
          clear hu hp hl hft
          rcases hops with rfl | rfl | rfl | rfl | rfl | rfl | rfl | rfl | rfl | rfl | rfl | rfl | rfl | rfl | rfl | rfl | rfl | rfl | rfl | rfl | rfl | rfl | rfl | rfl | rfl
          all_goals refine Or.inl ?_
          all_goals refine And.intro (show wfB _ = true from by kernel_rfl) ?_
          all_goals repeat' (first
            | refine Exists.intro _ (And.intro rfl (And.intro (by decide) ?_))
            | (refine Exists.intro pc (Exists.intro nx (Exists.intro [a, b, c, d, e, f', g, h'] (Exists.intro f (Exists.intro r (Exists.intro o (Exists.intro rs (Exists.intro D (Exists.intro A (And.intro hcn (And.intro rfl (And.intro rfl (And.intro rfl (And.intro rfl (And.intro rfl (And.intro rfl (And.intro hin (And.intro (by decide) ?_))))))))))))))))); intro cells' hc'; obtain ⟨rfl, _⟩ := coreC_L hc'; exact And.intro rfl rfl)
            | refine Exists.intro _ (And.intro List.take_length (And.intro rfl (And.intro (closed_bytes _) ?_)))
            | refine And.intro (show wfB _ = true from by kernel_rfl) ?_ | refine And.intro (And.intro rfl rfl) ?_ | exact And.intro rfl rfl | apply HeldC.intro | exact AV.top | (apply HeldF.intro; refine Exists.intro _ (And.intro (by assumption) ?_); refine And.intro (by decide) ?_; exact And.intro rfl rfl) | (refine And.intro (by (refine Exists.intro _ (And.intro (by assumption) ?_); refine And.intro (by decide) ?_; exact And.intro rfl rfl)) ?_) | refine Or.inl ?_
            | refine And.intro ?_ ?_
            | exact Exists.intro _ (And.intro rfl (And.intro rfl rfl))
            | fail)
        · intro vs h hI
          obtain ⟨s, hs, rfl, hh⟩ := hI
          rw [← hs] at hp hl hft
          clear hs
          obtain ⟨q0, q1, q2, q3, q4, q5, q6, q7, hq⟩ := eight hl
          rw [show coreL (if s.did = 5 then nx else s.pc) s.regs = [.v (.int .i64 (if s.did = 5 then nx else s.pc)), .v (.int .i64 q0), .v (.int .i64 q1), .v (.int .i64 q2), .v (.int .i64 q3), .v (.int .i64 q4), .v (.int .i64 q5), .v (.int .i64 q6), .v (.int .i64 q7)] from by rw [hq]; rfl] at hh
          subst hh
          refine Or.inl ?_
          refine And.intro (fun h1 => ?_) (fun h1 => ?_)
          · have h1 : s.did = 5 := by simpa using h1
            obtain ⟨e1, e2⟩ := hft h1
            rw [h1]
            rw [e1, e2, h1] at hp
            exact hp _ (core_pc rfl)
          · have h1 : s.did ≠ 5 := by simpa using h1
            rw [if_neg h1]
            exact hp _ (core_pc hq)
  · exact hp.elim
end Go.Proofs.YtijjonafmmhhbaaGreat.Ab
