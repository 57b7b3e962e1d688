/- Step: what it computes. No condition. -/
import Derived.Test.YtijjonafmmhhbaaGreatTStep1
namespace Go.Proofs.YtijjonafmmhhbaaGreat.Ab
set_option linter.unusedVariables false
set_option linter.unusedSimpArgs false

def eventF (op imm next : Int) : Int × Int := if op = 1 then (1, 0) else if op = 23 then (2, (next + 4 * wideF imm) % 4294967296) else if op = 24 then (3, imm) else if op = 25 then (4, 0) else (0, 0)
def jumpB (op d : Int) : Bool := decide (op = 20 ∨ op = 21 ∧ d = 0 ∨ op = 22 ∧ 2147483648 ≤ d)
def hEvent : CH := fun args hl K => match args, hl with
  | [.agg [.v (.int .i64 op), .v _, .v _, .v (.int .i64 imm)], .v (.int .i64 nx)], [] => 0 ≤ imm ∧ imm ≤ 65535 ∧ 0 ≤ nx ∧ nx ≤ 4294967295 ∧ K (.tup [.v (.int .i64 (eventF op imm nx).1), .v (.int .i64 (eventF op imm nx).2)]) []
  | _, _ => False
def cx_s_l3Event : Ctx := mkC [(42, callM [] false hWide), (37, callM [] false hModW)]
theorem cx_s_l3Event_ok : CtxOk Tryz.prog cx_s_l3Event := mkC_ok (mem1 ⟨s_l3Wide, fnOk Tryz.func42 rfl rfl⟩ (mem1 ⟨s_l1Word, fnOk Tryz.func37 rfl rfl⟩ mem0))
set_option maxRecDepth 100000 in
set_option pp.maxSteps 1500 in
set_option maxHeartbeats 4000000 in
theorem s_l3Event : HSound Tryz.prog 38 (callM [] false hEvent) := by
  refine callM_sound cx_s_l3Event_ok mixed Tryz.func38 rfl fun args hl K hp => ?_
  unfold hEvent at hp
  split at hp
  · rename_i op _ _ imm nx
    obtain ⟨i0, i1, n0, n1, hp⟩ := hp
    have hw := wide_bd i0 i1
    have fin : ∀ x y : Int, eventF op imm nx = (x, y) → K (.tup [.v (.int .i64 x), .v (.int .i64 y)]) [] := fun x y e => by rw [e] at hp; exact hp
    clear hp
    repeat' ((first
      | refine And.intro (fun h2 => ?_) (fun h2 => ?_)
      | refine And.intro i0 (And.intro i1 ?_)
      | refine And.intro (wrap_I64' _) ?_
      | refine And.intro (show Region.lexB _ _ = true from by kernel_rfl) ?_
      | refine fin _ _ ?_
      | fail) <;> try cases h2)
    all_goals clear fin
    all_goals first
      | (obtain rfl : op = 1 := (by simpa using h2); simp [eventF]; done)
      | (obtain rfl : op = 23 := (by simpa using h2); rw [wrap_mod, wrap64 (x := 4 * wideF imm) (by omega)]; simp [eventF]; done)
      | (obtain rfl : op = 24 := (by simpa using h2); simp [eventF]; done)
      | (obtain rfl : op = 25 := (by simpa using h2); simp [eventF]; done)
      | (simp at *; simp [eventF, *]; done)
  · exact hp.elim
def hJumps : CH := fun args hl K => match args, hl with
  | [.agg [.v (.int .i64 op), .v _, .v _, .v _], .v (.int .i64 d)], [] => K (.v (.bool (jumpB op d))) []
  | _, _ => False
def cx_s_l3Jumps : Ctx := mkC []
theorem cx_s_l3Jumps_ok : CtxOk Tryz.prog cx_s_l3Jumps := cx0_ok
set_option maxRecDepth 100000 in
set_option pp.maxSteps 1500 in
set_option maxHeartbeats 4000000 in
theorem s_l3Jumps : HSound Tryz.prog 41 (callM [] false hJumps) := by
  refine callM_sound cx_s_l3Jumps_ok mixed Tryz.func41 rfl fun args hl K hp => ?_
  unfold hJumps at hp
  split at hp
  · repeat' ((first
      | refine And.intro (fun h2 => ?_) (fun h2 => ?_)
      | fail) <;> try cases h2)
    all_goals refine fin_b hp ?_
    all_goals clear hp
    all_goals rw [Bool.eq_iff_iff]
    all_goals simp [jumpB] at *
    all_goals try omega
  · exact hp.elim

structure StepR where
  pc : Int
  regs : List Int
  f : List Int
  r : List Int
  o : List Int
  did : Int
  n : Int
def sizeF (op : Int) : Int := if (op - 14) % 3 = 0 then 1 else if (op - 14) % 3 = 1 then 2 else 4
def memF (op d a imm pc next : Int) (regs f r o : List Int) (rs : List Rg) : StepR :=
  if 17 ≤ op then
    if allowB rs ((regs.getD a.toNat 0 + wideF imm) % 4294967296) (sizeF op) 2 = false then ⟨pc, regs, f, r, o, 5, 5⟩
    else if (writeF f r o ((regs.getD a.toNat 0 + wideF imm) % 4294967296) (sizeF op) (regs.getD d.toNat 0)).2.2 ≠ 0 then ⟨pc, regs, f, r, o, 5, (writeF f r o ((regs.getD a.toNat 0 + wideF imm) % 4294967296) (sizeF op) (regs.getD d.toNat 0)).2.2⟩
    else ⟨next, regs, f, (writeF f r o ((regs.getD a.toNat 0 + wideF imm) % 4294967296) (sizeF op) (regs.getD d.toNat 0)).1, (writeF f r o ((regs.getD a.toNat 0 + wideF imm) % 4294967296) (sizeF op) (regs.getD d.toNat 0)).2.1, 0, 0⟩
  else
    if allowB rs ((regs.getD a.toNat 0 + wideF imm) % 4294967296) (sizeF op) 1 = false then ⟨pc, regs, f, r, o, 5, 5⟩
    else if (readR f r o ((regs.getD a.toNat 0 + wideF imm) % 4294967296) (sizeF op)).2 ≠ 0 then ⟨pc, regs, f, r, o, 5, (readR f r o ((regs.getD a.toNat 0 + wideF imm) % 4294967296) (sizeF op)).2⟩
    else ⟨next, regs.set d.toNat (readR f r o ((regs.getD a.toNat 0 + wideF imm) % 4294967296) (sizeF op)).1, f, r, o, 0, 0⟩
def execF (op d a imm pc next : Int) (regs f r o : List Int) (rs : List Rg) : StepR :=
  if 14 ≤ op ∧ op ≤ 19 then memF op d a imm pc next regs f r o rs
  else if 2 ≤ op ∧ op ≤ 13 then ⟨next, regs.set d.toNat (aluF op imm (regs.getD d.toNat 0) (regs.getD a.toNat 0)), f, r, o, 0, 0⟩
  else ⟨if (eventF op imm next).1 = 0 ∧ jumpB op (regs.getD d.toNat 0) = true then (next + 4 * wideF imm) % 4294967296 else next, regs, f, r, o, (eventF op imm next).1, (eventF op imm next).2⟩
def stepF (pc : Int) (regs f r o : List Int) (rs : List Rg) : StepR :=
  if (coreOk pc regs && memOk f.length r.length o.length) = false then ⟨pc, regs, f, r, o, 5, 2⟩
  else if allowB rs pc 4 3 = false then ⟨pc, regs, f, r, o, 5, 5⟩
  else if (readR f r o pc 4).2 ≠ 0 then ⟨pc, regs, f, r, o, 5, (readR f r o pc 4).2⟩
  else if decOk (readR f r o pc 4).1 = false then ⟨pc, regs, f, r, o, 5, 6⟩
  else execF ((readR f r o pc 4).1 / 67108864) ((readR f r o pc 4).1 / 8388608 % 8) ((readR f r o pc 4).1 / 1048576 % 8) ((readR f r o pc 4).1 % 65536) pc ((pc + 4) % 4294967296) regs f r o rs
def hStep : CH := fun args hl K => match args, hl with
  | [.agg [.v (.int .i64 pc), .imm _ _ 1 R], .agg [.imm _ _ 1 x, .imm _ _ 1 y, .imm _ _ 1 z], .imm _ _ 6 L], [] => ∃ (regs f r o : List Int) (rs : List Rg), R = regs.map intC ∧ x = f.map byteC ∧ y = r.map byteC ∧ z = o.map byteC ∧ L = rs.map regC ∧
      I64 pc ∧ BytesOk f ∧ BytesOk r ∧ BytesOk o ∧ regs.length ≤ 1048576 ∧ f.length ≤ 1048576 ∧ r.length ≤ 1048576 ∧ o.length ≤ 1048576 ∧ rs.length ≤ 1048576 ∧
      K (.tup [.agg [.v (.int .i64 (stepF pc regs f r o rs).pc), .slc 0 0 (stepF pc regs f r o rs).regs.length false], .agg [.slc 1 0 (stepF pc regs f r o rs).f.length false, .slc 2 0 (stepF pc regs f r o rs).r.length false, .slc 3 0 (stepF pc regs f r o rs).o.length false], .v (.int .i64 (stepF pc regs f r o rs).did), .v (.int .i64 (stepF pc regs f r o rs).n)])
        [.lst 1 ((stepF pc regs f r o rs).regs.map intC), .lst 1 ((stepF pc regs f r o rs).f.map byteC), .lst 1 ((stepF pc regs f r o rs).r.map byteC), .lst 1 ((stepF pc regs f r o rs).o.map byteC)]
  | _, _ => False
theorem fin_s {K : AV → HP → Prop} {x : StepR} (s : StepR) {nr : Nat} {L : List (List AV)} {did n p : Int} (hp : K (.tup [.agg [.v (.int .i64 x.pc), .slc 0 0 x.regs.length false], .agg [.slc 1 0 x.f.length false, .slc 2 0 x.r.length false, .slc 3 0 x.o.length false], .v (.int .i64 x.did), .v (.int .i64 x.n)])
    [.lst 1 (x.regs.map intC), .lst 1 (x.f.map byteC), .lst 1 (x.r.map byteC), .lst 1 (x.o.map byteC)]) (h : x = s) (e0 : s.pc = p) (e1 : s.regs.length = nr) (e2 : s.regs.map intC = L) (e3 : s.did = did) (e4 : s.n = n) :
    K (.tup [.agg [.v (.int .i64 p), .slc 0 0 nr false], .agg [.slc 1 0 s.f.length false, .slc 2 0 s.r.length false, .slc 3 0 s.o.length false], .v (.int .i64 did), .v (.int .i64 n)])
    [.lst 1 L, .lst 1 (s.f.map byteC), .lst 1 (s.r.map byteC), .lst 1 (s.o.map byteC)] := by
  subst h e0 e1 e2 e3 e4
  exact hp
theorem closed_setI (bs : List Int) (i : Nat) (v : Int) : ClosedL ((bs.map intC).set i [.v (.int .i64 v)]) := by
  have e : (bs.map intC).set i [.v (.int .i64 v)] = (bs.set i v).map intC := by rw [List.map_set]; rfl
  rw [e]
  intro e he x hx
  obtain ⟨b, _, rfl⟩ := List.mem_map.1 he
  simp [intC] at hx
  subst hx
  rfl
end Go.Proofs.YtijjonafmmhhbaaGreat.Ab
