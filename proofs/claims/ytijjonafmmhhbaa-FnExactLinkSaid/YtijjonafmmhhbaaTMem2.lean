/- MemOk: both programs answer alike (the structs). No condition. -/
import Derived.Test.YtijjonafmmhhbaaTMem
namespace Go.Proofs.Ytijjonafmmhhbaa.Ab

def cxSz : Ctx := mkC [(108, callM [] true hSzB)]
theorem cxSz_ok : CtxOk Try.prog cxSz := mkC_ok (mem1 ⟨s_szByteS, fnOk Try.func108 rfl rfl⟩ mem0)
def szM (n : Int) (a b c : Nat) : Int := if n - a - b - c < 0 then -1 else n - a - b - c
def hSzM : CH := fun args hl K => match args, hl with
  | [.agg [.imm _ _ 1 a, .imm _ _ 1 b, .imm _ _ 1 c], .v (.int .i64 n)], [] => 0 ≤ n ∧ n ≤ 1048576 ∧ (a.length : Int) ≤ 9223372036854775807 ∧ (b.length : Int) ≤ 9223372036854775807 ∧ (c.length : Int) ≤ 9223372036854775807 ∧ K (.v (.int .i64 (szM n a.length b.length c.length))) []
  | _, _ => False
def hToM : CH := fun args hl K => match args, hl with
  | [.agg [.imm _ _ 1 a, .imm _ _ 1 b, .imm _ _ 1 c]], [] => ∃ as' bs cs : List Int, a = as'.map byteC ∧ b = bs.map byteC ∧ c = cs.map byteC ∧ as'.length ≤ 1048576 ∧ bs.length ≤ 1048576 ∧ cs.length ≤ 1048576 ∧
      K (.agg [.slc 0 0 as'.length false, .slc 1 0 bs.length false, .slc 2 0 cs.length false]) [.lst 1 (as'.map byteC), .lst 1 (bs.map byteC), .lst 1 (cs.map byteC)]
  | _, _ => False
def cxTo : Ctx := mkC [(14, callM [] true hToB)]
theorem cxTo_ok : CtxOk Try.prog cxTo := mkC_ok (mem1 ⟨s_toByteS, fnOk Try.func14 rfl rfl⟩ mem0)
def memOk (a b c : Nat) : Bool := decide (a ≤ 16384 ∧ b ≤ 16384 ∧ c ≤ 5000)
def hMemOk : CH := fun args hl K => match args, hl with
  | [.agg [.imm _ _ 1 a, .imm _ _ 1 b, .imm _ _ 1 c]], [] => K (.v (.bool (memOk a.length b.length c.length))) []
  | _, _ => False
def hEqM : CH := fun args hl K => match args, hl with
  | [.agg [.imm _ _ 1 a, .imm _ _ 1 b, .imm _ _ 1 c], .agg [.imm _ _ 1 a', .imm _ _ 1 b', .imm _ _ 1 c']], [] => ∃ x y z : List Int, a = x.map byteC ∧ b = y.map byteC ∧ c = z.map byteC ∧ a' = x.map byteC ∧ b' = y.map byteC ∧ c' = z.map byteC ∧
      x.length ≤ 1048576 ∧ y.length ≤ 1048576 ∧ z.length ≤ 1048576 ∧ K (.v (.bool true)) []
  | _, _ => False
def cxEq : Ctx := mkC [(16, callM [] true hEqB)]
theorem cxEq_ok : CtxOk Try.prog cxEq := mkC_ok (mem1 ⟨s_eqByteS, fnOk Try.func16 rfl rfl⟩ mem0)
end Go.Proofs.Ytijjonafmmhhbaa.Ab
