/- Words for the functions' contracts. No condition. -/
import Derived.Test.YtkbdjhhnpajidaaAbTab
namespace Go.Proofs.Ytkbdjhhnpajidaa.Ab

def cx0 : Ctx := mkC []
theorem cx0_ok : CtxOk Try.prog cx0 := mkC_ok (fun p hp => by cases hp)
theorem fin_b {K : AV → HP → Prop} {h : HP} {x y : Bool} (hp : K (.v (.bool x)) h) (e : x = y) : K (.v (.bool y)) h := e ▸ hp
theorem fin_i {K : AV → HP → Prop} {h : HP} {k : IntKind} {x y : Int} (hp : K (.v (.int k x)) h) (e : x = y) : K (.v (.int k y)) h := e ▸ hp
theorem fin_ib {K : AV → HP → Prop} {h : HP} {k : IntKind} {x y : Int} {p q : Bool} (hp : K (.tup [.v (.int k x), .v (.bool p)]) h) (e : x = y) (e' : p = q) : K (.tup [.v (.int k y), .v (.bool q)]) h := e ▸ e' ▸ hp
theorem wrap64 {x : Int} (h : -9223372036854775808 ≤ x ∧ x ≤ 9223372036854775807) : IntKind.wrap .i64 x = x := by
  simp only [IntKind.wrap, IntKind.bits, IntKind.signed, Bool.true_and]
  split <;> rename_i q <;> simp at q <;> omega
theorem mem1 {p : FuncId × Handler} {l : List (FuncId × Handler)} {Q : FuncId × Handler → Prop} (h1 : Q p) (h2 : ∀ q ∈ l, Q q) : ∀ q ∈ p :: l, Q q := fun q hq => by
  rcases List.mem_cons.1 hq with rfl | hq
  · exact h1
  · exact h2 q hq
theorem mem0 {Q : FuncId × Handler → Prop} : ∀ q ∈ ([] : List (FuncId × Handler)), Q q := fun q hq => by cases hq
end Go.Proofs.Ytkbdjhhnpajidaa.Ab
