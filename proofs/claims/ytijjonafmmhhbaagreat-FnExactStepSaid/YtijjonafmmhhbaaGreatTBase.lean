/- Words for the functions' contracts. No condition. -/
import Derived.Test.YtijjonafmmhhbaaGreatAbTab
namespace Go.Proofs.YtijjonafmmhhbaaGreat.Ab

def cx0 : Ctx := mkC []
theorem cx0_ok : CtxOk Tryz.prog cx0 := mkC_ok (fun p hp => by cases hp)
theorem fin_b {K : AV → HP → Prop} {h : HP} {x y : Bool} (hp : K (.v (.bool x)) h) (e : x = y) : K (.v (.bool y)) h := e ▸ hp
theorem fin_i {K : AV → HP → Prop} {h : HP} {k : IntKind} {x y : Int} (hp : K (.v (.int k x)) h) (e : x = y) : K (.v (.int k y)) h := e ▸ hp
theorem fin_ib {K : AV → HP → Prop} {h : HP} {k : IntKind} {x y : Int} {p q : Bool} (hp : K (.tup [.v (.int k x), .v (.bool p)]) h) (e : x = y) (e' : p = q) : K (.tup [.v (.int k y), .v (.bool q)]) h := e ▸ e' ▸ hp
theorem wrap64 {x : Int} (h : -9223372036854775808 ≤ x ∧ x ≤ 9223372036854775807) : IntKind.wrap .i64 x = x := by
  simp only [IntKind.wrap, IntKind.bits, IntKind.signed, Bool.true_and]
  split <;> rename_i q <;> simp at q <;> omega
theorem wrap_succ {i n : Nat} (h : i < n) (hn : (n : Int) ≤ 9223372036854775807) : IntKind.wrap .i64 ((i : Int) + 1) = ((i + 1 : Nat) : Int) := by
  rw [wrap64] <;> omega
theorem int_nat {z : Int} (h : 0 ≤ z) : z = (z.toNat : Int) := (Int.toNat_of_nonneg h).symm
theorem mem1 {p : FuncId × Handler} {l : List (FuncId × Handler)} {Q : FuncId × Handler → Prop} (h1 : Q p) (h2 : ∀ q ∈ l, Q q) : ∀ q ∈ p :: l, Q q := fun q hq => by
  rcases List.mem_cons.1 hq with rfl | hq
  · exact h1
  · exact h2 q hq
theorem mem0 {Q : FuncId × Handler → Prop} : ∀ q ∈ ([] : List (FuncId × Handler)), Q q := fun q hq => by cases hq
theorem take_full {α : Type} {L : List α} {n : Nat} (h : L.length = n) : L.take n = L := by subst h; simp
theorem take_all {α : Type} (l : List α) : l = (l.drop 0).take l.length := by simp
theorem take_step {α : Type} {cs bs : List α} {i : Nat} {a : α} (h : cs.take i = bs.take i) (h1 : cs[i]? = some a) (h2 : bs[i]? = some a) : cs.take (i + 1) = bs.take (i + 1) := by
  rw [List.take_add_one, List.take_add_one, h, h1, h2]
/-- One more element of a list that is being filled. -/
theorem fill_step {α : Type} (f : α → List AV) (z : List AV) (bs : List α) (i : Nat) (b : α) (h : bs[i]? = some b) : ((bs.take i).map f ++ List.replicate (bs.length - i) z).set i (f b) = (bs.take (i + 1)).map f ++ List.replicate (bs.length - (i + 1)) z := by
  have hi := (List.getElem?_eq_some_iff.1 h).1
  have hb := (List.getElem?_eq_some_iff.1 h).2
  have e : bs.length - i = (bs.length - (i + 1)) + 1 := by omega
  rw [e, List.replicate_succ, List.set_append_right _ _ (by simp; omega)]
  rw [show i - ((bs.take i).map f).length = 0 by simp; omega]
  rw [List.take_succ_eq_append_getElem hi, hb]
  simp
theorem closed_nil : ClosedL [] := by intro e he; cases he
theorem closed_bytes (bs : List Int) : ClosedL (bs.map byteC) := by
  intro e he x hx
  obtain ⟨b, _, rfl⟩ := List.mem_map.1 he
  simp [byteC] at hx
  subst hx
  rfl
theorem lendB (bs : List Int) : List.take bs.length (List.drop 0 (bs.map byteC)) = bs.map byteC := by rw [List.drop_zero, ← List.length_map (f := byteC), List.take_length]
theorem lenB (bs : List Int) : (bs.map byteC).length = bs.length := List.length_map _
theorem bytes_notSl (bs : List Int) : ∀ e ∈ bs.map byteC, ∀ x ∈ e, x.isSl = false := by
  intro e he x hx
  obtain ⟨b, _, rfl⟩ := List.mem_map.1 he
  simp [byteC] at hx
  subst hx
  rfl
theorem bytes_list {P : Program} {t : TypeId} {n : Nat} (hu : P.underlying t = some (.int .u8)) : ∀ (ll : List (List AV)), (∀ el ∈ ll, Sh P (n + 1) t el) → ∃ bs : List Int, ll = bs.map byteC
  | [], _ => ⟨[], rfl⟩
  | el :: ll, h => by
    obtain ⟨bs, rfl⟩ := bytes_list hu ll (fun e he => h e (List.mem_cons_of_mem _ he))
    have := h el List.mem_cons_self
    simp only [Sh, hu] at this
    obtain ⟨m, rfl, _⟩ := this
    exact ⟨m :: bs, rfl⟩
theorem or64 (q y k : Nat) (hy : y < 2 ^ k) (hq : q * 2 ^ k + y < 9223372036854775808) : IntKind.i64.wrap ((BitVec.ofInt IntKind.i64.bits ((q * 2 ^ k : Nat) : Int) ||| BitVec.ofInt IntKind.i64.bits (y : Int)).toNat : Nat) = ((q * 2 ^ k + y : Nat) : Int) := by
  have h1 : (BitVec.ofInt IntKind.i64.bits ((q * 2 ^ k : Nat) : Int)).toNat = q * 2 ^ k := by
    rw [BitVec.ofInt_natCast, BitVec.toNat_ofNat]
    exact Nat.mod_eq_of_lt (by simp only [IntKind.bits]; omega)
  have h2 : (BitVec.ofInt IntKind.i64.bits (y : Int)).toNat = y := by
    rw [BitVec.ofInt_natCast, BitVec.toNat_ofNat]
    exact Nat.mod_eq_of_lt (by simp only [IntKind.bits]; omega)
  rw [BitVec.toNat_or, h1, h2, ← Nat.shiftLeft_eq, ← Nat.shiftLeft_add_eq_or_of_lt hy, Nat.shiftLeft_eq]
  exact wrap64 (by omega)

theorem and64 (x k m : Nat) (hx : x < 9223372036854775808) (hm : m + 1 = 2 ^ k) (hk : m < 9223372036854775808) : IntKind.i64.wrap ((BitVec.ofInt IntKind.i64.bits (x : Int) &&& BitVec.ofInt IntKind.i64.bits (m : Int)).toNat : Nat) = ((x % 2 ^ k : Nat) : Int) := by
  have h1 : (BitVec.ofInt IntKind.i64.bits (x : Int)).toNat = x := by
    rw [BitVec.ofInt_natCast, BitVec.toNat_ofNat]
    exact Nat.mod_eq_of_lt (by simp only [IntKind.bits]; omega)
  have h2 : (BitVec.ofInt IntKind.i64.bits (m : Int)).toNat = 2 ^ k - 1 := by
    rw [BitVec.ofInt_natCast, BitVec.toNat_ofNat, Nat.mod_eq_of_lt (by simp only [IntKind.bits]; omega)]
    omega
  rw [BitVec.toNat_and, h1, h2, Nat.and_two_pow_sub_one_eq_mod]
  have := Nat.mod_le x (2 ^ k)
  exact wrap64 (by omega)

theorem orI {x y : Int} (k : Nat) (hx : ∃ q : Nat, x = ((q * 2 ^ k : Nat) : Int)) (h0 : 0 ≤ y) (hy : y < ((2 ^ k : Nat) : Int)) (hs : x + y < 9223372036854775808) : IntKind.i64.wrap ((BitVec.ofInt IntKind.i64.bits x ||| BitVec.ofInt IntKind.i64.bits y).toNat : Nat) = x + y := by
  obtain ⟨q, rfl⟩ := hx
  obtain ⟨n, rfl⟩ := Int.eq_ofNat_of_zero_le h0
  rw [or64 q n k (by omega) (by omega)]
  omega
end Go.Proofs.YtijjonafmmhhbaaGreat.Ab
