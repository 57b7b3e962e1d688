/- Functions walked, part 1. No condition. -/
import Derived.Test.YtbfjkjdbdejnmaaGreatAbTab
set_option linter.unusedVariables false
set_option linter.unusedSimpArgs false
/- Words for the functions' contracts. No condition. -/
namespace Go.Proofs.YtbfjkjdbdejnmaaGreat.Ab

def cx0 : Ctx := mkC []
theorem cx0_ok : CtxOk Tryz.prog cx0 := mkC_ok (fun p hp => by cases hp)
theorem fin_b {K : AV → HP → Prop} {h : HP} {x y : Bool} (hp : K (.v (.bool x)) h) (e : x = y) : K (.v (.bool y)) h := e ▸ hp
theorem fin_i {K : AV → HP → Prop} {h : HP} {k : IntKind} {x y : Int} (hp : K (.v (.int k x)) h) (e : x = y) : K (.v (.int k y)) h := e ▸ hp
theorem wrap64 {x : Int} (h : -9223372036854775808 ≤ x ∧ x ≤ 9223372036854775807) : IntKind.wrap .i64 x = x := by
  simp only [IntKind.wrap, IntKind.bits, IntKind.signed, Bool.true_and]
  split <;> rename_i q <;> simp at q <;> omega
theorem wrap_succ {i n : Nat} (h : i < n) (hn : (n : Int) ≤ 9223372036854775807) : IntKind.wrap .i64 ((i : Int) + 1) = ((i + 1 : Nat) : Int) := by
  rw [wrap64] <;> omega
theorem int_nat {z : Int} (h : 0 ≤ z) : z = (z.toNat : Int) := (Int.toNat_of_nonneg h).symm
theorem mem1 {p : FuncId × Handler} {l : List (FuncId × Handler)} {Q : FuncId × Handler → Prop} (h1 : Q p) (h2 : ∀ q ∈ l, Q q) : ∀ q ∈ p :: l, Q q := fun q hq => by
  rcases List.mem_cons.1 hq with rfl | hq
  · exact h1
  · exact h2 q hq
theorem mem0 {Q : FuncId × Handler → Prop} : ∀ q ∈ ([] : List (FuncId × Handler)), Q q := fun q hq => by cases hq
theorem take_step {α : Type} {cs bs : List α} {i : Nat} {a : α} (h : cs.take i = bs.take i) (h1 : cs[i]? = some a) (h2 : bs[i]? = some a) : cs.take (i + 1) = bs.take (i + 1) := by
  rw [List.take_add_one, List.take_add_one, h, h1, h2]
/-- One more element of a list that is being filled. -/
theorem fill_step {α : Type} (f : α → List AV) (z : List AV) (bs : List α) (i : Nat) (b : α) (h : bs[i]? = some b) : ((bs.take i).map f ++ List.replicate (bs.length - i) z).set i (f b) = (bs.take (i + 1)).map f ++ List.replicate (bs.length - (i + 1)) z := by
  have hi := (List.getElem?_eq_some_iff.1 h).1
  have hb := (List.getElem?_eq_some_iff.1 h).2
  have e : bs.length - i = (bs.length - (i + 1)) + 1 := by omega
  rw [e, List.replicate_succ, List.set_append_right _ _ (by simp; omega)]
  rw [show i - ((bs.take i).map f).length = 0 by simp; omega]
  rw [List.take_succ_eq_append_getElem hi, hb]
  simp
theorem closed_nil : ClosedL [] := by intro e he; cases he
theorem closed_bytes (bs : List Int) : ClosedL (bs.map byteC) := by
  intro e he x hx
  obtain ⟨b, _, rfl⟩ := List.mem_map.1 he
  simp [byteC] at hx
  subst hx
  rfl
theorem lenB (bs : List Int) : (bs.map byteC).length = bs.length := List.length_map _
theorem bytes_notSl (bs : List Int) : ∀ e ∈ bs.map byteC, ∀ x ∈ e, x.isSl = false := by
  intro e he x hx
  obtain ⟨b, _, rfl⟩ := List.mem_map.1 he
  simp [byteC] at hx
  subst hx
  rfl
theorem or64 (q y k : Nat) (hy : y < 2 ^ k) (hq : q * 2 ^ k + y < 9223372036854775808) : IntKind.i64.wrap ((BitVec.ofInt IntKind.i64.bits ((q * 2 ^ k : Nat) : Int) ||| BitVec.ofInt IntKind.i64.bits (y : Int)).toNat : Nat) = ((q * 2 ^ k + y : Nat) : Int) := by
  have h1 : (BitVec.ofInt IntKind.i64.bits ((q * 2 ^ k : Nat) : Int)).toNat = q * 2 ^ k := by
    rw [BitVec.ofInt_natCast, BitVec.toNat_ofNat]
    exact Nat.mod_eq_of_lt (by simp only [IntKind.bits]; omega)
  have h2 : (BitVec.ofInt IntKind.i64.bits (y : Int)).toNat = y := by
    rw [BitVec.ofInt_natCast, BitVec.toNat_ofNat]
    exact Nat.mod_eq_of_lt (by simp only [IntKind.bits]; omega)
  rw [BitVec.toNat_or, h1, h2, ← Nat.shiftLeft_eq, ← Nat.shiftLeft_add_eq_or_of_lt hy, Nat.shiftLeft_eq]
  exact wrap64 (by omega)

theorem and64 (x k m : Nat) (hx : x < 9223372036854775808) (hm : m + 1 = 2 ^ k) (hk : m < 9223372036854775808) : IntKind.i64.wrap ((BitVec.ofInt IntKind.i64.bits (x : Int) &&& BitVec.ofInt IntKind.i64.bits (m : Int)).toNat : Nat) = ((x % 2 ^ k : Nat) : Int) := by
  have h1 : (BitVec.ofInt IntKind.i64.bits (x : Int)).toNat = x := by
    rw [BitVec.ofInt_natCast, BitVec.toNat_ofNat]
    exact Nat.mod_eq_of_lt (by simp only [IntKind.bits]; omega)
  have h2 : (BitVec.ofInt IntKind.i64.bits (m : Int)).toNat = 2 ^ k - 1 := by
    rw [BitVec.ofInt_natCast, BitVec.toNat_ofNat, Nat.mod_eq_of_lt (by simp only [IntKind.bits]; omega)]
    omega
  rw [BitVec.toNat_and, h1, h2, Nat.and_two_pow_sub_one_eq_mod]
  have := Nat.mod_le x (2 ^ k)
  exact wrap64 (by omega)

theorem orI {x y : Int} (k : Nat) (hx : ∃ q : Nat, x = ((q * 2 ^ k : Nat) : Int)) (h0 : 0 ≤ y) (hy : y < ((2 ^ k : Nat) : Int)) (hs : x + y < 9223372036854775808) : IntKind.i64.wrap ((BitVec.ofInt IntKind.i64.bits x ||| BitVec.ofInt IntKind.i64.bits y).toNat : Nat) = x + y := by
  obtain ⟨q, rfl⟩ := hx
  obtain ⟨n, rfl⟩ := Int.eq_ofNat_of_zero_le h0
  rw [or64 q n k (by omega) (by omega)]
  omega
end Go.Proofs.YtbfjkjdbdejnmaaGreat.Ab

/- Encode: both programs answer alike. No condition. -/
namespace Go.Proofs.YtbfjkjdbdejnmaaGreat.Ab

end Go.Proofs.YtbfjkjdbdejnmaaGreat.Ab

/- Decode: both programs answer alike. No condition. -/
namespace Go.Proofs.YtbfjkjdbdejnmaaGreat.Ab

def hWord : CH := fun args hl K => match args, hl with
  | [.v (.int .i64 w)], [] => K (.v (.bool (decide (0 ≤ w ∧ w ≤ 4294967295)))) []
  | _, _ => False
set_option maxRecDepth 100000 in
theorem s_isWord : HSound Tryz.prog 162 (callM [] false hWord) := by
  refine callM_sound cx0_ok mixed Tryz.func162 rfl fun args hl K hp => ?_
  unfold hWord at hp
  split at hp
  · repeat' ((first | refine And.intro (fun h1 => ?_) (fun h1 => ?_) | refine And.intro (by decide) ?_ | refine And.intro (show wfB _ = true from by kernel_rfl) ?_ | refine And.intro (And.intro rfl rfl) ?_ | exact And.intro rfl rfl | apply HeldC.intro | exact AV.top | (apply HeldF.intro; refine Exists.intro _ (And.intro (by assumption) ?_); refine And.intro (by decide) ?_; exact And.intro rfl rfl) | (refine And.intro (by (refine Exists.intro _ (And.intro (by assumption) ?_); refine And.intro (by decide) ?_; exact And.intro rfl rfl)) ?_) | refine Or.inl ?_) <;> try cases h1)
    all_goals refine fin_b hp ?_
    all_goals clear hp
    all_goals rw [Bool.eq_iff_iff]
    all_goals simp only [decide_eq_true_eq, decide_eq_false_iff_not, reduceCtorEq, iff_false, iff_true] at *
    all_goals omega
  · exact hp.elim

end Go.Proofs.YtbfjkjdbdejnmaaGreat.Ab

/- What a law's arguments are, for the types at hand. No condition. -/
namespace Go.Proofs.YtbfjkjdbdejnmaaGreat.Ab
set_option maxRecDepth 100000

def BytesOk (bs : List Int) : Prop := ∀ b ∈ bs, 0 ≤ b ∧ b ≤ 255
def I64 (n : Int) : Prop := -9223372036854775808 ≤ n ∧ n ≤ 9223372036854775807
theorem wf_i64 {n : Int} (h : (Lit.int .i64 n).wf = true) : I64 n := by
  simpa [Lit.wf, IntKind.min, IntKind.max, IntKind.bits, IntKind.signed, I64] using h
theorem wf_u8 {n : Int} (h : (Lit.int .u8 n).wf = true) : 0 ≤ n ∧ n ≤ 255 := by
  simpa [Lit.wf, IntKind.min, IntKind.max, IntKind.bits, IntKind.signed] using h
theorem bytes_sh {P : Program} {t : TypeId} {n : Nat} (hu : P.underlying t = some (.int .u8)) : ∀ (ll : List (List AV)), (∀ el ∈ ll, Sh P (n + 1) t el) → ∃ bs : List Int, ll = bs.map byteC ∧ BytesOk bs
  | [], _ => ⟨[], rfl, fun _ h => by cases h⟩
  | el :: ll, h => by
    obtain ⟨bs, rfl, hb⟩ := bytes_sh hu ll (fun e he => h e (List.mem_cons_of_mem _ he))
    have := h el List.mem_cons_self
    simp only [Sh, hu] at this
    obtain ⟨m, rfl, hw⟩ := this
    refine ⟨m :: bs, rfl, fun b hb' => ?_⟩
    rcases List.mem_cons.1 hb' with rfl | h2
    · exact wf_u8 hw
    · exact hb b h2
theorem sh_byteS {n : Nat} {t : TypeId} {c : List AV} (ht : Tryz.prog.underlying t = some (.slice 5)) (hs : Sh Tryz.prog (n + 2) t c) : ∃ bs, c = [.sl 1 (bs.map byteC)] ∧ BytesOk bs ∧ bs.length ≤ maxLen := by
  have h5 : Tryz.prog.cellsOf 5 = 1 := by kernel_rfl
  unfold Sh at hs
  simp only [ht, h5] at hs
  obtain ⟨l1, rfl, t1, _, m1⟩ := hs
  obtain ⟨a, rfl, ha⟩ := bytes_sh Tryz.underlying5 l1 t1
  exact ⟨a, rfl, ha, by simpa using m1⟩
end Go.Proofs.YtbfjkjdbdejnmaaGreat.Ab

/- The reader of drawn bytes. No condition. -/
namespace Go.Proofs.YtbfjkjdbdejnmaaGreat.Ab

end Go.Proofs.YtbfjkjdbdejnmaaGreat.Ab

/- Ins: the law of instructions. No condition. -/
namespace Go.Proofs.YtbfjkjdbdejnmaaGreat.Ab

def intC (b : Int) : List AV := [.v (.int .i64 b)]
end Go.Proofs.YtbfjkjdbdejnmaaGreat.Ab

/- RegionOk: both programs answer alike. No condition. -/
namespace Go.Proofs.YtbfjkjdbdejnmaaGreat.Ab

/-- The power of two, up to 62. -/
def hPw : CH := fun args hl K => match args, hl with
  | [.v (.int .i64 n)], [] => 0 ≤ n ∧ n ≤ 62 ∧ K (.v (.int .i64 (2 ^ n.toNat))) []
  | _, _ => False
theorem pow_le {i N : Nat} (h : i ≤ N) : (2 : Int) ^ i ≤ 2 ^ N := by
  have := Nat.pow_le_pow_right (n := 2) (by omega) h
  have h2 : ((2 ^ i : Nat) : Int) ≤ ((2 ^ N : Nat) : Int) := by omega
  simpa using h2
set_option maxRecDepth 100000 in
theorem s_l2Pow2 : HSound Tryz.prog 227 (callM [] false hPw) := by
  refine callM_sound cx0_ok mixed Tryz.func227 rfl fun args hl K hp => ?_
  unfold hPw at hp
  split at hp
  · rename_i n
    obtain ⟨h0, h1, hp⟩ := hp
    obtain ⟨N, rfl⟩ := Int.eq_ofNat_of_zero_le h0
    refine Exists.intro false (Exists.intro [0, 3, 4] (Exists.intro (fun m vs h => ∃ i : Nat, i ≤ N ∧ m = N - i ∧ vs = [.v (.int .i64 N), .v (.int .i64 (2 ^ i)), .v (.int .i64 i)] ∧ h = []) (And.intro ?_ ?_)))
    · refine Exists.intro N ?_
      exact ⟨0, by omega, rfl, rfl, rfl⟩
    · intro m vs h hI
      obtain ⟨i, hi, rfl, rfl, rfl⟩ := hI
      refine And.intro (fun h1 => ?_) (fun h1 => ?_)
      · simp only [decide_eq_true_eq] at h1
        refine Exists.intro (N - (i + 1)) (And.intro (by omega) ?_)
        refine ⟨i + 1, by omega, rfl, ?_, rfl⟩
        have := pow_le (show i + 1 ≤ 62 by omega)
        have hpos : (0 : Int) < 2 ^ i := Int.pow_pos (by omega)
        have hw1 : IntKind.wrap .i64 ((2 : Int) ^ i * 2) = 2 ^ (i + 1) := by
          rw [← Int.pow_succ]
          refine wrap64 ⟨?_, ?_⟩
          · have hpos' : (0 : Int) < 2 ^ (i + 1) := Int.pow_pos (by omega)
            omega
          · have h62 : (2 : Int) ^ 62 = 4611686018427387904 := by decide
            omega
        have hw2 : IntKind.wrap .i64 ((i : Int) + 1) = ((i + 1 : Nat) : Int) := by
          rw [wrap64] <;> omega
        rw [← hw1, ← hw2]
      · simp only [decide_eq_false_iff_not] at h1
        have : i = N := by omega
        subst this
        exact hp
  · exact hp.elim

def regOk (a b c : Int) : Bool := decide (5 ≤ b ∧ b ≤ 14 ∧ 0 ≤ c ∧ c ≤ 255 ∧ (b < 8 → c = 0) ∧ 0 ≤ a ∧ a ≤ 262144 - 2 ^ b.toNat ∧ a.tmod (2 ^ b.toNat) = 0)
def hReg : CH := fun args hl K => match args, hl with
  | [.agg [.v (.int .i64 a), .v (.int .i64 b), .v (.int .i64 c), .v _, .v _, .v _]], [] => K (.v (.bool (regOk a b c))) []
  | _, _ => False
def cxReg : Ctx := mkC [(227, callM [] false hPw)]
theorem cxReg_ok : CtxOk Tryz.prog cxReg := mkC_ok (mem1 ⟨s_l2Pow2, fnOk Tryz.func227 rfl rfl⟩ mem0)
theorem pow14 {b : Int} (h1 : 5 ≤ b) (h2 : b ≤ 14) : (32 : Int) ≤ 2 ^ b.toNat ∧ (2 : Int) ^ b.toNat ≤ 16384 := by
  have hb : b.toNat ≤ 14 := by omega
  have hb' : 5 ≤ b.toNat := by omega
  exact ⟨pow_le hb', pow_le hb⟩
set_option maxRecDepth 100000 in
set_option maxHeartbeats 1000000 in
theorem s_spec_RegionOk : HSound Tryz.prog 228 (callM [] false hReg) := by
  refine callM_sound cxReg_ok mixed Tryz.func228 rfl fun args hl K hp => ?_
  unfold hReg at hp
  split at hp
  · rename_i a b c _ _ _
    repeat' ((first | refine And.intro (fun h1 => ?_) (fun h1 => ?_) | refine And.intro (by simp only [decide_eq_true_eq, decide_eq_false_iff_not] at *; omega) ?_ | refine And.intro (by simp only [decide_eq_true_eq, decide_eq_false_iff_not] at *; have := pow14 (b := b) (by omega) (by omega); omega) ?_) <;> try cases h1)
    all_goals refine fin_b hp ?_
    all_goals clear hp
    all_goals first
      | (simp only [regOk, decide_eq_true_eq, decide_eq_false_iff_not, ne_eq] at *; omega)
      | (simp only [decide_eq_true_eq, decide_eq_false_iff_not] at *
         have hq := pow14 (b := b) (by omega) (by omega)
         have hw := wrap64 (x := 262144 - 2 ^ b.toNat) (by omega)
         rw [Bool.eq_iff_iff]
         simp only [regOk]
         generalize IntKind.i64.wrap (262144 - 2 ^ b.toNat) = ws at *
         generalize (2 : Int) ^ b.toNat = s at *
         generalize a.tmod s = r at *
         simp at *
         omega)
  · exact hp.elim
theorem shl14 {b : Int} (h1 : 5 ≤ b) (h2 : b ≤ 14) : IntKind.i64.wrap (1 * 2 ^ min b.toNat IntKind.i64.bits) = 2 ^ b.toNat := by
  have hq := pow14 h1 h2
  have : min b.toNat IntKind.i64.bits = b.toNat := by simp only [IntKind.bits]; omega
  rw [this, Int.one_mul]
  exact wrap64 (by omega)
set_option maxRecDepth 100000 in
set_option maxHeartbeats 1000000 in
theorem s_impl_RegionOk : HSound Tryz.prog 239 (callM [] false hReg) := by
  refine callM_sound cx0_ok mixed Tryz.func239 rfl fun args hl K hp => ?_
  unfold hReg at hp
  split at hp
  · rename_i a b c _ _ _
    repeat' ((first | refine And.intro (fun h1 => ?_) (fun h1 => ?_) | refine And.intro (by simp only [decide_eq_true_eq, decide_eq_false_iff_not] at *; omega) ?_ | refine And.intro (by simp only [decide_eq_true_eq, decide_eq_false_iff_not] at *; have := pow14 (b := b) (by omega) (by omega); rw [shl14 (by omega) (by omega)]; omega) ?_) <;> try cases h1)
    all_goals refine fin_b hp ?_
    all_goals clear hp
    all_goals first
      | (simp only [regOk, decide_eq_true_eq, decide_eq_false_iff_not, ne_eq] at *; omega)
      | (simp only [decide_eq_true_eq, decide_eq_false_iff_not] at *
         have hq := pow14 (b := b) (by omega) (by omega)
         have hs := shl14 (b := b) (by omega) (by omega)
         have hw := wrap64 (x := 262144 - 2 ^ b.toNat) (by omega)
         rw [Bool.eq_iff_iff]
         simp only [regOk]
         generalize IntKind.i64.wrap (1 * 2 ^ min b.toNat IntKind.i64.bits) = ss at *
         subst hs
         generalize IntKind.i64.wrap (262144 - 2 ^ b.toNat) = ws at *
         generalize (2 : Int) ^ b.toNat = s at *
         generalize a.tmod s = r at *
         simp at *
         omega)
  · exact hp.elim

end Go.Proofs.YtbfjkjdbdejnmaaGreat.Ab

/- Byte slices: size, copy, compare. No condition. -/
namespace Go.Proofs.YtbfjkjdbdejnmaaGreat.Ab

def szB (n : Int) (l : Nat) : Int := if n - l < 0 then -1 else n - l
def hSzB : CH := fun args hl K => match args, hl with
  | [.imm _ _ 1 l, .v (.int .i64 n)], [] => 0 ≤ n ∧ n ≤ 1048576 ∧ (l.length : Int) ≤ 9223372036854775807 ∧ K (.v (.int .i64 (szB n l.length))) []
  | _, _ => False
set_option maxRecDepth 100000 in
theorem s_szByteS : HSound Tryz.prog 83 (callM [] true hSzB) := by
  refine callM_sound cx0_ok mixed Tryz.func83 rfl fun args hl K hp => ?_
  unfold hSzB at hp
  split at hp
  · rename_i l n
    obtain ⟨h0, h1, h2, hp⟩ := hp
    have hw : IntKind.i64.wrap (n - l.length) = n - l.length := wrap64 (by omega)
    repeat' ((first | refine And.intro (fun h1 => ?_) (fun h1 => ?_) | refine And.intro (by decide) ?_ | refine And.intro (show wfB _ = true from by kernel_rfl) ?_ | refine And.intro (And.intro rfl rfl) ?_ | exact And.intro rfl rfl | apply HeldC.intro | exact AV.top | (apply HeldF.intro; refine Exists.intro _ (And.intro (by assumption) ?_); refine And.intro (by decide) ?_; exact And.intro rfl rfl) | (refine And.intro (by (refine Exists.intro _ (And.intro (by assumption) ?_); refine And.intro (by decide) ?_; exact And.intro rfl rfl)) ?_) | refine Or.inl ?_) <;> try cases h1)
    all_goals refine fin_i hp ?_
    all_goals clear hp
    all_goals rw [hw] at *
    all_goals simp only [szB, decide_eq_true_eq, decide_eq_false_iff_not] at *
    all_goals split <;> omega
  · exact hp.elim

def hToB : CH := fun args hl K => match args, hl with
  | [.imm _ _ 1 l], [] => ∃ bs : List Int, l = bs.map byteC ∧ bs.length ≤ 1048576 ∧ K (.slc 0 0 bs.length false) [.lst 1 (bs.map byteC)]
  | _, _ => False
set_option maxRecDepth 100000 in
theorem s_toByteS : HSound Tryz.prog 96 (callM [] true hToB) := by
  refine callM_sound cx0_ok mixed Tryz.func96 rfl fun args hl K hp => ?_
  unfold hToB at hp
  split at hp
  · rename_i t z l
    obtain ⟨bs, rfl, hb, hp⟩ := hp
    refine Or.inl ?_
    refine Exists.intro bs.length (And.intro (by simp) (And.intro (by simp) (And.intro (by simp only; omega) ?_)))
    refine Exists.intro false (Exists.intro [0, 3, 4] (Exists.intro (fun m vs h => ∃ i : Nat, i ≤ bs.length ∧ m = bs.length - i ∧ vs = [.imm t z 1 (bs.map byteC), .slc 0 0 bs.length true, .v (.int .i64 i)] ∧ h = [.lst 1 ((bs.take i).map byteC ++ List.replicate (bs.length - i) (byteC 0))]) (And.intro ?_ ?_)))
    · refine Exists.intro bs.length ?_
      exact ⟨0, by omega, rfl, rfl, rfl⟩
    · intro m vs h hI
      obtain ⟨i, hi, rfl, rfl, rfl⟩ := hI
      refine And.intro (fun h1 => ?_) (fun h1 => ?_)
      · simp only [decide_eq_true_eq, List.length_map] at h1
        have hlt : i < bs.length := by omega
        obtain ⟨b, hbi⟩ : ∃ b, bs[i]? = some b := ⟨_, List.getElem?_eq_getElem hlt⟩
        refine Exists.intro i (And.intro rfl (Exists.intro (byteC b) (And.intro (by simp [hbi]) ?_)))
        refine Exists.intro i (And.intro rfl (And.intro hlt ?_))
        refine Exists.intro (byteC 0) (And.intro (by rw [Nat.zero_add, List.getElem?_append_right (by simp; omega), List.getElem?_replicate, if_pos (by simp; omega)]) (And.intro (by decide) ?_))
        refine Exists.intro (bs.length - (i + 1)) (And.intro (by omega) ?_)
        refine ⟨i + 1, by omega, rfl, ?_, ?_⟩
        · rw [← wrap_succ hlt (by omega)]
        · rw [← fill_step byteC (byteC 0) bs i b hbi, Nat.zero_add]
          rfl
      · simp only [decide_eq_false_iff_not, List.length_map] at h1
        have : i = bs.length := by omega
        subst this
        have e : (bs.take bs.length).map byteC ++ List.replicate (bs.length - bs.length) (byteC 0) = bs.map byteC := by simp
        rw [← e] at hp
        refine And.intro (e ▸ closed_bytes bs) ?_
        exact hp
  · exact hp.elim

def hEqB : CH := fun args hl K => match args, hl with
  | [.imm _ _ 1 l, .imm _ _ 1 r], [] => ∃ cs bs : List Int, l = cs.map byteC ∧ r = bs.map byteC ∧ cs.length ≤ 1048576 ∧ K (.v (.bool (decide (cs = bs)))) []
  | _, _ => False
set_option maxRecDepth 100000 in
theorem s_eqByteS : HSound Tryz.prog 54 (callM [] true hEqB) := by
  refine callM_sound cx0_ok mixed Tryz.func54 rfl fun args hl K hp => ?_
  unfold hEqB at hp
  split at hp
  · rename_i t z l t' z' r
    obtain ⟨cs, bs, rfl, rfl, hb, hp⟩ := hp
    refine And.intro (fun h1 => ?_) (fun h1 => ?_)
    · refine fin_b hp ?_
      have : cs ≠ bs := by rintro rfl; simp at h1
      simp [this]
    · have hlen : cs.length = bs.length := by simp at h1; omega
      clear h1
      refine Exists.intro false (Exists.intro [0, 1, 5] (Exists.intro (fun m vs h => ∃ i : Nat, i ≤ cs.length ∧ m = cs.length - i ∧ vs = [.imm t z 1 (cs.map byteC), .imm t' z' 1 (bs.map byteC), .v (.int .i64 i)] ∧ h = [] ∧ cs.take i = bs.take i) (And.intro ?_ ?_)))
      · refine Exists.intro cs.length ?_
        exact ⟨0, by omega, rfl, rfl, rfl, rfl⟩
      · intro m vs h hI
        obtain ⟨i, hi, rfl, rfl, rfl, htk⟩ := hI
        refine And.intro (fun h1 => ?_) (fun h1 => ?_)
        · simp only [decide_eq_true_eq, List.length_map] at h1
          have hlt : i < cs.length := by omega
          obtain ⟨a, hai⟩ : ∃ a, cs[i]? = some a := ⟨_, List.getElem?_eq_getElem hlt⟩
          obtain ⟨b, hbi⟩ : ∃ b, bs[i]? = some b := ⟨_, List.getElem?_eq_getElem (by omega)⟩
          refine And.intro (by kernel_rfl) ?_
          refine Exists.intro i (And.intro rfl (Exists.intro (byteC a) (And.intro (by simp [hai]) ?_)))
          refine Exists.intro i (And.intro rfl (Exists.intro (byteC b) (And.intro (by simp [hbi]) ?_)))
          refine And.intro (fun h1 => ?_) (fun h1 => ?_)
          · refine fin_b hp ?_
            have : cs ≠ bs := by
              rintro rfl
              rw [hai] at hbi
              cases hbi
              simp at h1
            simp [this]
          · have hab : a = b := by simpa using h1
            subst hab
            refine Exists.intro (cs.length - (i + 1)) (And.intro (by omega) ?_)
            refine ⟨i + 1, by omega, rfl, ?_, rfl, take_step htk hai hbi⟩
            have hw2 : IntKind.wrap .i64 ((i : Int) + 1) = ((i + 1 : Nat) : Int) := by
              rw [wrap64] <;> omega
            rw [← hw2]
        · simp only [decide_eq_false_iff_not, List.length_map] at h1
          refine fin_b hp ?_
          have : cs = bs := by
            have e1 : cs.take i = cs := List.take_of_length_le (by omega)
            have e2 : bs.take i = bs := List.take_of_length_le (by omega)
            rw [← e1, htk, e2]
          simp [this]
  · exact hp.elim
end Go.Proofs.YtbfjkjdbdejnmaaGreat.Ab

/- MemOk: both programs answer alike (the structs). No condition. -/
namespace Go.Proofs.YtbfjkjdbdejnmaaGreat.Ab

def cxSz : Ctx := mkC [(83, callM [] true hSzB)]
theorem cxSz_ok : CtxOk Tryz.prog cxSz := mkC_ok (mem1 ⟨s_szByteS, fnOk Tryz.func83 rfl rfl⟩ mem0)
def szM (n : Int) (a b c : Nat) : Int := if n - a - b - c < 0 then -1 else n - a - b - c
def hSzM : CH := fun args hl K => match args, hl with
  | [.agg [.imm _ _ 1 a, .imm _ _ 1 b, .imm _ _ 1 c], .v (.int .i64 n)], [] => 0 ≤ n ∧ n ≤ 1048576 ∧ (a.length : Int) ≤ 9223372036854775807 ∧ (b.length : Int) ≤ 9223372036854775807 ∧ (c.length : Int) ≤ 9223372036854775807 ∧ K (.v (.int .i64 (szM n a.length b.length c.length))) []
  | _, _ => False
set_option maxRecDepth 100000 in
theorem s_szMem : HSound Tryz.prog 68 (callM [] true hSzM) := by
  refine callM_sound cxSz_ok mixed Tryz.func68 rfl fun args hl K hp => ?_
  unfold hSzM at hp
  split at hp
  · rename_i _ _ a _ _ b _ _ c n
    obtain ⟨h0, h1, ha, hb, hc, hp⟩ := hp
    refine And.intro h0 (And.intro h1 (And.intro ha ?_))
    refine And.intro (fun h1 => ?_) (fun h1 => ?_)
    · have h1 := of_decide_eq_true h1
      simp only [szB] at h1
      refine fin_i hp ?_
      simp only [szM]
      split at h1 <;> split <;> omega
    simp only [decide_eq_false_iff_not] at h1
    have e1 : szB n a.length = n - a.length := by simp only [szB] at *; split at h1 <;> omega
    refine And.intro (by omega) (And.intro (by omega) (And.intro hb ?_))
    refine And.intro (fun h2 => ?_) (fun h2 => ?_)
    · have h2 := of_decide_eq_true h2
      rw [e1] at h2
      simp only [szB] at h2
      refine fin_i hp ?_
      simp only [szM]
      split at h2 <;> split <;> omega
    simp only [decide_eq_false_iff_not] at h2
    have e2 : szB (szB n a.length) b.length = n - a.length - b.length := by rw [e1] at *; simp only [szB] at *; split at h2 <;> omega
    refine And.intro (by omega) (And.intro (by omega) (And.intro hc ?_))
    refine And.intro (fun h3 => ?_) (fun h3 => ?_)
    · have h3 := of_decide_eq_true h3
      rw [e2] at h3
      simp only [szB] at h3
      refine fin_i hp ?_
      simp only [szM]
      split at h3 <;> split <;> omega
    · refine fin_i hp ?_
      rw [e2] at *
      simp only [decide_eq_false_iff_not, szB, szM] at *
      try rfl
  · exact hp.elim

def hToM : CH := fun args hl K => match args, hl with
  | [.agg [.imm _ _ 1 a, .imm _ _ 1 b, .imm _ _ 1 c]], [] => ∃ as' bs cs : List Int, a = as'.map byteC ∧ b = bs.map byteC ∧ c = cs.map byteC ∧ as'.length ≤ 1048576 ∧ bs.length ≤ 1048576 ∧ cs.length ≤ 1048576 ∧
      K (.agg [.slc 0 0 as'.length false, .slc 1 0 bs.length false, .slc 2 0 cs.length false]) [.lst 1 (as'.map byteC), .lst 1 (bs.map byteC), .lst 1 (cs.map byteC)]
  | _, _ => False
def cxTo : Ctx := mkC [(96, callM [] true hToB)]
theorem cxTo_ok : CtxOk Tryz.prog cxTo := mkC_ok (mem1 ⟨s_toByteS, fnOk Tryz.func96 rfl rfl⟩ mem0)
set_option maxRecDepth 100000 in
theorem s_toMem : HSound Tryz.prog 74 (callM [] true hToM) := by
  refine callM_sound cxTo_ok mixed Tryz.func74 rfl fun args hl K hp => ?_
  unfold hToM at hp
  split at hp
  · obtain ⟨a, b, c, rfl, rfl, rfl, ha, hb, hc, hp⟩ := hp
    refine Exists.intro a (And.intro rfl (And.intro ha ?_))
    refine Exists.intro b (And.intro rfl (And.intro hb ?_))
    refine Exists.intro c (And.intro rfl (And.intro hc ?_))
    refine And.intro (closed_bytes a) ?_
    refine And.intro (closed_bytes b) ?_
    refine And.intro (closed_bytes c) ?_
    exact hp
  · exact hp.elim

def memOk (a b c : Nat) : Bool := decide (a ≤ 16384 ∧ b ≤ 16384 ∧ c ≤ 5000)
def hMemOk : CH := fun args hl K => match args, hl with
  | [.agg [.imm _ _ 1 a, .imm _ _ 1 b, .imm _ _ 1 c]], [] => K (.v (.bool (memOk a.length b.length c.length))) []
  | _, _ => False
set_option maxRecDepth 100000 in
theorem s_spec_MemOk : HSound Tryz.prog 121 (callM [] true hMemOk) := by
  refine callM_sound cx0_ok mixed Tryz.func121 rfl fun args hl K hp => ?_
  unfold hMemOk at hp
  split at hp
  · repeat' ((first | refine And.intro (fun h1 => ?_) (fun h1 => ?_) | refine And.intro (by decide) ?_ | refine And.intro (show wfB _ = true from by kernel_rfl) ?_ | refine And.intro (And.intro rfl rfl) ?_ | exact And.intro rfl rfl | apply HeldC.intro | exact AV.top | (apply HeldF.intro; refine Exists.intro _ (And.intro (by assumption) ?_); refine And.intro (by decide) ?_; exact And.intro rfl rfl) | (refine And.intro (by (refine Exists.intro _ (And.intro (by assumption) ?_); refine And.intro (by decide) ?_; exact And.intro rfl rfl)) ?_) | refine Or.inl ?_) <;> try cases h1)
    all_goals refine fin_b hp ?_
    all_goals clear hp
    all_goals rw [Bool.eq_iff_iff]
    all_goals simp only [memOk, decide_eq_true_eq, decide_eq_false_iff_not, reduceCtorEq, iff_false, iff_true] at *
    all_goals omega
  · exact hp.elim
set_option maxRecDepth 100000 in
theorem s_impl_MemOk : HSound Tryz.prog 127 (callM [] true hMemOk) := by
  refine callM_sound cx0_ok mixed Tryz.func127 rfl fun args hl K hp => ?_
  unfold hMemOk at hp
  split at hp
  · repeat' ((first | refine And.intro (fun h1 => ?_) (fun h1 => ?_) | refine And.intro (by decide) ?_ | refine And.intro (show wfB _ = true from by kernel_rfl) ?_ | refine And.intro (And.intro rfl rfl) ?_ | exact And.intro rfl rfl | apply HeldC.intro | exact AV.top | (apply HeldF.intro; refine Exists.intro _ (And.intro (by assumption) ?_); refine And.intro (by decide) ?_; exact And.intro rfl rfl) | (refine And.intro (by (refine Exists.intro _ (And.intro (by assumption) ?_); refine And.intro (by decide) ?_; exact And.intro rfl rfl)) ?_) | refine Or.inl ?_) <;> try cases h1)
    all_goals refine fin_b hp ?_
    all_goals clear hp
    all_goals rw [Bool.eq_iff_iff]
    all_goals simp only [memOk, decide_eq_true_eq, decide_eq_false_iff_not, reduceCtorEq, iff_false, iff_true] at *
    all_goals omega
  · exact hp.elim

def hEqM : CH := fun args hl K => match args, hl with
  | [.agg [.imm _ _ 1 a, .imm _ _ 1 b, .imm _ _ 1 c], .agg [.imm _ _ 1 a', .imm _ _ 1 b', .imm _ _ 1 c']], [] => ∃ x y z : List Int, a = x.map byteC ∧ b = y.map byteC ∧ c = z.map byteC ∧ a' = x.map byteC ∧ b' = y.map byteC ∧ c' = z.map byteC ∧
      x.length ≤ 1048576 ∧ y.length ≤ 1048576 ∧ z.length ≤ 1048576 ∧ K (.v (.bool true)) []
  | _, _ => False
def cxEq : Ctx := mkC [(54, callM [] true hEqB)]
theorem cxEq_ok : CtxOk Tryz.prog cxEq := mkC_ok (mem1 ⟨s_eqByteS, fnOk Tryz.func54 rfl rfl⟩ mem0)
set_option maxRecDepth 100000 in
theorem s_eqMem : HSound Tryz.prog 17 (callM [] true hEqM) := by
  refine callM_sound cxEq_ok mixed Tryz.func17 rfl fun args hl K hp => ?_
  unfold hEqM at hp
  split at hp
  · obtain ⟨x, y, z, rfl, rfl, rfl, rfl, rfl, rfl, hx, hy, hz, hp⟩ := hp
    refine Exists.intro x (Exists.intro x (And.intro rfl (And.intro rfl (And.intro hx ?_))))
    refine And.intro (fun h1 => ?_) (fun h1 => ?_)
    · simp at h1
    refine Exists.intro y (Exists.intro y (And.intro rfl (And.intro rfl (And.intro hy ?_))))
    refine And.intro (fun h1 => ?_) (fun h1 => ?_)
    · simp at h1
    refine Exists.intro z (Exists.intro z (And.intro rfl (And.intro rfl (And.intro hz ?_))))
    refine And.intro (fun h1 => ?_) (fun h1 => ?_)
    · simp at h1
    exact hp
  · exact hp.elim
end Go.Proofs.YtbfjkjdbdejnmaaGreat.Ab

/- Read: both programs answer alike. No condition. -/
namespace Go.Proofs.YtbfjkjdbdejnmaaGreat.Ab

def widthB (s : Int) : Bool := decide (s = 1 ∨ s = 2 ∨ s = 4)
def hSize : CH := fun args hl K => match args, hl with
  | [.v (.int .i64 s)], [] => K (.v (.bool (widthB s))) []
  | _, _ => False
set_option maxRecDepth 100000 in
theorem s_goodSize : HSound Tryz.prog 238 (callM [] true hSize) := by
  refine callM_sound cx0_ok mixed Tryz.func238 rfl fun args hl K hp => ?_
  unfold hSize at hp
  split at hp
  · repeat' ((first | refine And.intro (fun h1 => ?_) (fun h1 => ?_) | refine And.intro (by decide) ?_ | refine And.intro (show wfB _ = true from by kernel_rfl) ?_ | refine And.intro (And.intro rfl rfl) ?_ | exact And.intro rfl rfl | apply HeldC.intro | exact AV.top | (apply HeldF.intro; refine Exists.intro _ (And.intro (by assumption) ?_); refine And.intro (by decide) ?_; exact And.intro rfl rfl) | (refine And.intro (by (refine Exists.intro _ (And.intro (by assumption) ?_); refine And.intro (by decide) ?_; exact And.intro rfl rfl)) ?_) | refine Or.inl ?_) <;> try cases h1)
    all_goals refine fin_b hp ?_
    all_goals clear hp
    all_goals rw [Bool.eq_iff_iff]
    all_goals simp [widthB] at *
    all_goals omega
  · exact hp.elim

def insideB (at' size fr n : Int) : Bool := decide (fr ≤ at' ∧ at' ≤ fr + n - size)
def hInside : CH := fun args hl K => match args, hl with
  | [.v (.int .i64 a), .v (.int .i64 s), .v (.int .i64 f), .v (.int .i64 n)], [] => -9223372036854775808 ≤ a ∧ a ≤ 9223372036854775807 ∧ 1 ≤ s ∧ s ≤ 4 ∧ 0 ≤ f ∧ f ≤ 65536 ∧ 0 ≤ n ∧ n ≤ 16384 ∧ K (.v (.bool (insideB a s f n))) []
  | _, _ => False
set_option maxRecDepth 100000 in
theorem s_within : HSound Tryz.prog 243 (callM [] true hInside) := by
  refine callM_sound cx0_ok mixed Tryz.func243 rfl fun args hl K hp => ?_
  unfold hInside at hp
  split at hp
  · rename_i a s f n
    obtain ⟨b1, b2, b3, b4, b5, b6, b7, b8, hp⟩ := hp
    have w2 : IntKind.i64.wrap (n - s) = n - s := wrap64 (by omega)
    repeat' ((first | refine And.intro (fun h1 => ?_) (fun h1 => ?_) | refine And.intro (by decide) ?_ | refine And.intro (show wfB _ = true from by kernel_rfl) ?_ | refine And.intro (And.intro rfl rfl) ?_ | exact And.intro rfl rfl | apply HeldC.intro | exact AV.top | (apply HeldF.intro; refine Exists.intro _ (And.intro (by assumption) ?_); refine And.intro (by decide) ?_; exact And.intro rfl rfl) | (refine And.intro (by (refine Exists.intro _ (And.intro (by assumption) ?_); refine And.intro (by decide) ?_; exact And.intro rfl rfl)) ?_) | refine Or.inl ?_) <;> try cases h1)
    all_goals refine fin_b hp ?_
    all_goals clear hp
    all_goals rw [Bool.eq_iff_iff]
    all_goals simp only [w2, insideB, decide_eq_true_eq, decide_eq_false_iff_not, reduceCtorEq, iff_false, iff_true] at *
    all_goals first
      | omega
      | (have w1 : IntKind.i64.wrap (a - f) = a - f := wrap64 (by omega)
         rw [w1] at *
         omega)
  · exact hp.elim

def lowB : List Int → Int
  | [] => 0
  | b :: bs => lowB bs * 256 + b
def hLow : CH := fun args hl K => match args, hl with
  | [.imm _ _ 1 l], [] => ∃ bs, l = bs.map byteC ∧ BytesOk bs ∧ bs.length ≤ 4 ∧ K (.v (.int .i64 (lowB bs))) []
  | _, _ => False
theorem lowB_bound : ∀ {bs : List Int}, BytesOk bs → 0 ≤ lowB bs ∧ lowB bs < 256 ^ bs.length
  | [], _ => by simp [lowB]
  | b :: bs, h => by
    have h1 := lowB_bound (bs := bs) fun x hx => h x (List.mem_cons_of_mem _ hx)
    have h2 := h b List.mem_cons_self
    simp only [lowB, List.length_cons, Int.pow_succ]
    omega
set_option maxRecDepth 100000 in
theorem s_l1Low : HSound Tryz.prog 52 (callM [] true hLow) := by
  refine callM_sound cx0_ok mixed Tryz.func52 rfl fun args hl K hp => ?_
  unfold hLow at hp
  split at hp
  · rename_i t z l
    obtain ⟨bs, rfl, hb, hn, hp⟩ := hp
    have hw : IntKind.i64.wrap (((bs.map byteC).length : Int) - 1) = bs.length - 1 := by rw [List.length_map]; exact wrap64 (by omega)
    refine Exists.intro false (Exists.intro [0, 3, 4] (Exists.intro (fun m vs h => m ≤ bs.length ∧ vs = [.imm t z 1 (bs.map byteC), .v (.int .i64 (lowB (bs.drop m))), .v (.int .i64 ((m : Int) - 1))] ∧ h = []) (And.intro ?_ ?_)))
    · refine Exists.intro bs.length ?_
      refine ⟨by omega, ?_, rfl⟩
      rw [← hw]
      simp [lowB]
    · intro m vs h hI
      obtain ⟨hm, rfl, rfl⟩ := hI
      refine And.intro (fun h1 => ?_) (fun h1 => ?_)
      · simp only [ge_iff_le, decide_eq_true_eq] at h1
        obtain ⟨i, rfl⟩ : ∃ i, m = i + 1 := ⟨m - 1, by omega⟩
        have hlt : i < bs.length := by omega
        have hbi : bs[i]? = some bs[i] := List.getElem?_eq_getElem hlt
        refine Exists.intro i (And.intro (by omega) (Exists.intro (byteC bs[i]) (And.intro (by simp [hbi]) ?_)))
        have hd : bs.drop i = bs[i] :: bs.drop (i + 1) := (List.drop_eq_getElem_cons hlt)
        have hb' := hb bs[i] (List.getElem_mem hlt)
        have hlow := lowB_bound (bs := bs.drop (i + 1)) fun x hx => hb x (List.mem_of_mem_drop hx)
        have hpow : (256 : Int) ^ (bs.drop (i + 1)).length ≤ 16777216 := by
          have : (bs.drop (i + 1)).length = 0 ∨ (bs.drop (i + 1)).length = 1 ∨ (bs.drop (i + 1)).length = 2 ∨ (bs.drop (i + 1)).length = 3 := by
            rw [List.length_drop]; omega
          rcases this with e | e | e | e <;> rw [e] <;> decide
        refine Exists.intro i (And.intro (by omega) ?_)
        refine ⟨by omega, ?_, rfl⟩
        have e1 : IntKind.i64.wrap (IntKind.i64.wrap (lowB (List.drop (i + 1) bs) * 256) + IntKind.i64.wrap bs[i]) = lowB (bs.drop i) := by
          rw [wrap64 (x := lowB (List.drop (i + 1) bs) * 256) (by omega), wrap64 (x := bs[i]) (by omega), wrap64 (by omega), hd]
          rfl
        have e2 : IntKind.i64.wrap (((i + 1 : Nat) : Int) - 1 - 1) = (i : Int) - 1 := by
          rw [wrap64 (by omega)]; omega
        rw [← e1, ← e2]
      · simp only [ge_iff_le, decide_eq_false_iff_not] at h1
        have : m = 0 := by omega
        subst this
        exact hp
  · exact hp.elim
def hNum : CH := fun args hl K => match args, hl with
  | [.imm _ _ 1 l], [] => ∃ bs, l = bs.map byteC ∧ BytesOk bs ∧ (bs.length = 1 ∨ bs.length = 2 ∨ bs.length = 4) ∧ K (.v (.int .i64 (lowB bs))) []
  | _, _ => False
set_option maxRecDepth 100000 in
theorem s_number : HSound Tryz.prog 112 (callM [] true hNum) := by
  refine callM_sound cx0_ok mixed Tryz.func112 rfl fun args hl K hp => ?_
  unfold hNum at hp
  split at hp
  · rename_i t z l
    obtain ⟨bs, rfl, hb, hn, hp⟩ := hp
    rcases hn with hn | hn | hn
    · obtain ⟨a, rfl⟩ := List.length_eq_one_iff.1 hn
      repeat' ((first | refine And.intro (fun h1 => ?_) (fun h1 => ?_) | refine And.intro (by first | decide | omega | (omega)) ?_ | refine And.intro (show Region.lexB _ _ = true from by kernel_rfl) ?_ | refine And.intro (show wfB _ = true from by kernel_rfl) ?_ | refine And.intro (And.intro rfl rfl) ?_ | exact And.intro rfl rfl | apply HeldC.intro | exact AV.top | (apply HeldF.intro; refine Exists.intro _ (And.intro (by assumption) ?_); refine And.intro (by decide) ?_; exact And.intro rfl rfl) | (refine And.intro (by (refine Exists.intro _ (And.intro (by assumption) ?_); refine And.intro (by decide) ?_; exact And.intro rfl rfl)) ?_) | refine Or.inl ?_ | refine Exists.intro _ (And.intro (int_nat (by first | decide | omega | (omega))) (Exists.intro _ (And.intro rfl ?_)))) <;> try first | cases h1 | exact absurd h1 (by decide))
      refine fin_i hp ?_
      have ha := hb a (by simp)
      rw [wrap64 (x := a) (by omega), orI 8 ⟨0, by simp⟩ (by omega) (by omega) (by omega)]
      simp [lowB]
    · obtain ⟨a, b, rfl⟩ : ∃ a b, bs = [a, b] := by
        match bs, hn with
        | [a, b], _ => exact ⟨a, b, rfl⟩
      repeat' ((first | refine And.intro (fun h1 => ?_) (fun h1 => ?_) | refine And.intro (by first | decide | omega | (omega)) ?_ | refine And.intro (show Region.lexB _ _ = true from by kernel_rfl) ?_ | refine And.intro (show wfB _ = true from by kernel_rfl) ?_ | refine And.intro (And.intro rfl rfl) ?_ | exact And.intro rfl rfl | apply HeldC.intro | exact AV.top | (apply HeldF.intro; refine Exists.intro _ (And.intro (by assumption) ?_); refine And.intro (by decide) ?_; exact And.intro rfl rfl) | (refine And.intro (by (refine Exists.intro _ (And.intro (by assumption) ?_); refine And.intro (by decide) ?_; exact And.intro rfl rfl)) ?_) | refine Or.inl ?_ | refine Exists.intro _ (And.intro (int_nat (by first | decide | omega | (omega))) (Exists.intro _ (And.intro rfl ?_)))) <;> try first | cases h1 | exact absurd h1 (by decide))
      refine fin_i hp ?_
      have ha := hb a (by simp)
      have hb' := hb b (by simp)
      have g8 : (2 : Int) ^ min (Int.toNat 8) IntKind.i64.bits = 256 := by decide
      rw [wrap64 (x := a) (by omega), wrap64 (x := b) (by omega), g8, wrap64 (x := b * 256) (by omega), orI (x := 0) (y := b * 256) 16 ⟨0, by simp⟩ (by omega) (by omega) (by omega), orI (x := 0 + b * 256) (y := a) 8 ⟨b.toNat, by omega⟩ (by omega) (by omega) (by omega)]
      simp [lowB]
    · obtain ⟨a, b, c, d, rfl⟩ : ∃ a b c d, bs = [a, b, c, d] := by
        match bs, hn with
        | [a, b, c, d], _ => exact ⟨a, b, c, d, rfl⟩
      repeat' ((first | refine And.intro (fun h1 => ?_) (fun h1 => ?_) | refine And.intro (by first | decide | omega | (omega)) ?_ | refine And.intro (show Region.lexB _ _ = true from by kernel_rfl) ?_ | refine And.intro (show wfB _ = true from by kernel_rfl) ?_ | refine And.intro (And.intro rfl rfl) ?_ | exact And.intro rfl rfl | apply HeldC.intro | exact AV.top | (apply HeldF.intro; refine Exists.intro _ (And.intro (by assumption) ?_); refine And.intro (by decide) ?_; exact And.intro rfl rfl) | (refine And.intro (by (refine Exists.intro _ (And.intro (by assumption) ?_); refine And.intro (by decide) ?_; exact And.intro rfl rfl)) ?_) | refine Or.inl ?_ | refine Exists.intro _ (And.intro (int_nat (by first | decide | omega | (omega))) (Exists.intro _ (And.intro rfl ?_)))) <;> try first | cases h1 | exact absurd h1 (by decide))
      refine fin_i hp ?_
      have ha := hb a (by simp)
      have hb' := hb b (by simp)
      have hc := hb c (by simp)
      have hd := hb d (by simp)
      have g8 : (2 : Int) ^ min (Int.toNat 8) IntKind.i64.bits = 256 := by decide
      have g16 : (2 : Int) ^ min (Int.toNat 16) IntKind.i64.bits = 65536 := by decide
      have g24 : (2 : Int) ^ min (Int.toNat 24) IntKind.i64.bits = 16777216 := by decide
      rw [wrap64 (x := a) (by omega), wrap64 (x := b) (by omega), wrap64 (x := c) (by omega), wrap64 (x := d) (by omega), g8, g16, g24, wrap64 (x := b * 256) (by omega), wrap64 (x := c * 65536) (by omega), wrap64 (x := d * 16777216) (by omega),
        orI (x := d * 16777216) (y := c * 65536) 24 ⟨d.toNat, by omega⟩ (by omega) (by omega) (by omega), orI (x := d * 16777216 + c * 65536) (y := b * 256) 16 ⟨d.toNat * 256 + c.toNat, by omega⟩ (by omega) (by omega) (by omega), orI (x := d * 16777216 + c * 65536 + b * 256) (y := a) 8 ⟨d.toNat * 65536 + c.toNat * 256 + b.toNat, by omega⟩ (by omega) (by omega) (by omega)]
      simp only [lowB]
      omega
  · exact hp.elim

def cutB (l : List Int) (a n : Int) : List Int := (l.drop a.toNat).take n.toNat
def readR (f r o : List Int) (a s : Int) : Int × Int :=
  if (memOk f.length r.length o.length && widthB s) = false then (0, 2) else if a.tmod s ≠ 0 then (0, 1) else if a = 131072 then (0, 4)
  else if insideB a s 0 f.length = true then (lowB (cutB f a s), 0) else if insideB a s 65536 r.length = true then (lowB (cutB r (a - 65536) s), 0) else (0, 2)
def cxAt : Ctx := mkC [(243, callM [] true hInside)]
theorem cxAt_ok : CtxOk Tryz.prog cxAt := mkC_ok (mem1 ⟨s_within, fnOk Tryz.func243 rfl rfl⟩ mem0)
def iAt : Handler := inlH cxAt Tryz.f242.ntmps Tryz.f242.results.toList (Tryz.f242.body.getD .skip)
theorem s_bytesAt : HSound Tryz.prog 242 iAt := inlF cxAt_ok mixed Tryz.func242 rfl
end Go.Proofs.YtbfjkjdbdejnmaaGreat.Ab
