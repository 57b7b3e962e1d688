/- Functions walked, part 1. No condition. -/
import Derived.Test.YtbfjkjdbdejnmaaGreatAbTab
set_option linter.unusedVariables false
set_option linter.unusedSimpArgs false
/- Words for the functions' contracts. No condition. -/
namespace Go.Proofs.YtbfjkjdbdejnmaaGreat.Ab

def cx0 : Ctx := mkC []
theorem cx0_ok : CtxOk Tryz.prog cx0 := mkC_ok (fun p hp => by cases hp)
theorem fin_b {K : AV → HP → Prop} {h : HP} {x y : Bool} (hp : K (.v (.bool x)) h) (e : x = y) : K (.v (.bool y)) h := e ▸ hp
theorem fin_i {K : AV → HP → Prop} {h : HP} {k : IntKind} {x y : Int} (hp : K (.v (.int k x)) h) (e : x = y) : K (.v (.int k y)) h := e ▸ hp
theorem fin_ib {K : AV → HP → Prop} {h : HP} {k : IntKind} {x y : Int} {p q : Bool} (hp : K (.tup [.v (.int k x), .v (.bool p)]) h) (e : x = y) (e' : p = q) : K (.tup [.v (.int k y), .v (.bool q)]) h := e ▸ e' ▸ hp
theorem wrap64 {x : Int} (h : -9223372036854775808 ≤ x ∧ x ≤ 9223372036854775807) : IntKind.wrap .i64 x = x := by
  simp only [IntKind.wrap, IntKind.bits, IntKind.signed, Bool.true_and]
  split <;> rename_i q <;> simp at q <;> omega
theorem wrap_succ {i n : Nat} (h : i < n) (hn : (n : Int) ≤ 9223372036854775807) : IntKind.wrap .i64 ((i : Int) + 1) = ((i + 1 : Nat) : Int) := by
  rw [wrap64] <;> omega
theorem int_nat {z : Int} (h : 0 ≤ z) : z = (z.toNat : Int) := (Int.toNat_of_nonneg h).symm
theorem mem1 {p : FuncId × Handler} {l : List (FuncId × Handler)} {Q : FuncId × Handler → Prop} (h1 : Q p) (h2 : ∀ q ∈ l, Q q) : ∀ q ∈ p :: l, Q q := fun q hq => by
  rcases List.mem_cons.1 hq with rfl | hq
  · exact h1
  · exact h2 q hq
theorem mem0 {Q : FuncId × Handler → Prop} : ∀ q ∈ ([] : List (FuncId × Handler)), Q q := fun q hq => by cases hq
theorem take_full {α : Type} {L : List α} {n : Nat} (h : L.length = n) : L.take n = L := by subst h; simp
theorem take_all {α : Type} (l : List α) : l = (l.drop 0).take l.length := by simp
theorem take_step {α : Type} {cs bs : List α} {i : Nat} {a : α} (h : cs.take i = bs.take i) (h1 : cs[i]? = some a) (h2 : bs[i]? = some a) : cs.take (i + 1) = bs.take (i + 1) := by
  rw [List.take_add_one, List.take_add_one, h, h1, h2]
/-- One more element of a list that is being filled. -/
theorem fill_step {α : Type} (f : α → List AV) (z : List AV) (bs : List α) (i : Nat) (b : α) (h : bs[i]? = some b) : ((bs.take i).map f ++ List.replicate (bs.length - i) z).set i (f b) = (bs.take (i + 1)).map f ++ List.replicate (bs.length - (i + 1)) z := by
  have hi := (List.getElem?_eq_some_iff.1 h).1
  have hb := (List.getElem?_eq_some_iff.1 h).2
  have e : bs.length - i = (bs.length - (i + 1)) + 1 := by omega
  rw [e, List.replicate_succ, List.set_append_right _ _ (by simp; omega)]
  rw [show i - ((bs.take i).map f).length = 0 by simp; omega]
  rw [List.take_succ_eq_append_getElem hi, hb]
  simp
theorem closed_nil : ClosedL [] := by intro e he; cases he
theorem closed_bytes (bs : List Int) : ClosedL (bs.map byteC) := by
  intro e he x hx
  obtain ⟨b, _, rfl⟩ := List.mem_map.1 he
  simp [byteC] at hx
  subst hx
  rfl
theorem lendB (bs : List Int) : List.take bs.length (List.drop 0 (bs.map byteC)) = bs.map byteC := by rw [List.drop_zero, ← List.length_map (f := byteC), List.take_length]
theorem lenB (bs : List Int) : (bs.map byteC).length = bs.length := List.length_map _
theorem bytes_notSl (bs : List Int) : ∀ e ∈ bs.map byteC, ∀ x ∈ e, x.isSl = false := by
  intro e he x hx
  obtain ⟨b, _, rfl⟩ := List.mem_map.1 he
  simp [byteC] at hx
  subst hx
  rfl
theorem bytes_list {P : Program} {t : TypeId} {n : Nat} (hu : P.underlying t = some (.int .u8)) : ∀ (ll : List (List AV)), (∀ el ∈ ll, Sh P (n + 1) t el) → ∃ bs : List Int, ll = bs.map byteC
  | [], _ => ⟨[], rfl⟩
  | el :: ll, h => by
    obtain ⟨bs, rfl⟩ := bytes_list hu ll (fun e he => h e (List.mem_cons_of_mem _ he))
    have := h el List.mem_cons_self
    simp only [Sh, hu] at this
    obtain ⟨m, rfl, _⟩ := this
    exact ⟨m :: bs, rfl⟩
theorem or64 (q y k : Nat) (hy : y < 2 ^ k) (hq : q * 2 ^ k + y < 9223372036854775808) : IntKind.i64.wrap ((BitVec.ofInt IntKind.i64.bits ((q * 2 ^ k : Nat) : Int) ||| BitVec.ofInt IntKind.i64.bits (y : Int)).toNat : Nat) = ((q * 2 ^ k + y : Nat) : Int) := by
  have h1 : (BitVec.ofInt IntKind.i64.bits ((q * 2 ^ k : Nat) : Int)).toNat = q * 2 ^ k := by
    rw [BitVec.ofInt_natCast, BitVec.toNat_ofNat]
    exact Nat.mod_eq_of_lt (by simp only [IntKind.bits]; omega)
  have h2 : (BitVec.ofInt IntKind.i64.bits (y : Int)).toNat = y := by
    rw [BitVec.ofInt_natCast, BitVec.toNat_ofNat]
    exact Nat.mod_eq_of_lt (by simp only [IntKind.bits]; omega)
  rw [BitVec.toNat_or, h1, h2, ← Nat.shiftLeft_eq, ← Nat.shiftLeft_add_eq_or_of_lt hy, Nat.shiftLeft_eq]
  exact wrap64 (by omega)

theorem and64 (x k m : Nat) (hx : x < 9223372036854775808) (hm : m + 1 = 2 ^ k) (hk : m < 9223372036854775808) : IntKind.i64.wrap ((BitVec.ofInt IntKind.i64.bits (x : Int) &&& BitVec.ofInt IntKind.i64.bits (m : Int)).toNat : Nat) = ((x % 2 ^ k : Nat) : Int) := by
  have h1 : (BitVec.ofInt IntKind.i64.bits (x : Int)).toNat = x := by
    rw [BitVec.ofInt_natCast, BitVec.toNat_ofNat]
    exact Nat.mod_eq_of_lt (by simp only [IntKind.bits]; omega)
  have h2 : (BitVec.ofInt IntKind.i64.bits (m : Int)).toNat = 2 ^ k - 1 := by
    rw [BitVec.ofInt_natCast, BitVec.toNat_ofNat, Nat.mod_eq_of_lt (by simp only [IntKind.bits]; omega)]
    omega
  rw [BitVec.toNat_and, h1, h2, Nat.and_two_pow_sub_one_eq_mod]
  have := Nat.mod_le x (2 ^ k)
  exact wrap64 (by omega)

theorem orI {x y : Int} (k : Nat) (hx : ∃ q : Nat, x = ((q * 2 ^ k : Nat) : Int)) (h0 : 0 ≤ y) (hy : y < ((2 ^ k : Nat) : Int)) (hs : x + y < 9223372036854775808) : IntKind.i64.wrap ((BitVec.ofInt IntKind.i64.bits x ||| BitVec.ofInt IntKind.i64.bits y).toNat : Nat) = x + y := by
  obtain ⟨q, rfl⟩ := hx
  obtain ⟨n, rfl⟩ := Int.eq_ofNat_of_zero_le h0
  rw [or64 q n k (by omega) (by omega)]
  omega
end Go.Proofs.YtbfjkjdbdejnmaaGreat.Ab

/- Encode: both programs answer alike. No condition. -/
namespace Go.Proofs.YtbfjkjdbdejnmaaGreat.Ab

def l3U (op : Int) : Int := if op = 1 ∨ op = 25 then 0 else if op = 2 ∨ op = 3 ∨ op = 21 ∨ op = 22 then 5 else if op = 6 ∨ (14 ≤ op ∧ op ≤ 19) then 7 else
  if op = 20 ∨ op = 23 ∨ op = 24 then 4 else if 4 ≤ op ∧ op ≤ 13 then 3 else -1
theorem l3U_cases (op : Int) : (l3U op = 0 ∧ (op = 1 ∨ op = 25)) ∨ (l3U op = 5 ∧ (op = 2 ∨ op = 3 ∨ op = 21 ∨ op = 22)) ∨ (l3U op = 7 ∧ (op = 6 ∨ (14 ≤ op ∧ op ≤ 19))) ∨ (l3U op = 4 ∧ (op = 20 ∨ op = 23 ∨ op = 24)) ∨
    (l3U op = 3 ∧ 4 ≤ op ∧ op ≤ 13 ∧ op ≠ 6) ∨ (l3U op = -1 ∧ (op ≤ 0 ∨ 26 ≤ op)) := by
  unfold l3U
  repeat' split
  all_goals omega
def hUses : CH := fun args hl K => match args, hl with
  | [.v (.int .i64 n)], [] => K (.v (.int .i64 (l3U n))) []
  | _, _ => False
def insOk (a b c d : Int) : Bool := decide (0 ≤ l3U a ∧ 0 ≤ b ∧ b ≤ 7 ∧ 0 ≤ c ∧ c ≤ 7 ∧ 0 ≤ d ∧ d ≤ 65535 ∧ (l3U a = 5 ∨ l3U a = 7 ∨ l3U a = 3 ∨ b = 0) ∧ (l3U a = 7 ∨ l3U a = 3 ∨ c = 0) ∧ (l3U a = 5 ∨ l3U a = 7 ∨ l3U a = 4 ∨ d = 0))
def hIns : CH := fun args hl K => match args, hl with
  | [.agg [.v (.int .i64 a), .v (.int .i64 b), .v (.int .i64 c), .v (.int .i64 d)]], [] => K (.v (.bool (insOk a b c d))) []
  | _, _ => False
theorem l3_words (u : Int) (hu : u = 0 ∨ u = 5 ∨ u = 7 ∨ u = 4 ∨ u = 3 ∨ u = -1) : (Int.tmod u 2 = 1 ↔ (u = 5 ∨ u = 7 ∨ u = 3)) ∧ (Int.tmod (IntKind.i64.wrap (u.tdiv 2)) 2 = 1 ↔ (u = 7 ∨ u = 3)) ∧ (IntKind.i64.wrap (u.tdiv 4) = 1 ↔ (u = 5 ∨ u = 7 ∨ u = 4)) := by
  rcases hu with rfl | rfl | rfl | rfl | rfl | rfl <;> decide
def usesB (n : Int) : AV := .agg [.v (.bool (decide (l3U n = 5 ∨ l3U n = 7 ∨ l3U n = 3))), .v (.bool (decide (l3U n = 7 ∨ l3U n = 3))), .v (.bool (decide (l3U n = 5 ∨ l3U n = 7 ∨ l3U n = 4)))]
def hUsesOf : CH := fun args hl K => match args, hl with
  | [.v (.int .i64 n)], [] => K (.tup [usesB n, .v (.bool (decide (0 ≤ l3U n)))]) []
  | _, _ => False
theorem fin_u {K : AV → HP → Prop} {h : HP} {n : Int} {p q r s : Bool} (hp : K (.tup [usesB n, .v (.bool (decide (0 ≤ l3U n)))]) h) (e : p = decide (l3U n = 5 ∨ l3U n = 7 ∨ l3U n = 3)) (e1 : q = decide (l3U n = 7 ∨ l3U n = 3))
    (e2 : r = decide (l3U n = 5 ∨ l3U n = 7 ∨ l3U n = 4)) (e3 : s = decide (0 ≤ l3U n)) : K (.tup [.agg [.v (.bool p), .v (.bool q), .v (.bool r)], .v (.bool s)]) h := by
  subst e e1 e2 e3
  exact hp
def hField : CH := fun args hl K => match args, hl with
  | [.v (.int .i64 v), .v (.int .i64 m), .v (.bool u)], [] => K (.v (.bool (decide (v = 0 ∨ (u = true ∧ 0 < v ∧ v ≤ m))))) []
  | _, _ => False
theorem insOk_bounds {a b c d : Int} (h : insOk a b c d = true) : 1 ≤ a ∧ a ≤ 25 ∧ 0 ≤ b ∧ b ≤ 7 ∧ 0 ≤ c ∧ c ≤ 7 ∧ 0 ≤ d ∧ d ≤ 65535 := by
  simp only [insOk, decide_eq_true_eq] at h
  have := l3U_cases a
  omega
def encV (a b c d : Int) : Int := if insOk a b c d then a * 67108864 + b * 8388608 + c * 1048576 + d else 0
def hEnc : CH := fun args hl K => match args, hl with
  | [.agg [.v (.int .i64 a), .v (.int .i64 b), .v (.int .i64 c), .v (.int .i64 d)]], [] => K (.tup [.v (.int .i64 (encV a b c d)), .v (.bool (insOk a b c d))]) []
  | _, _ => False
def cxIEnc : Ctx := mkC [(271, callM [] false hIns)]
end Go.Proofs.YtbfjkjdbdejnmaaGreat.Ab

/- Decode: both programs answer alike. No condition. -/
namespace Go.Proofs.YtbfjkjdbdejnmaaGreat.Ab

def decOk (w : Int) : Bool := decide (0 ≤ w ∧ w ≤ 4294967295 ∧ w / 65536 % 16 = 0) && insOk (w / 67108864) (w / 8388608 % 8) (w / 1048576 % 8) (w % 65536)
def decV (w x : Int) : Int := if decOk w then x else 0
def hDec : CH := fun args hl K => match args, hl with
  | [.v (.int .i64 w)], [] => K (.tup [.agg [.v (.int .i64 (decV w (w / 67108864))), .v (.int .i64 (decV w (w / 8388608 % 8))), .v (.int .i64 (decV w (w / 1048576 % 8))), .v (.int .i64 (decV w (w % 65536)))], .v (.bool (decOk w))]) []
  | _, _ => False
theorem fin_dec {K : AV → HP → Prop} {h : HP} {w a b c d : Int} {p : Bool} (hp : K (.tup [.agg [.v (.int .i64 (decV w (w / 67108864))), .v (.int .i64 (decV w (w / 8388608 % 8))), .v (.int .i64 (decV w (w / 1048576 % 8))), .v (.int .i64 (decV w (w % 65536)))], .v (.bool (decOk w))]) h)
    (e1 : decV w (w / 67108864) = a) (e2 : decV w (w / 8388608 % 8) = b) (e3 : decV w (w / 1048576 % 8) = c) (e4 : decV w (w % 65536) = d) (e5 : decOk w = p) : K (.tup [.agg [.v (.int .i64 a), .v (.int .i64 b), .v (.int .i64 c), .v (.int .i64 d)], .v (.bool p)]) h := by
  subst e1 e2 e3 e4 e5
  exact hp

def hWord : CH := fun args hl K => match args, hl with
  | [.v (.int .i64 w)], [] => K (.v (.bool (decide (0 ≤ w ∧ w ≤ 4294967295)))) []
  | _, _ => False
set_option maxRecDepth 100000 in
theorem s_isWord : HSound Tryz.prog 162 (callM [] false hWord) := by
  refine callM_sound cx0_ok mixed Tryz.func162 rfl fun args hl K hp => ?_
  unfold hWord at hp
  split at hp
  · repeat' ((first | refine And.intro (fun h1 => ?_) (fun h1 => ?_) | refine And.intro (by decide) ?_ | refine And.intro (show wfB _ = true from by kernel_rfl) ?_ | refine And.intro (And.intro rfl rfl) ?_ | exact And.intro rfl rfl | apply HeldC.intro | exact AV.top | (apply HeldF.intro; refine Exists.intro _ (And.intro (by assumption) ?_); refine And.intro (by decide) ?_; exact And.intro rfl rfl) | (refine And.intro (by (refine Exists.intro _ (And.intro (by assumption) ?_); refine And.intro (by decide) ?_; exact And.intro rfl rfl)) ?_) | refine Or.inl ?_) <;> try cases h1)
    all_goals refine fin_b hp ?_
    all_goals clear hp
    all_goals rw [Bool.eq_iff_iff]
    all_goals simp only [decide_eq_true_eq, decide_eq_false_iff_not, reduceCtorEq, iff_false, iff_true] at *
    all_goals omega
  · exact hp.elim

theorem div_words {w : Int} (h0 : 0 ≤ w) (h1 : w ≤ 4294967295) : IntKind.i64.wrap (w.tdiv 67108864) = w / 67108864 ∧ Int.tmod (IntKind.i64.wrap (w.tdiv 8388608)) 8 = w / 8388608 % 8 ∧ Int.tmod (IntKind.i64.wrap (w.tdiv 1048576)) 8 = w / 1048576 % 8 ∧ w.tmod 65536 = w % 65536 ∧
    Int.tmod (IntKind.i64.wrap (w.tdiv 65536)) 16 = w / 65536 % 16 := by
  rw [Int.tdiv_eq_ediv_of_nonneg h0, Int.tdiv_eq_ediv_of_nonneg h0, Int.tdiv_eq_ediv_of_nonneg h0, Int.tdiv_eq_ediv_of_nonneg h0, wrap64 (by omega), wrap64 (by omega), wrap64 (by omega), wrap64 (by omega),
    Int.tmod_eq_emod_of_nonneg h0, Int.tmod_eq_emod_of_nonneg (by omega), Int.tmod_eq_emod_of_nonneg (by omega), Int.tmod_eq_emod_of_nonneg (by omega)]
  exact ⟨rfl, rfl, rfl, rfl, rfl⟩
theorem decV_no {w x : Int} (h : decOk w = false) : decV w x = 0 := by simp [decV, h]
theorem decV_yes {w x : Int} (h : decOk w = true) : decV w x = x := by simp [decV, h]
theorem shr_words {w : Int} (h0 : 0 ≤ w) (h1 : w ≤ 4294967295) : w.fdiv (2 ^ min (Int.toNat 26) IntKind.i64.bits) = w / 67108864 ∧
    IntKind.i64.wrap ↑(BitVec.ofInt IntKind.i64.bits (w.fdiv (2 ^ min (Int.toNat 23) IntKind.i64.bits)) &&& BitVec.ofInt IntKind.i64.bits 7).toNat = w / 8388608 % 8 ∧
    IntKind.i64.wrap ↑(BitVec.ofInt IntKind.i64.bits (w.fdiv (2 ^ min (Int.toNat 20) IntKind.i64.bits)) &&& BitVec.ofInt IntKind.i64.bits 7).toNat = w / 1048576 % 8 ∧
    IntKind.i64.wrap ↑(BitVec.ofInt IntKind.i64.bits w &&& BitVec.ofInt IntKind.i64.bits 65535).toNat = w % 65536 ∧
    IntKind.i64.wrap ↑(BitVec.ofInt IntKind.i64.bits (w.fdiv (2 ^ min (Int.toNat 16) IntKind.i64.bits)) &&& BitVec.ofInt IntKind.i64.bits 15).toNat = w / 65536 % 16 := by
  obtain ⟨n, rfl⟩ := Int.eq_ofNat_of_zero_le h0
  have f (k : Nat) (hk : 0 < k) : (n : Int).fdiv k = ((n / k : Nat) : Int) := by
    rw [Int.fdiv_eq_ediv_of_nonneg _ (by omega)]; rfl
  have g26 : (2 : Int) ^ min (Int.toNat 26) IntKind.i64.bits = ((67108864 : Nat) : Int) := by decide
  have g23 : (2 : Int) ^ min (Int.toNat 23) IntKind.i64.bits = ((8388608 : Nat) : Int) := by decide
  have g20 : (2 : Int) ^ min (Int.toNat 20) IntKind.i64.bits = ((1048576 : Nat) : Int) := by decide
  have g16 : (2 : Int) ^ min (Int.toNat 16) IntKind.i64.bits = ((65536 : Nat) : Int) := by decide
  rw [g26, g23, g20, g16, f _ (by omega), f _ (by omega), f _ (by omega), f _ (by omega)]
  have a7 := fun x hx => and64 x 3 7 hx (by decide) (by decide)
  have a15 := fun x hx => and64 x 4 15 hx (by decide) (by decide)
  have aw := fun x hx => and64 x 16 65535 hx (by decide) (by decide)
  refine ⟨by omega, (a7 _ (by omega)).trans (by omega), (a7 _ (by omega)).trans (by omega), (aw _ (by omega)).trans (by omega), (a15 _ (by omega)).trans (by omega)⟩
def cxIDec : Ctx := mkC [(162, callM [] false hWord), (271, callM [] false hIns)]
def hEqIns : CH := fun args hl K => match args, hl with
  | [.agg [.v (.int .i64 a), .v (.int .i64 b), .v (.int .i64 c), .v (.int .i64 d)], .agg [.v (.int .i64 a'), .v (.int .i64 b'), .v (.int .i64 c'), .v (.int .i64 d')]], [] => K (.v (.bool (decide (a = a' ∧ b = b' ∧ c = c' ∧ d = d')))) []
  | _, _ => False
end Go.Proofs.YtbfjkjdbdejnmaaGreat.Ab

/- What a law's arguments are, for the types at hand. No condition. -/
namespace Go.Proofs.YtbfjkjdbdejnmaaGreat.Ab
set_option maxRecDepth 100000

def BytesOk (bs : List Int) : Prop := ∀ b ∈ bs, 0 ≤ b ∧ b ≤ 255
def I64 (n : Int) : Prop := -9223372036854775808 ≤ n ∧ n ≤ 9223372036854775807
theorem wf_i64 {n : Int} (h : (Lit.int .i64 n).wf = true) : I64 n := by
  simpa [Lit.wf, IntKind.min, IntKind.max, IntKind.bits, IntKind.signed, I64] using h
theorem wf_u8 {n : Int} (h : (Lit.int .u8 n).wf = true) : 0 ≤ n ∧ n ≤ 255 := by
  simpa [Lit.wf, IntKind.min, IntKind.max, IntKind.bits, IntKind.signed] using h
theorem bytes_sh {P : Program} {t : TypeId} {n : Nat} (hu : P.underlying t = some (.int .u8)) : ∀ (ll : List (List AV)), (∀ el ∈ ll, Sh P (n + 1) t el) → ∃ bs : List Int, ll = bs.map byteC ∧ BytesOk bs
  | [], _ => ⟨[], rfl, fun _ h => by cases h⟩
  | el :: ll, h => by
    obtain ⟨bs, rfl, hb⟩ := bytes_sh hu ll (fun e he => h e (List.mem_cons_of_mem _ he))
    have := h el List.mem_cons_self
    simp only [Sh, hu] at this
    obtain ⟨m, rfl, hw⟩ := this
    refine ⟨m :: bs, rfl, fun b hb' => ?_⟩
    rcases List.mem_cons.1 hb' with rfl | h2
    · exact wf_u8 hw
    · exact hb b h2
theorem arg_int {n : Nat} {c : List AV} {x : AV} (hs : Sh Tryz.prog (n + 1) 3 c) (ha : ArgOf Tryz.prog 3 c x) : ∃ a, x = .v (.int .i64 a) ∧ I64 a := by
  simp only [ArgOf, Tryz.underlying3] at ha
  simp only [Sh, Tryz.underlying3] at hs
  obtain ⟨w, rfl, hw⟩ := hs
  obtain ⟨a, ha, rfl⟩ := ha
  cases ha
  exact ⟨w, rfl, wf_i64 hw⟩
theorem sh_byteS {n : Nat} {t : TypeId} {c : List AV} (ht : Tryz.prog.underlying t = some (.slice 5)) (hs : Sh Tryz.prog (n + 2) t c) : ∃ bs, c = [.sl 1 (bs.map byteC)] ∧ BytesOk bs ∧ bs.length ≤ maxLen := by
  have h5 : Tryz.prog.cellsOf 5 = 1 := by kernel_rfl
  unfold Sh at hs
  simp only [ht, h5] at hs
  obtain ⟨l1, rfl, t1, _, m1⟩ := hs
  obtain ⟨a, rfl, ha⟩ := bytes_sh Tryz.underlying5 l1 t1
  exact ⟨a, rfl, ha, by simpa using m1⟩
theorem arg_byteS {n : Nat} {c : List AV} {x : AV} (hs : Sh Tryz.prog (n + 2) 41 c) (ha : ArgOf Tryz.prog 41 c x) : ∃ bs, x = .imm false false 1 (bs.map byteC) ∧ BytesOk bs ∧ bs.length ≤ maxLen := by
  obtain ⟨bs, rfl, h1, h2⟩ := sh_byteS Tryz.underlying41 hs
  simp only [ArgOf, Tryz.underlying41] at ha
  obtain ⟨a, ha, rfl⟩ := ha
  cases ha
  exact ⟨bs, rfl, h1, h2⟩
theorem arg_mem {n : Nat} {c : List AV} {x : AV} (hs : Sh Tryz.prog (n + 3) 43 c) (ha : ArgOf Tryz.prog 43 c x) : ∃ f r o, x = .agg [.imm false false 1 (f.map byteC), .imm false false 1 (r.map byteC), .imm false false 1 (o.map byteC)] ∧
    BytesOk f ∧ BytesOk r ∧ BytesOk o ∧ f.length ≤ maxLen ∧ r.length ≤ maxLen ∧ o.length ≤ maxLen := by
  simp only [ArgOf, Tryz.underlying43] at ha
  unfold Sh at hs
  simp only [Tryz.underlying43] at hs
  obtain ⟨_, _, rfl, s1, _, _, rfl, s2, _, _, rfl, s3, rfl⟩ := hs
  obtain ⟨f, rfl, f1, f2⟩ := sh_byteS Tryz.underlying41 s1
  obtain ⟨r, rfl, r1, r2⟩ := sh_byteS Tryz.underlying41 s2
  obtain ⟨o, rfl, o1, o2⟩ := sh_byteS Tryz.underlying41 s3
  exact ⟨f, r, o, ha, f1, r1, o1, f2, r2, o2⟩
end Go.Proofs.YtbfjkjdbdejnmaaGreat.Ab

/- The reader of drawn bytes. No condition. -/
namespace Go.Proofs.YtbfjkjdbdejnmaaGreat.Ab

def hOpen : CH := fun args hl K => match args, hl with
  | [.imm t _ 1 l], [] => ∃ bs, l = bs.map byteC ∧ BytesOk bs ∧ bs.length ≤ maxLen ∧ ∀ cs z, BytesOk cs → cs.length ≤ 1000 → K (.ptr 0 0 0 2) [.box [.imm t z 1 (cs.map byteC), .v (.int .i64 0)]]
  | _, _ => False
def hNext : CH := fun args hl K => match args, hl with
  | [.ptr 0 0 0 _], [.box [.imm t z 1 l, .v (.int .i64 p)]] => ∃ bs, l = bs.map byteC ∧ BytesOk bs ∧ bs.length ≤ 1000 ∧ 0 ≤ p ∧ p ≤ bs.length ∧
      ∀ v q : Int, 0 ≤ v → v ≤ 255 → 0 ≤ q → q ≤ bs.length → K (.v (.int .i64 v)) [.box [.imm t z 1 (bs.map byteC), .v (.int .i64 q)]]
  | _, _ => False
end Go.Proofs.YtbfjkjdbdejnmaaGreat.Ab

/- Ins: the law of instructions. No condition. -/
namespace Go.Proofs.YtbfjkjdbdejnmaaGreat.Ab

def intC (b : Int) : List AV := [.v (.int .i64 b)]
theorem lit_get {ms : List Int} {j : Nat} (h : j < ms.length) : ∃ m, (ms.map intC)[j]? = some (intC m) := ⟨ms[j], by simp [h]⟩
theorem tmod_nat {k n : Int} (hk : 0 ≤ k) (hn : 0 < n) : ∃ j : Nat, k.tmod n = j ∧ (j : Int) < n := by
  rw [Int.tmod_eq_emod_of_nonneg hk]
  have h1 := Int.emod_nonneg k (show n ≠ 0 by omega)
  have h2 := Int.emod_lt_of_pos k hn
  exact ⟨(k % n).toNat, by omega, by omega⟩
theorem wrap_div {v n : Int} (h0 : 0 ≤ v) (h1 : v ≤ 255) (hn : 0 < n) : 0 ≤ IntKind.i64.wrap (v.tdiv n) ∧ IntKind.i64.wrap (v.tdiv n) ≤ 255 := by
  rw [Int.tdiv_eq_ediv_of_nonneg h0]
  have h2 : 0 ≤ v / n := Int.ediv_nonneg h0 (by omega)
  have h3 : v / n ≤ v := Int.ediv_le_self n h0
  rw [wrap64 (by omega)]
  omega
def hDIns : CH := fun args hl K => match args, hl with
  | [.ptr 0 0 0 _], [.box [.imm t z 1 l, .v (.int .i64 p)]] => ∃ bs, l = bs.map byteC ∧ BytesOk bs ∧ bs.length ≤ 1000 ∧ 0 ≤ p ∧ p ≤ bs.length ∧
      ∀ a b c d q : Int, 0 ≤ q → q ≤ bs.length → K (.agg [.v (.int .i64 a), .v (.int .i64 b), .v (.int .i64 c), .v (.int .i64 d)]) [.box [.imm t z 1 (bs.map byteC), .v (.int .i64 q)]]
  | _, _ => False
def IL (s : Nat) (t z : Bool) (bs : List Int) : List AV → HP → Prop := fun vs h => ∃ a b c d v u q : Int, 0 ≤ v ∧ v ≤ 255 ∧ 0 ≤ q ∧ q ≤ bs.length ∧
  vs = [.ptr 0 0 0 s, .ptr 1 0 0 4, .ptr 2 0 0 4, .v (.int .i64 v), .v (.int .i64 u)] ∧
  h = [.box [.imm t z 1 (bs.map byteC), .v (.int .i64 q)], .box [.v (.int .i64 0), .v (.int .i64 0), .v (.int .i64 0), .v (.int .i64 0)], .box [.v (.int .i64 a), .v (.int .i64 b), .v (.int .i64 c), .v (.int .i64 d)]]
def hPow : CH := fun args hl K => match args, hl with
  | [.v (.int .i64 n)], [] => 0 ≤ n ∧ n ≤ 1000 ∧ ∀ x : Int, K (.v (.int .i64 x)) []
  | _, _ => False
set_option maxRecDepth 100000 in
theorem s_l2Power : HSound Tryz.prog 227 (callM [] false hPow) := by
  refine callM_sound cx0_ok mixed Tryz.func227 rfl fun args hl K hp => ?_
  unfold hPow at hp
  split at hp
  · rename_i n
    obtain ⟨h0, h1, hp⟩ := hp
    obtain ⟨n, rfl⟩ := Int.eq_ofNat_of_zero_le h0
    refine Exists.intro false (Exists.intro [0, 3, 4] (Exists.intro (fun m vs h => ∃ i : Nat, ∃ x : Int, i ≤ n ∧ m = n - i ∧ vs = [.v (.int .i64 n), .v (.int .i64 x), .v (.int .i64 i)] ∧ h = []) (And.intro ?_ ?_)))
    · exact Exists.intro n ⟨0, 1, by omega, rfl, rfl, rfl⟩
    · rintro m vs h ⟨i, x, hi, rfl, rfl, rfl⟩
      refine And.intro (fun h2 => ?_) (fun h2 => ?_)
      · have h2 : i < n := by simpa using h2
        refine Exists.intro (n - (i + 1)) (And.intro (by omega) ?_)
        refine ⟨i + 1, IntKind.i64.wrap (x * 2), by omega, rfl, ?_, rfl⟩
        rw [← wrap_succ h2 (by omega)]
      · exact hp x
  · exact hp.elim

def hDEnc : CH := fun args hl K => match args, hl with
  | [.imm _ _ 1 l], [] => ∃ bs, l = bs.map byteC ∧ BytesOk bs ∧ bs.length ≤ maxLen ∧ ∀ a b c d : Int, K (.agg [.v (.int .i64 a), .v (.int .i64 b), .v (.int .i64 c), .v (.int .i64 d)]) []
  | _, _ => False
def hDWord : CH := fun args hl K => match args, hl with
  | [.ptr 0 0 0 _], [.box [.imm t z 1 l, .v (.int .i64 p)]] => ∃ bs, l = bs.map byteC ∧ BytesOk bs ∧ bs.length ≤ 1000 ∧ 0 ≤ p ∧ p ≤ bs.length ∧
      ∀ a q : Int, 0 ≤ q → q ≤ bs.length → K (.v (.int .i64 a)) [.box [.imm t z 1 (bs.map byteC), .v (.int .i64 q)]]
  | _, _ => False
theorem tm16 {w : Int} (h : 0 ≤ w) : 0 ≤ w.tmod 16 ∧ w.tmod 16 ≤ 1000 := by rw [Int.tmod_eq_emod_of_nonneg h]; omega
def hDDec : CH := fun args hl K => match args, hl with
  | [.imm _ _ 1 l], [] => ∃ bs, l = bs.map byteC ∧ BytesOk bs ∧ bs.length ≤ maxLen ∧ ∀ a : Int, K (.v (.int .i64 a)) []
  | _, _ => False
theorem dec_enc {a b c d : Int} (h : insOk a b c d = true) : decOk (encV a b c d) = true ∧ encV a b c d / 67108864 = a ∧ encV a b c d / 8388608 % 8 = b ∧ encV a b c d / 1048576 % 8 = c ∧ encV a b c d % 65536 = d := by
  have hb := insOk_bounds h
  have e : encV a b c d = a * 67108864 + b * 8388608 + c * 1048576 + d := by simp [encV, h]
  rw [e]
  have e1 : (a * 67108864 + b * 8388608 + c * 1048576 + d) / 67108864 = a := by omega
  have e2 : (a * 67108864 + b * 8388608 + c * 1048576 + d) / 8388608 % 8 = b := by omega
  have e3 : (a * 67108864 + b * 8388608 + c * 1048576 + d) / 1048576 % 8 = c := by omega
  have e4 : (a * 67108864 + b * 8388608 + c * 1048576 + d) % 65536 = d := by omega
  refine ⟨?_, e1, e2, e3, e4⟩
  simp only [decOk, e1, e2, e3, e4, h, Bool.and_true, decide_eq_true_eq]
  omega
theorem enc_dec {w : Int} (h : decOk w = true) : insOk (w / 67108864) (w / 8388608 % 8) (w / 1048576 % 8) (w % 65536) = true ∧ encV (w / 67108864) (w / 8388608 % 8) (w / 1048576 % 8) (w % 65536) = w := by
  simp only [decOk, Bool.and_eq_true, decide_eq_true_eq] at h
  refine ⟨h.2, ?_⟩
  simp only [encV, h.2, if_true]
  omega
theorem fin_t {y : Bool} (e : y = true) : AV.v (.bool y) = AV.v (.bool true) := by rw [e]
end Go.Proofs.YtbfjkjdbdejnmaaGreat.Ab

/- RegionOk: both programs answer alike. No condition. -/
namespace Go.Proofs.YtbfjkjdbdejnmaaGreat.Ab

def hConv6 : CH := fun args hl K => match args, hl with
  | [.agg [.v a, .v b, .v c, .v d, .v e, .v f]], [] => K (.agg [.v a, .v b, .v c, .v d, .v e, .v f]) []
  | _, _ => False
/-- The power of two, up to 62. -/
def hPw : CH := fun args hl K => match args, hl with
  | [.v (.int .i64 n)], [] => 0 ≤ n ∧ n ≤ 62 ∧ K (.v (.int .i64 (2 ^ n.toNat))) []
  | _, _ => False
theorem pow_le {i N : Nat} (h : i ≤ N) : (2 : Int) ^ i ≤ 2 ^ N := by
  have := Nat.pow_le_pow_right (n := 2) (by omega) h
  have h2 : ((2 ^ i : Nat) : Int) ≤ ((2 ^ N : Nat) : Int) := by omega
  simpa using h2
set_option maxRecDepth 100000 in
theorem s_l2Pow2 : HSound Tryz.prog 227 (callM [] false hPw) := by
  refine callM_sound cx0_ok mixed Tryz.func227 rfl fun args hl K hp => ?_
  unfold hPw at hp
  split at hp
  · rename_i n
    obtain ⟨h0, h1, hp⟩ := hp
    obtain ⟨N, rfl⟩ := Int.eq_ofNat_of_zero_le h0
    refine Exists.intro false (Exists.intro [0, 3, 4] (Exists.intro (fun m vs h => ∃ i : Nat, i ≤ N ∧ m = N - i ∧ vs = [.v (.int .i64 N), .v (.int .i64 (2 ^ i)), .v (.int .i64 i)] ∧ h = []) (And.intro ?_ ?_)))
    · refine Exists.intro N ?_
      exact ⟨0, by omega, rfl, rfl, rfl⟩
    · intro m vs h hI
      obtain ⟨i, hi, rfl, rfl, rfl⟩ := hI
      refine And.intro (fun h1 => ?_) (fun h1 => ?_)
      · simp only [decide_eq_true_eq] at h1
        refine Exists.intro (N - (i + 1)) (And.intro (by omega) ?_)
        refine ⟨i + 1, by omega, rfl, ?_, rfl⟩
        have := pow_le (show i + 1 ≤ 62 by omega)
        have hpos : (0 : Int) < 2 ^ i := Int.pow_pos (by omega)
        have hw1 : IntKind.wrap .i64 ((2 : Int) ^ i * 2) = 2 ^ (i + 1) := by
          rw [← Int.pow_succ]
          refine wrap64 ⟨?_, ?_⟩
          · have hpos' : (0 : Int) < 2 ^ (i + 1) := Int.pow_pos (by omega)
            omega
          · have h62 : (2 : Int) ^ 62 = 4611686018427387904 := by decide
            omega
        have hw2 : IntKind.wrap .i64 ((i : Int) + 1) = ((i + 1 : Nat) : Int) := by
          rw [wrap64] <;> omega
        rw [← hw1, ← hw2]
      · simp only [decide_eq_false_iff_not] at h1
        have : i = N := by omega
        subst this
        exact hp
  · exact hp.elim

def regOk (a b c : Int) : Bool := decide (5 ≤ b ∧ b ≤ 14 ∧ 0 ≤ c ∧ c ≤ 255 ∧ (b < 8 → c = 0) ∧ 0 ≤ a ∧ a ≤ 262144 - 2 ^ b.toNat ∧ a.tmod (2 ^ b.toNat) = 0)
def hReg : CH := fun args hl K => match args, hl with
  | [.agg [.v (.int .i64 a), .v (.int .i64 b), .v (.int .i64 c), .v _, .v _, .v _]], [] => K (.v (.bool (regOk a b c))) []
  | _, _ => False
def cxReg : Ctx := mkC [(227, callM [] false hPw)]
theorem cxReg_ok : CtxOk Tryz.prog cxReg := mkC_ok (mem1 ⟨s_l2Pow2, fnOk Tryz.func227 rfl rfl⟩ mem0)
theorem pow14 {b : Int} (h1 : 5 ≤ b) (h2 : b ≤ 14) : (32 : Int) ≤ 2 ^ b.toNat ∧ (2 : Int) ^ b.toNat ≤ 16384 := by
  have hb : b.toNat ≤ 14 := by omega
  have hb' : 5 ≤ b.toNat := by omega
  exact ⟨pow_le hb', pow_le hb⟩
set_option maxRecDepth 100000 in
set_option maxHeartbeats 1000000 in
theorem s_spec_RegionOk : HSound Tryz.prog 228 (callM [] false hReg) := by
  refine callM_sound cxReg_ok mixed Tryz.func228 rfl fun args hl K hp => ?_
  unfold hReg at hp
  split at hp
  · rename_i a b c _ _ _
    repeat' ((first | refine And.intro (fun h1 => ?_) (fun h1 => ?_) | refine And.intro (by simp only [decide_eq_true_eq, decide_eq_false_iff_not] at *; omega) ?_ | refine And.intro (by simp only [decide_eq_true_eq, decide_eq_false_iff_not] at *; have := pow14 (b := b) (by omega) (by omega); omega) ?_) <;> try cases h1)
    all_goals refine fin_b hp ?_
    all_goals clear hp
    all_goals first
      | (simp only [regOk, decide_eq_true_eq, decide_eq_false_iff_not, ne_eq] at *; omega)
      | (simp only [decide_eq_true_eq, decide_eq_false_iff_not] at *
         have hq := pow14 (b := b) (by omega) (by omega)
         have hw := wrap64 (x := 262144 - 2 ^ b.toNat) (by omega)
         rw [Bool.eq_iff_iff]
         simp only [regOk]
         generalize IntKind.i64.wrap (262144 - 2 ^ b.toNat) = ws at *
         generalize (2 : Int) ^ b.toNat = s at *
         generalize a.tmod s = r at *
         simp at *
         omega)
  · exact hp.elim
theorem shl14 {b : Int} (h1 : 5 ≤ b) (h2 : b ≤ 14) : IntKind.i64.wrap (1 * 2 ^ min b.toNat IntKind.i64.bits) = 2 ^ b.toNat := by
  have hq := pow14 h1 h2
  have : min b.toNat IntKind.i64.bits = b.toNat := by simp only [IntKind.bits]; omega
  rw [this, Int.one_mul]
  exact wrap64 (by omega)
set_option maxRecDepth 100000 in
set_option maxHeartbeats 1000000 in
theorem s_impl_RegionOk : HSound Tryz.prog 239 (callM [] false hReg) := by
  refine callM_sound cx0_ok mixed Tryz.func239 rfl fun args hl K hp => ?_
  unfold hReg at hp
  split at hp
  · rename_i a b c _ _ _
    repeat' ((first | refine And.intro (fun h1 => ?_) (fun h1 => ?_) | refine And.intro (by simp only [decide_eq_true_eq, decide_eq_false_iff_not] at *; omega) ?_ | refine And.intro (by simp only [decide_eq_true_eq, decide_eq_false_iff_not] at *; have := pow14 (b := b) (by omega) (by omega); rw [shl14 (by omega) (by omega)]; omega) ?_) <;> try cases h1)
    all_goals refine fin_b hp ?_
    all_goals clear hp
    all_goals first
      | (simp only [regOk, decide_eq_true_eq, decide_eq_false_iff_not, ne_eq] at *; omega)
      | (simp only [decide_eq_true_eq, decide_eq_false_iff_not] at *
         have hq := pow14 (b := b) (by omega) (by omega)
         have hs := shl14 (b := b) (by omega) (by omega)
         have hw := wrap64 (x := 262144 - 2 ^ b.toNat) (by omega)
         rw [Bool.eq_iff_iff]
         simp only [regOk]
         generalize IntKind.i64.wrap (1 * 2 ^ min b.toNat IntKind.i64.bits) = ss at *
         subst hs
         generalize IntKind.i64.wrap (262144 - 2 ^ b.toNat) = ws at *
         generalize (2 : Int) ^ b.toNat = s at *
         generalize a.tmod s = r at *
         simp at *
         omega)
  · exact hp.elim

end Go.Proofs.YtbfjkjdbdejnmaaGreat.Ab

/- Byte slices: size, copy, compare. No condition. -/
namespace Go.Proofs.YtbfjkjdbdejnmaaGreat.Ab

def szB (n : Int) (l : Nat) : Int := if n - l < 0 then -1 else n - l
def hSzB : CH := fun args hl K => match args, hl with
  | [.imm _ _ 1 l, .v (.int .i64 n)], [] => 0 ≤ n ∧ n ≤ 1048576 ∧ (l.length : Int) ≤ 9223372036854775807 ∧ K (.v (.int .i64 (szB n l.length))) []
  | _, _ => False
set_option maxRecDepth 100000 in
theorem s_szByteS : HSound Tryz.prog 83 (callM [] true hSzB) := by
  refine callM_sound cx0_ok mixed Tryz.func83 rfl fun args hl K hp => ?_
  unfold hSzB at hp
  split at hp
  · rename_i l n
    obtain ⟨h0, h1, h2, hp⟩ := hp
    have hw : IntKind.i64.wrap (n - l.length) = n - l.length := wrap64 (by omega)
    repeat' ((first | refine And.intro (fun h1 => ?_) (fun h1 => ?_) | refine And.intro (by decide) ?_ | refine And.intro (show wfB _ = true from by kernel_rfl) ?_ | refine And.intro (And.intro rfl rfl) ?_ | exact And.intro rfl rfl | apply HeldC.intro | exact AV.top | (apply HeldF.intro; refine Exists.intro _ (And.intro (by assumption) ?_); refine And.intro (by decide) ?_; exact And.intro rfl rfl) | (refine And.intro (by (refine Exists.intro _ (And.intro (by assumption) ?_); refine And.intro (by decide) ?_; exact And.intro rfl rfl)) ?_) | refine Or.inl ?_) <;> try cases h1)
    all_goals refine fin_i hp ?_
    all_goals clear hp
    all_goals rw [hw] at *
    all_goals simp only [szB, decide_eq_true_eq, decide_eq_false_iff_not] at *
    all_goals split <;> omega
  · exact hp.elim

def hToB : CH := fun args hl K => match args, hl with
  | [.imm _ _ 1 l], [] => ∃ bs : List Int, l = bs.map byteC ∧ bs.length ≤ 1048576 ∧ K (.slc 0 0 bs.length false) [.lst 1 (bs.map byteC)]
  | _, _ => False
set_option maxRecDepth 100000 in
theorem s_toByteS : HSound Tryz.prog 96 (callM [] true hToB) := by
  refine callM_sound cx0_ok mixed Tryz.func96 rfl fun args hl K hp => ?_
  unfold hToB at hp
  split at hp
  · rename_i t z l
    obtain ⟨bs, rfl, hb, hp⟩ := hp
    refine Or.inl ?_
    refine Exists.intro bs.length (And.intro (by simp) (And.intro (by simp) (And.intro (by simp only; omega) ?_)))
    refine Exists.intro false (Exists.intro [0, 3, 4] (Exists.intro (fun m vs h => ∃ i : Nat, i ≤ bs.length ∧ m = bs.length - i ∧ vs = [.imm t z 1 (bs.map byteC), .slc 0 0 bs.length true, .v (.int .i64 i)] ∧ h = [.lst 1 ((bs.take i).map byteC ++ List.replicate (bs.length - i) (byteC 0))]) (And.intro ?_ ?_)))
    · refine Exists.intro bs.length ?_
      exact ⟨0, by omega, rfl, rfl, rfl⟩
    · intro m vs h hI
      obtain ⟨i, hi, rfl, rfl, rfl⟩ := hI
      refine And.intro (fun h1 => ?_) (fun h1 => ?_)
      · simp only [decide_eq_true_eq, List.length_map] at h1
        have hlt : i < bs.length := by omega
        obtain ⟨b, hbi⟩ : ∃ b, bs[i]? = some b := ⟨_, List.getElem?_eq_getElem hlt⟩
        refine Exists.intro i (And.intro rfl (Exists.intro (byteC b) (And.intro (by simp [hbi]) ?_)))
        refine Exists.intro i (And.intro rfl (And.intro hlt ?_))
        refine Exists.intro (byteC 0) (And.intro (by rw [Nat.zero_add, List.getElem?_append_right (by simp; omega), List.getElem?_replicate, if_pos (by simp; omega)]) (And.intro (by decide) ?_))
        refine Exists.intro (bs.length - (i + 1)) (And.intro (by omega) ?_)
        refine ⟨i + 1, by omega, rfl, ?_, ?_⟩
        · rw [← wrap_succ hlt (by omega)]
        · rw [← fill_step byteC (byteC 0) bs i b hbi, Nat.zero_add]
          rfl
      · simp only [decide_eq_false_iff_not, List.length_map] at h1
        have : i = bs.length := by omega
        subst this
        have e : (bs.take bs.length).map byteC ++ List.replicate (bs.length - bs.length) (byteC 0) = bs.map byteC := by simp
        rw [← e] at hp
        refine And.intro (e ▸ closed_bytes bs) ?_
        exact hp
  · exact hp.elim

def hEqB : CH := fun args hl K => match args, hl with
  | [.imm _ _ 1 l, .imm _ _ 1 r], [] => ∃ cs bs : List Int, l = cs.map byteC ∧ r = bs.map byteC ∧ cs.length ≤ 1048576 ∧ K (.v (.bool (decide (cs = bs)))) []
  | _, _ => False
set_option maxRecDepth 100000 in
theorem s_eqByteS : HSound Tryz.prog 54 (callM [] true hEqB) := by
  refine callM_sound cx0_ok mixed Tryz.func54 rfl fun args hl K hp => ?_
  unfold hEqB at hp
  split at hp
  · rename_i t z l t' z' r
    obtain ⟨cs, bs, rfl, rfl, hb, hp⟩ := hp
    refine And.intro (fun h1 => ?_) (fun h1 => ?_)
    · refine fin_b hp ?_
      have : cs ≠ bs := by rintro rfl; simp at h1
      simp [this]
    · have hlen : cs.length = bs.length := by simp at h1; omega
      clear h1
      refine Exists.intro false (Exists.intro [0, 1, 5] (Exists.intro (fun m vs h => ∃ i : Nat, i ≤ cs.length ∧ m = cs.length - i ∧ vs = [.imm t z 1 (cs.map byteC), .imm t' z' 1 (bs.map byteC), .v (.int .i64 i)] ∧ h = [] ∧ cs.take i = bs.take i) (And.intro ?_ ?_)))
      · refine Exists.intro cs.length ?_
        exact ⟨0, by omega, rfl, rfl, rfl, rfl⟩
      · intro m vs h hI
        obtain ⟨i, hi, rfl, rfl, rfl, htk⟩ := hI
        refine And.intro (fun h1 => ?_) (fun h1 => ?_)
        · simp only [decide_eq_true_eq, List.length_map] at h1
          have hlt : i < cs.length := by omega
          obtain ⟨a, hai⟩ : ∃ a, cs[i]? = some a := ⟨_, List.getElem?_eq_getElem hlt⟩
          obtain ⟨b, hbi⟩ : ∃ b, bs[i]? = some b := ⟨_, List.getElem?_eq_getElem (by omega)⟩
          refine And.intro (by kernel_rfl) ?_
          refine Exists.intro i (And.intro rfl (Exists.intro (byteC a) (And.intro (by simp [hai]) ?_)))
          refine Exists.intro i (And.intro rfl (Exists.intro (byteC b) (And.intro (by simp [hbi]) ?_)))
          refine And.intro (fun h1 => ?_) (fun h1 => ?_)
          · refine fin_b hp ?_
            have : cs ≠ bs := by
              rintro rfl
              rw [hai] at hbi
              cases hbi
              simp at h1
            simp [this]
          · have hab : a = b := by simpa using h1
            subst hab
            refine Exists.intro (cs.length - (i + 1)) (And.intro (by omega) ?_)
            refine ⟨i + 1, by omega, rfl, ?_, rfl, take_step htk hai hbi⟩
            have hw2 : IntKind.wrap .i64 ((i : Int) + 1) = ((i + 1 : Nat) : Int) := by
              rw [wrap64] <;> omega
            rw [← hw2]
        · simp only [decide_eq_false_iff_not, List.length_map] at h1
          refine fin_b hp ?_
          have : cs = bs := by
            have e1 : cs.take i = cs := List.take_of_length_le (by omega)
            have e2 : bs.take i = bs := List.take_of_length_le (by omega)
            rw [← e1, htk, e2]
          simp [this]
  · exact hp.elim
end Go.Proofs.YtbfjkjdbdejnmaaGreat.Ab

/- MemOk: both programs answer alike (the structs). No condition. -/
namespace Go.Proofs.YtbfjkjdbdejnmaaGreat.Ab

def cxSz : Ctx := mkC [(83, callM [] true hSzB)]
theorem cxSz_ok : CtxOk Tryz.prog cxSz := mkC_ok (mem1 ⟨s_szByteS, fnOk Tryz.func83 rfl rfl⟩ mem0)
def szM (n : Int) (a b c : Nat) : Int := if n - a - b - c < 0 then -1 else n - a - b - c
def hSzM : CH := fun args hl K => match args, hl with
  | [.agg [.imm _ _ 1 a, .imm _ _ 1 b, .imm _ _ 1 c], .v (.int .i64 n)], [] => 0 ≤ n ∧ n ≤ 1048576 ∧ (a.length : Int) ≤ 9223372036854775807 ∧ (b.length : Int) ≤ 9223372036854775807 ∧ (c.length : Int) ≤ 9223372036854775807 ∧ K (.v (.int .i64 (szM n a.length b.length c.length))) []
  | _, _ => False
set_option maxRecDepth 100000 in
theorem s_szMem : HSound Tryz.prog 68 (callM [] true hSzM) := by
  refine callM_sound cxSz_ok mixed Tryz.func68 rfl fun args hl K hp => ?_
  unfold hSzM at hp
  split at hp
  · rename_i _ _ a _ _ b _ _ c n
    obtain ⟨h0, h1, ha, hb, hc, hp⟩ := hp
    refine And.intro h0 (And.intro h1 (And.intro ha ?_))
    refine And.intro (fun h1 => ?_) (fun h1 => ?_)
    · have h1 := of_decide_eq_true h1
      simp only [szB] at h1
      refine fin_i hp ?_
      simp only [szM]
      split at h1 <;> split <;> omega
    simp only [decide_eq_false_iff_not] at h1
    have e1 : szB n a.length = n - a.length := by simp only [szB] at *; split at h1 <;> omega
    refine And.intro (by omega) (And.intro (by omega) (And.intro hb ?_))
    refine And.intro (fun h2 => ?_) (fun h2 => ?_)
    · have h2 := of_decide_eq_true h2
      rw [e1] at h2
      simp only [szB] at h2
      refine fin_i hp ?_
      simp only [szM]
      split at h2 <;> split <;> omega
    simp only [decide_eq_false_iff_not] at h2
    have e2 : szB (szB n a.length) b.length = n - a.length - b.length := by rw [e1] at *; simp only [szB] at *; split at h2 <;> omega
    refine And.intro (by omega) (And.intro (by omega) (And.intro hc ?_))
    refine And.intro (fun h3 => ?_) (fun h3 => ?_)
    · have h3 := of_decide_eq_true h3
      rw [e2] at h3
      simp only [szB] at h3
      refine fin_i hp ?_
      simp only [szM]
      split at h3 <;> split <;> omega
    · refine fin_i hp ?_
      rw [e2] at *
      simp only [decide_eq_false_iff_not, szB, szM] at *
      try rfl
  · exact hp.elim

def hToM : CH := fun args hl K => match args, hl with
  | [.agg [.imm _ _ 1 a, .imm _ _ 1 b, .imm _ _ 1 c]], [] => ∃ as' bs cs : List Int, a = as'.map byteC ∧ b = bs.map byteC ∧ c = cs.map byteC ∧ as'.length ≤ 1048576 ∧ bs.length ≤ 1048576 ∧ cs.length ≤ 1048576 ∧
      K (.agg [.slc 0 0 as'.length false, .slc 1 0 bs.length false, .slc 2 0 cs.length false]) [.lst 1 (as'.map byteC), .lst 1 (bs.map byteC), .lst 1 (cs.map byteC)]
  | _, _ => False
def cxTo : Ctx := mkC [(96, callM [] true hToB)]
theorem cxTo_ok : CtxOk Tryz.prog cxTo := mkC_ok (mem1 ⟨s_toByteS, fnOk Tryz.func96 rfl rfl⟩ mem0)
set_option maxRecDepth 100000 in
theorem s_toMem : HSound Tryz.prog 74 (callM [] true hToM) := by
  refine callM_sound cxTo_ok mixed Tryz.func74 rfl fun args hl K hp => ?_
  unfold hToM at hp
  split at hp
  · obtain ⟨a, b, c, rfl, rfl, rfl, ha, hb, hc, hp⟩ := hp
    refine Exists.intro a (And.intro rfl (And.intro ha ?_))
    refine Exists.intro b (And.intro rfl (And.intro hb ?_))
    refine Exists.intro c (And.intro rfl (And.intro hc ?_))
    refine And.intro (closed_bytes a) ?_
    refine And.intro (closed_bytes b) ?_
    refine And.intro (closed_bytes c) ?_
    exact hp
  · exact hp.elim

def memOk (a b c : Nat) : Bool := decide (a ≤ 16384 ∧ b ≤ 16384 ∧ c ≤ 5000)
def hMemOk : CH := fun args hl K => match args, hl with
  | [.agg [.imm _ _ 1 a, .imm _ _ 1 b, .imm _ _ 1 c]], [] => K (.v (.bool (memOk a.length b.length c.length))) []
  | _, _ => False
set_option maxRecDepth 100000 in
theorem s_spec_MemOk : HSound Tryz.prog 121 (callM [] true hMemOk) := by
  refine callM_sound cx0_ok mixed Tryz.func121 rfl fun args hl K hp => ?_
  unfold hMemOk at hp
  split at hp
  · repeat' ((first | refine And.intro (fun h1 => ?_) (fun h1 => ?_) | refine And.intro (by decide) ?_ | refine And.intro (show wfB _ = true from by kernel_rfl) ?_ | refine And.intro (And.intro rfl rfl) ?_ | exact And.intro rfl rfl | apply HeldC.intro | exact AV.top | (apply HeldF.intro; refine Exists.intro _ (And.intro (by assumption) ?_); refine And.intro (by decide) ?_; exact And.intro rfl rfl) | (refine And.intro (by (refine Exists.intro _ (And.intro (by assumption) ?_); refine And.intro (by decide) ?_; exact And.intro rfl rfl)) ?_) | refine Or.inl ?_) <;> try cases h1)
    all_goals refine fin_b hp ?_
    all_goals clear hp
    all_goals rw [Bool.eq_iff_iff]
    all_goals simp only [memOk, decide_eq_true_eq, decide_eq_false_iff_not, reduceCtorEq, iff_false, iff_true] at *
    all_goals omega
  · exact hp.elim
set_option maxRecDepth 100000 in
theorem s_impl_MemOk : HSound Tryz.prog 127 (callM [] true hMemOk) := by
  refine callM_sound cx0_ok mixed Tryz.func127 rfl fun args hl K hp => ?_
  unfold hMemOk at hp
  split at hp
  · repeat' ((first | refine And.intro (fun h1 => ?_) (fun h1 => ?_) | refine And.intro (by decide) ?_ | refine And.intro (show wfB _ = true from by kernel_rfl) ?_ | refine And.intro (And.intro rfl rfl) ?_ | exact And.intro rfl rfl | apply HeldC.intro | exact AV.top | (apply HeldF.intro; refine Exists.intro _ (And.intro (by assumption) ?_); refine And.intro (by decide) ?_; exact And.intro rfl rfl) | (refine And.intro (by (refine Exists.intro _ (And.intro (by assumption) ?_); refine And.intro (by decide) ?_; exact And.intro rfl rfl)) ?_) | refine Or.inl ?_) <;> try cases h1)
    all_goals refine fin_b hp ?_
    all_goals clear hp
    all_goals rw [Bool.eq_iff_iff]
    all_goals simp only [memOk, decide_eq_true_eq, decide_eq_false_iff_not, reduceCtorEq, iff_false, iff_true] at *
    all_goals omega
  · exact hp.elim

def hEqM : CH := fun args hl K => match args, hl with
  | [.agg [.imm _ _ 1 a, .imm _ _ 1 b, .imm _ _ 1 c], .agg [.imm _ _ 1 a', .imm _ _ 1 b', .imm _ _ 1 c']], [] => ∃ x y z : List Int, a = x.map byteC ∧ b = y.map byteC ∧ c = z.map byteC ∧ a' = x.map byteC ∧ b' = y.map byteC ∧ c' = z.map byteC ∧
      x.length ≤ 1048576 ∧ y.length ≤ 1048576 ∧ z.length ≤ 1048576 ∧ K (.v (.bool true)) []
  | _, _ => False
def cxEq : Ctx := mkC [(54, callM [] true hEqB)]
theorem cxEq_ok : CtxOk Tryz.prog cxEq := mkC_ok (mem1 ⟨s_eqByteS, fnOk Tryz.func54 rfl rfl⟩ mem0)
set_option maxRecDepth 100000 in
theorem s_eqMem : HSound Tryz.prog 17 (callM [] true hEqM) := by
  refine callM_sound cxEq_ok mixed Tryz.func17 rfl fun args hl K hp => ?_
  unfold hEqM at hp
  split at hp
  · obtain ⟨x, y, z, rfl, rfl, rfl, rfl, rfl, rfl, hx, hy, hz, hp⟩ := hp
    refine Exists.intro x (Exists.intro x (And.intro rfl (And.intro rfl (And.intro hx ?_))))
    refine And.intro (fun h1 => ?_) (fun h1 => ?_)
    · simp at h1
    refine Exists.intro y (Exists.intro y (And.intro rfl (And.intro rfl (And.intro hy ?_))))
    refine And.intro (fun h1 => ?_) (fun h1 => ?_)
    · simp at h1
    refine Exists.intro z (Exists.intro z (And.intro rfl (And.intro rfl (And.intro hz ?_))))
    refine And.intro (fun h1 => ?_) (fun h1 => ?_)
    · simp at h1
    exact hp
  · exact hp.elim
end Go.Proofs.YtbfjkjdbdejnmaaGreat.Ab

/- Read: both programs answer alike. No condition. -/
namespace Go.Proofs.YtbfjkjdbdejnmaaGreat.Ab

def widthB (s : Int) : Bool := decide (s = 1 ∨ s = 2 ∨ s = 4)
def hSize : CH := fun args hl K => match args, hl with
  | [.v (.int .i64 s)], [] => K (.v (.bool (widthB s))) []
  | _, _ => False
set_option maxRecDepth 100000 in
theorem s_goodSize : HSound Tryz.prog 238 (callM [] true hSize) := by
  refine callM_sound cx0_ok mixed Tryz.func238 rfl fun args hl K hp => ?_
  unfold hSize at hp
  split at hp
  · repeat' ((first | refine And.intro (fun h1 => ?_) (fun h1 => ?_) | refine And.intro (by decide) ?_ | refine And.intro (show wfB _ = true from by kernel_rfl) ?_ | refine And.intro (And.intro rfl rfl) ?_ | exact And.intro rfl rfl | apply HeldC.intro | exact AV.top | (apply HeldF.intro; refine Exists.intro _ (And.intro (by assumption) ?_); refine And.intro (by decide) ?_; exact And.intro rfl rfl) | (refine And.intro (by (refine Exists.intro _ (And.intro (by assumption) ?_); refine And.intro (by decide) ?_; exact And.intro rfl rfl)) ?_) | refine Or.inl ?_) <;> try cases h1)
    all_goals refine fin_b hp ?_
    all_goals clear hp
    all_goals rw [Bool.eq_iff_iff]
    all_goals simp [widthB] at *
    all_goals omega
  · exact hp.elim

def insideB (at' size fr n : Int) : Bool := decide (fr ≤ at' ∧ at' ≤ fr + n - size)
def hInside : CH := fun args hl K => match args, hl with
  | [.v (.int .i64 a), .v (.int .i64 s), .v (.int .i64 f), .v (.int .i64 n)], [] => -9223372036854775808 ≤ a ∧ a ≤ 9223372036854775807 ∧ 1 ≤ s ∧ s ≤ 4 ∧ 0 ≤ f ∧ f ≤ 65536 ∧ 0 ≤ n ∧ n ≤ 16384 ∧ K (.v (.bool (insideB a s f n))) []
  | _, _ => False
set_option maxRecDepth 100000 in
theorem s_within : HSound Tryz.prog 243 (callM [] true hInside) := by
  refine callM_sound cx0_ok mixed Tryz.func243 rfl fun args hl K hp => ?_
  unfold hInside at hp
  split at hp
  · rename_i a s f n
    obtain ⟨b1, b2, b3, b4, b5, b6, b7, b8, hp⟩ := hp
    have w2 : IntKind.i64.wrap (n - s) = n - s := wrap64 (by omega)
    repeat' ((first | refine And.intro (fun h1 => ?_) (fun h1 => ?_) | refine And.intro (by decide) ?_ | refine And.intro (show wfB _ = true from by kernel_rfl) ?_ | refine And.intro (And.intro rfl rfl) ?_ | exact And.intro rfl rfl | apply HeldC.intro | exact AV.top | (apply HeldF.intro; refine Exists.intro _ (And.intro (by assumption) ?_); refine And.intro (by decide) ?_; exact And.intro rfl rfl) | (refine And.intro (by (refine Exists.intro _ (And.intro (by assumption) ?_); refine And.intro (by decide) ?_; exact And.intro rfl rfl)) ?_) | refine Or.inl ?_) <;> try cases h1)
    all_goals refine fin_b hp ?_
    all_goals clear hp
    all_goals rw [Bool.eq_iff_iff]
    all_goals simp only [w2, insideB, decide_eq_true_eq, decide_eq_false_iff_not, reduceCtorEq, iff_false, iff_true] at *
    all_goals first
      | omega
      | (have w1 : IntKind.i64.wrap (a - f) = a - f := wrap64 (by omega)
         rw [w1] at *
         omega)
  · exact hp.elim

def lowB : List Int → Int
  | [] => 0
  | b :: bs => lowB bs * 256 + b
def hLow : CH := fun args hl K => match args, hl with
  | [.imm _ _ 1 l], [] => ∃ bs, l = bs.map byteC ∧ BytesOk bs ∧ bs.length ≤ 4 ∧ K (.v (.int .i64 (lowB bs))) []
  | _, _ => False
theorem lowB_bound : ∀ {bs : List Int}, BytesOk bs → 0 ≤ lowB bs ∧ lowB bs < 256 ^ bs.length
  | [], _ => by simp [lowB]
  | b :: bs, h => by
    have h1 := lowB_bound (bs := bs) fun x hx => h x (List.mem_cons_of_mem _ hx)
    have h2 := h b List.mem_cons_self
    simp only [lowB, List.length_cons, Int.pow_succ]
    omega
set_option maxRecDepth 100000 in
theorem s_l1Low : HSound Tryz.prog 52 (callM [] true hLow) := by
  refine callM_sound cx0_ok mixed Tryz.func52 rfl fun args hl K hp => ?_
  unfold hLow at hp
  split at hp
  · rename_i t z l
    obtain ⟨bs, rfl, hb, hn, hp⟩ := hp
    have hw : IntKind.i64.wrap (((bs.map byteC).length : Int) - 1) = bs.length - 1 := by rw [List.length_map]; exact wrap64 (by omega)
    refine Exists.intro false (Exists.intro [0, 3, 4] (Exists.intro (fun m vs h => m ≤ bs.length ∧ vs = [.imm t z 1 (bs.map byteC), .v (.int .i64 (lowB (bs.drop m))), .v (.int .i64 ((m : Int) - 1))] ∧ h = []) (And.intro ?_ ?_)))
    · refine Exists.intro bs.length ?_
      refine ⟨by omega, ?_, rfl⟩
      rw [← hw]
      simp [lowB]
    · intro m vs h hI
      obtain ⟨hm, rfl, rfl⟩ := hI
      refine And.intro (fun h1 => ?_) (fun h1 => ?_)
      · simp only [ge_iff_le, decide_eq_true_eq] at h1
        obtain ⟨i, rfl⟩ : ∃ i, m = i + 1 := ⟨m - 1, by omega⟩
        have hlt : i < bs.length := by omega
        have hbi : bs[i]? = some bs[i] := List.getElem?_eq_getElem hlt
        refine Exists.intro i (And.intro (by omega) (Exists.intro (byteC bs[i]) (And.intro (by simp [hbi]) ?_)))
        have hd : bs.drop i = bs[i] :: bs.drop (i + 1) := (List.drop_eq_getElem_cons hlt)
        have hb' := hb bs[i] (List.getElem_mem hlt)
        have hlow := lowB_bound (bs := bs.drop (i + 1)) fun x hx => hb x (List.mem_of_mem_drop hx)
        have hpow : (256 : Int) ^ (bs.drop (i + 1)).length ≤ 16777216 := by
          have : (bs.drop (i + 1)).length = 0 ∨ (bs.drop (i + 1)).length = 1 ∨ (bs.drop (i + 1)).length = 2 ∨ (bs.drop (i + 1)).length = 3 := by
            rw [List.length_drop]; omega
          rcases this with e | e | e | e <;> rw [e] <;> decide
        refine Exists.intro i (And.intro (by omega) ?_)
        refine ⟨by omega, ?_, rfl⟩
        have e1 : IntKind.i64.wrap (IntKind.i64.wrap (lowB (List.drop (i + 1) bs) * 256) + IntKind.i64.wrap bs[i]) = lowB (bs.drop i) := by
          rw [wrap64 (x := lowB (List.drop (i + 1) bs) * 256) (by omega), wrap64 (x := bs[i]) (by omega), wrap64 (by omega), hd]
          rfl
        have e2 : IntKind.i64.wrap (((i + 1 : Nat) : Int) - 1 - 1) = (i : Int) - 1 := by
          rw [wrap64 (by omega)]; omega
        rw [← e1, ← e2]
      · simp only [ge_iff_le, decide_eq_false_iff_not] at h1
        have : m = 0 := by omega
        subst this
        exact hp
  · exact hp.elim
def hNum : CH := fun args hl K => match args, hl with
  | [.imm _ _ 1 l], [] => ∃ bs, l = bs.map byteC ∧ BytesOk bs ∧ (bs.length = 1 ∨ bs.length = 2 ∨ bs.length = 4) ∧ K (.v (.int .i64 (lowB bs))) []
  | _, _ => False
set_option maxRecDepth 100000 in
theorem s_number : HSound Tryz.prog 112 (callM [] true hNum) := by
  refine callM_sound cx0_ok mixed Tryz.func112 rfl fun args hl K hp => ?_
  unfold hNum at hp
  split at hp
  · rename_i t z l
    obtain ⟨bs, rfl, hb, hn, hp⟩ := hp
    rcases hn with hn | hn | hn
    · obtain ⟨a, rfl⟩ := List.length_eq_one_iff.1 hn
      repeat' ((first | refine And.intro (fun h1 => ?_) (fun h1 => ?_) | refine And.intro (by first | decide | omega | (omega)) ?_ | refine And.intro (show Region.lexB _ _ = true from by kernel_rfl) ?_ | refine And.intro (show wfB _ = true from by kernel_rfl) ?_ | refine And.intro (And.intro rfl rfl) ?_ | exact And.intro rfl rfl | apply HeldC.intro | exact AV.top | (apply HeldF.intro; refine Exists.intro _ (And.intro (by assumption) ?_); refine And.intro (by decide) ?_; exact And.intro rfl rfl) | (refine And.intro (by (refine Exists.intro _ (And.intro (by assumption) ?_); refine And.intro (by decide) ?_; exact And.intro rfl rfl)) ?_) | refine Or.inl ?_ | refine Exists.intro _ (And.intro (int_nat (by first | decide | omega | (omega))) (Exists.intro _ (And.intro rfl ?_)))) <;> try first | cases h1 | exact absurd h1 (by decide))
      refine fin_i hp ?_
      have ha := hb a (by simp)
      rw [wrap64 (x := a) (by omega), orI 8 ⟨0, by simp⟩ (by omega) (by omega) (by omega)]
      simp [lowB]
    · obtain ⟨a, b, rfl⟩ : ∃ a b, bs = [a, b] := by
        match bs, hn with
        | [a, b], _ => exact ⟨a, b, rfl⟩
      repeat' ((first | refine And.intro (fun h1 => ?_) (fun h1 => ?_) | refine And.intro (by first | decide | omega | (omega)) ?_ | refine And.intro (show Region.lexB _ _ = true from by kernel_rfl) ?_ | refine And.intro (show wfB _ = true from by kernel_rfl) ?_ | refine And.intro (And.intro rfl rfl) ?_ | exact And.intro rfl rfl | apply HeldC.intro | exact AV.top | (apply HeldF.intro; refine Exists.intro _ (And.intro (by assumption) ?_); refine And.intro (by decide) ?_; exact And.intro rfl rfl) | (refine And.intro (by (refine Exists.intro _ (And.intro (by assumption) ?_); refine And.intro (by decide) ?_; exact And.intro rfl rfl)) ?_) | refine Or.inl ?_ | refine Exists.intro _ (And.intro (int_nat (by first | decide | omega | (omega))) (Exists.intro _ (And.intro rfl ?_)))) <;> try first | cases h1 | exact absurd h1 (by decide))
      refine fin_i hp ?_
      have ha := hb a (by simp)
      have hb' := hb b (by simp)
      have g8 : (2 : Int) ^ min (Int.toNat 8) IntKind.i64.bits = 256 := by decide
      rw [wrap64 (x := a) (by omega), wrap64 (x := b) (by omega), g8, wrap64 (x := b * 256) (by omega), orI (x := 0) (y := b * 256) 16 ⟨0, by simp⟩ (by omega) (by omega) (by omega), orI (x := 0 + b * 256) (y := a) 8 ⟨b.toNat, by omega⟩ (by omega) (by omega) (by omega)]
      simp [lowB]
    · obtain ⟨a, b, c, d, rfl⟩ : ∃ a b c d, bs = [a, b, c, d] := by
        match bs, hn with
        | [a, b, c, d], _ => exact ⟨a, b, c, d, rfl⟩
      repeat' ((first | refine And.intro (fun h1 => ?_) (fun h1 => ?_) | refine And.intro (by first | decide | omega | (omega)) ?_ | refine And.intro (show Region.lexB _ _ = true from by kernel_rfl) ?_ | refine And.intro (show wfB _ = true from by kernel_rfl) ?_ | refine And.intro (And.intro rfl rfl) ?_ | exact And.intro rfl rfl | apply HeldC.intro | exact AV.top | (apply HeldF.intro; refine Exists.intro _ (And.intro (by assumption) ?_); refine And.intro (by decide) ?_; exact And.intro rfl rfl) | (refine And.intro (by (refine Exists.intro _ (And.intro (by assumption) ?_); refine And.intro (by decide) ?_; exact And.intro rfl rfl)) ?_) | refine Or.inl ?_ | refine Exists.intro _ (And.intro (int_nat (by first | decide | omega | (omega))) (Exists.intro _ (And.intro rfl ?_)))) <;> try first | cases h1 | exact absurd h1 (by decide))
      refine fin_i hp ?_
      have ha := hb a (by simp)
      have hb' := hb b (by simp)
      have hc := hb c (by simp)
      have hd := hb d (by simp)
      have g8 : (2 : Int) ^ min (Int.toNat 8) IntKind.i64.bits = 256 := by decide
      have g16 : (2 : Int) ^ min (Int.toNat 16) IntKind.i64.bits = 65536 := by decide
      have g24 : (2 : Int) ^ min (Int.toNat 24) IntKind.i64.bits = 16777216 := by decide
      rw [wrap64 (x := a) (by omega), wrap64 (x := b) (by omega), wrap64 (x := c) (by omega), wrap64 (x := d) (by omega), g8, g16, g24, wrap64 (x := b * 256) (by omega), wrap64 (x := c * 65536) (by omega), wrap64 (x := d * 16777216) (by omega),
        orI (x := d * 16777216) (y := c * 65536) 24 ⟨d.toNat, by omega⟩ (by omega) (by omega) (by omega), orI (x := d * 16777216 + c * 65536) (y := b * 256) 16 ⟨d.toNat * 256 + c.toNat, by omega⟩ (by omega) (by omega) (by omega), orI (x := d * 16777216 + c * 65536 + b * 256) (y := a) 8 ⟨d.toNat * 65536 + c.toNat * 256 + b.toNat, by omega⟩ (by omega) (by omega) (by omega)]
      simp only [lowB]
      omega
  · exact hp.elim

def cutB (l : List Int) (a n : Int) : List Int := (l.drop a.toNat).take n.toNat
def readR (f r o : List Int) (a s : Int) : Int × Int :=
  if (memOk f.length r.length o.length && widthB s) = false then (0, 2) else if a.tmod s ≠ 0 then (0, 1) else if a = 131072 then (0, 4)
  else if insideB a s 0 f.length = true then (lowB (cutB f a s), 0) else if insideB a s 65536 r.length = true then (lowB (cutB r (a - 65536) s), 0) else (0, 2)
def hRead : CH := fun args hl K => match args, hl with
  | [.agg [.imm _ _ 1 x, .imm _ _ 1 y, .imm _ _ 1 z], .v (.int .i64 a), .v (.int .i64 s)], [] => ∃ f r o : List Int, x = f.map byteC ∧ y = r.map byteC ∧ z = o.map byteC ∧ BytesOk f ∧ BytesOk r ∧ -9223372036854775808 ≤ a ∧ a ≤ 9223372036854775807 ∧
      K (.tup [.v (.int .i64 (readR f r o a s).1), .v (.int .i64 (readR f r o a s).2)]) []
  | _, _ => False
theorem fin_ii {K : AV → HP → Prop} {h : HP} {x y : Int} {p : Int × Int} (hp : K (.tup [.v (.int .i64 p.1), .v (.int .i64 p.2)]) h) (e : p = (x, y)) : K (.tup [.v (.int .i64 x), .v (.int .i64 y)]) h := by subst e; exact hp
def cxAt : Ctx := mkC [(243, callM [] true hInside)]
theorem cxAt_ok : CtxOk Tryz.prog cxAt := mkC_ok (mem1 ⟨s_within, fnOk Tryz.func243 rfl rfl⟩ mem0)
def iAt : Handler := inlH cxAt Tryz.f242.ntmps Tryz.f242.results.toList (Tryz.f242.body.getD .skip)
theorem s_bytesAt : HSound Tryz.prog 242 iAt := inlF cxAt_ok mixed Tryz.func242 rfl
def cxrd : Ctx := mkC [(242, iAt), (112, callM [] true hNum)]
theorem cxrd_ok : CtxOk Tryz.prog cxrd := mkC_ok (mem1 ⟨s_bytesAt, fnOk Tryz.func242 rfl rfl⟩ (mem1 ⟨s_number, fnOk Tryz.func112 rfl rfl⟩ mem0))
def ird : Handler := inlH cxrd Tryz.f233.ntmps Tryz.f233.results.toList (Tryz.f233.body.getD .skip)
theorem s_rd : HSound Tryz.prog 233 ird := inlF cxrd_ok mixed Tryz.func233 rfl
def cxIRead : Ctx := mkC [(127, callM [] true hMemOk), (238, callM [] true hSize), (233, ird)]
theorem cxIRead_ok : CtxOk Tryz.prog cxIRead := mkC_ok (mem1 ⟨s_impl_MemOk, fnOk Tryz.func127 rfl rfl⟩ (mem1 ⟨s_goodSize, fnOk Tryz.func238 rfl rfl⟩
  (mem1 ⟨s_rd, fnOk Tryz.func233 rfl rfl⟩ mem0)))
end Go.Proofs.YtbfjkjdbdejnmaaGreat.Ab
