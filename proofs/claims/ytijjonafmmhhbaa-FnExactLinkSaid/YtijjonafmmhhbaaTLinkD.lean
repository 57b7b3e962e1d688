/- Link: what it answers, in plain words. No condition. -/
import Derived.Test.YtijjonafmmhhbaaTRes3
import Derived.Test.YtijjonafmmhhbaaTMok2
import Derived.Test.YtijjonafmmhhbaaTEnc1
import Derived.Test.YtijjonafmmhhbaaTLay1
namespace Go.Proofs.Ytijjonafmmhhbaa.Ab
set_option linter.unusedVariables false
set_option linter.unusedSimpArgs false

structure Cf where
  slots : Int
  words : Int
  stack : Int
  depth : Int
def cfV (c : Cf) : AV := .agg [.v (.int .i64 c.slots), .v (.int .i64 c.words), .v (.int .i64 c.stack), .v (.int .i64 c.depth)]
def cfgB (c : Cf) : Bool := decide (0 ≤ c.slots ∧ c.slots ≤ 4 ∧ 1 ≤ c.words ∧ c.words ≤ 64 ∧ 0 ≤ c.stack ∧ c.stack ≤ 1024 ∧ c.stack.tmod 32 = 0 ∧ 0 ≤ c.depth ∧ c.depth ≤ 100)
def newB (ms : List Mo) (i : Nat) : Bool := match ms[i]? with | some m => !seenB ms i m.name | none => true
def soundF (ms : List Mo) (c : Cf) : Int :=
  if cfgB c = false then 1 else if decide (1 ≤ ms.length ∧ ms.length ≤ 4) = false then 2 else if ms.all (fun m => decide (modOk m = 0)) = false then 3 else if (List.range ms.length).all (newB ms) = false then 4 else 0
def tgOf (p : Nat × Ex) : Tg := ⟨p.1, p.2.bank, p.2.pos⟩
def tgsOf (ms : List Mo) (l : List ByteArray) : List Tg := l.filterMap fun s => (resolveF ms s).map tgOf
def resB (ms : List Mo) (l : List ByteArray) : Bool := l.all fun s => (resolveF ms s).isSome
def bankB (c : Cf) (m : Mo) : Bool := m.banks.all fun b => decide ((b.length : Int) ≤ c.words)
def longB (ms : List Mo) (c : Cf) : Bool := decide (0 < c.slots) && !ms.all (bankB c)
def rup (n : Nat) : Nat := (n + 31) / 32 * 32
def bkP (bs : List (List Int)) (f : Nat) : Nat → List Int × Nat
  | 0 => ([], f)
  | k + 1 => match bs[k]? with
    | some b => ((bkP bs f k).1 ++ [((bkP bs f k).2 : Int)], (bkP bs f k).2 + rup (4 * b.length))
    | none => bkP bs f k
def moSz (m : Mo) : Nat := rup (m.data.length + m.bss.toNat)
def plP (ms : List Mo) : Nat → List Pl × Nat × Nat
  | 0 => ([], 0, 0)
  | i + 1 => match ms[i]? with
    | some m => ((plP ms i).1 ++ [⟨(plP ms i).2.1, (bkP m.banks ((plP ms i).2.1 + rup (4 * m.text.length)) m.banks.length).1, 65536 + ((plP ms i).2.2 : Int), moSz m⟩], (bkP m.banks ((plP ms i).2.1 + rup (4 * m.text.length)) m.banks.length).2, (plP ms i).2.2 + moSz m)
    | none => plP ms i
def slP (w r : Nat) : Nat → List Int × Nat
  | 0 => ([], r)
  | k + 1 => ((slP w r k).1 ++ [65536 + ((slP w r k).2 : Int)], (slP w r k).2 + rup (4 * w))
structure La where
  pls : List Pl
  stack : Int
  slots : List Int
  flash : Int
  ram : Int
  tgts : List (List Tg)
def laF (ms : List Mo) (c : Cf) : La :=
  ⟨(plP ms ms.length).1, 65536 + ((plP ms ms.length).2.2 : Int), (slP c.words.toNat ((plP ms ms.length).2.2 + c.stack.toNat) c.slots.toNat).1, (plP ms ms.length).2.1, (slP c.words.toNat ((plP ms ms.length).2.2 + c.stack.toNat) c.slots.toNat).2, ms.map fun m => tgsOf ms m.imps⟩
def linkC (ms : List Mo) (c : Cf) : Int :=
  if soundF ms c ≠ 0 then soundF ms c else if ms.all (fun m => resB ms m.imps) = false then 5 else if longB ms c = true then 6 else if 16384 < (laF ms c).flash then 7 else if 16384 < (laF ms c).ram then 8 else 0
def zeroLa : La := ⟨[], 0, [], 0, 0, []⟩
def linkL (ms : List Mo) (c : Cf) : La := if linkC ms c = 0 then laF ms c else zeroLa

/-! ### What modules that pass are like -/

structure Sound (ms : List Mo) (c : Cf) : Prop where
  cfg : 0 ≤ c.slots ∧ c.slots ≤ 4 ∧ 1 ≤ c.words ∧ c.words ≤ 64 ∧ 0 ≤ c.stack ∧ c.stack ≤ 1024 ∧ c.stack.tmod 32 = 0
  len : 1 ≤ ms.length ∧ ms.length ≤ 4
  mo : ∀ m ∈ ms, GoodM m
  full : ∀ m ∈ ms, ∀ s ∈ m.imps, fullOk s = true
theorem full_of {m : Mo} (h : modOk m = 0) : ∀ s ∈ m.imps, fullOk s = true := by
  obtain ⟨_, _, _, _, h5, _⟩ := modOk_parts h
  simp only [impsB, Bool.and_eq_true, List.all_eq_true] at h5
  exact h5.2
theorem sound_of {ms : List Mo} {c : Cf} (h : soundF ms c = 0) : Sound ms c := by
  unfold soundF at h
  repeat' split at h
  all_goals first | (exfalso; omega) | skip
  rename_i h1 h2 h3 h4
  simp only [cfgB, Bool.not_eq_false, decide_eq_true_eq, List.all_eq_true] at h1 h2 h3
  exact ⟨⟨h1.1, h1.2.1, h1.2.2.1, h1.2.2.2.1, h1.2.2.2.2.1, h1.2.2.2.2.2.1, h1.2.2.2.2.2.2.1⟩, h2, fun m hm => good_of (h3 m hm), fun m hm => full_of (h3 m hm)⟩
theorem res_eq {ms : List Mo} (hl : ms.length ≤ 4) (hg : ∀ m ∈ ms, GoodM m) {s : ByteArray} (hf : fullOk s = true) : namesP ms ms.length s = resolveF ms s := by
  have e := names_res (ms := ms) hf ms.length (Nat.le_refl _)
  rw [List.take_length] at e
  rw [e]
  have : ms.all (fun m => decide (m.exps.length ≤ 16)) = true := by
    rw [List.all_eq_true]
    intro q hq
    simpa using (hg q hq).el
  simp only [resolveF, decide_eq_true hl, hf, this, Bool.and_true]
theorem rup_le (n : Nat) : rup n ≤ n + 31 := by unfold rup; omega
theorem rup_mod (n : Nat) : rup n % 32 = 0 := by unfold rup; omega
theorem rup_id {n : Nat} (h : n % 32 = 0) : rup n = n := by unfold rup; omega
theorem bkP_len (bs : List (List Int)) (f : Nat) {k : Nat} (h : k ≤ bs.length) : (bkP bs f k).1.length = k := by
  induction k with
  | zero => rfl
  | succ k ih => simp only [bkP, List.getElem?_eq_getElem (show k < bs.length by omega)]; simp [ih (by omega)]
theorem bkP_le {bs : List (List Int)} (hb : ∀ b ∈ bs, b.length ≤ 64) (f k : Nat) : (bkP bs f k).2 ≤ f + 287 * k := by
  induction k with
  | zero => simp [bkP]
  | succ k ih =>
    unfold bkP
    split
    · rename_i b h
      have := hb b (List.mem_of_getElem? h)
      have := rup_le (4 * b.length)
      simp only
      omega
    · omega
theorem bkP_at (bs : List (List Int)) (f : Nat) {k : Nat} {b : List Int} (h : bs[k]? = some b) : bkP bs f (k + 1) = ((bkP bs f k).1 ++ [((bkP bs f k).2 : Int)], (bkP bs f k).2 + rup (4 * b.length)) := by
  rw [bkP, h]
theorem plP_at {ms : List Mo} {i : Nat} {m : Mo} (h : ms[i]? = some m) : plP ms (i + 1) = ((plP ms i).1 ++ [⟨(plP ms i).2.1, (bkP m.banks ((plP ms i).2.1 + rup (4 * m.text.length)) m.banks.length).1, 65536 + ((plP ms i).2.2 : Int), moSz m⟩], (bkP m.banks ((plP ms i).2.1 + rup (4 * m.text.length)) m.banks.length).2, (plP ms i).2.2 + moSz m) := by
  rw [plP, h]
theorem plP_le {ms : List Mo} (hg : ∀ m ∈ ms, GoodM m) (i : Nat) : (plP ms i).2.1 ≤ 1979 * i ∧ (plP ms i).2.2 ≤ 1055 * i := by
  induction i with
  | zero => simp [plP]
  | succ i ih =>
    unfold plP
    split
    · rename_i m h
      have g := hg m (List.mem_of_getElem? h)
      have h1 := bkP_le (fun b hb => (g.bk b hb).1) ((plP ms i).2.1 + rup (4 * m.text.length)) m.banks.length
      have h2 := rup_le (4 * m.text.length)
      have h3 := rup_le (m.data.length + m.bss.toNat)
      have h4 := g.tl
      have h5 := g.bl
      have h6 := g.dl
      have h7 := g.bss
      simp only [moSz]
      omega
    · omega
theorem plP_ram (ms : List Mo) (i : Nat) : (plP ms i).2.2 % 32 = 0 := by
  induction i with
  | zero => rfl
  | succ i ih =>
    unfold plP
    split
    · rename_i m h
      have := rup_mod (m.data.length + m.bss.toNat)
      simp only [moSz]
      omega
    · exact ih
theorem plP_len {ms : List Mo} {i : Nat} (h : i ≤ ms.length) : (plP ms i).1.length = i := by
  induction i with
  | zero => rfl
  | succ i ih => simp only [plP, List.getElem?_eq_getElem (show i < ms.length by omega)]; simp [ih (by omega)]
theorem slP_len (w r k : Nat) : (slP w r k).1.length = k := by
  induction k with
  | zero => rfl
  | succ k ih => simp [slP, ih]
theorem slP_le {w : Nat} (hw : w ≤ 64) (r k : Nat) : (slP w r k).2 ≤ r + 287 * k := by
  induction k with
  | zero => simp [slP]
  | succ k ih =>
    have := rup_le (4 * w)
    simp only [slP]
    omega
theorem tgs_at {ms : List Mo} {l : List ByteArray} {i : Nat} {s : ByteArray} {p : Nat × Ex} (h : l[i]? = some s) (hr : resolveF ms s = some p) : tgsOf ms (l.take (i + 1)) = tgsOf ms (l.take i) ++ [tgOf p] := by
  unfold tgsOf
  rw [List.take_add_one, h]
  simp [hr]
/-- Rounded up, in the program's numbers. -/
theorem rup_wrap {n : Nat} (h : n ≤ 1099511627776) : IntKind.i64.wrap (IntKind.i64.wrap ((IntKind.i64.wrap (IntKind.i64.wrap ((n : Int) + 32) - 1)).tdiv 32) * 32) = (rup n : Int) := by
  rw [wrap64 (x := (n : Int) + 32) (by omega), wrap64 (x := (n : Int) + 32 - 1) (by omega), Int.tdiv_eq_ediv_of_nonneg (by omega), wrap64 (x := ((n : Int) + 32 - 1) / 32) (by omega), wrap64 (by omega)]
  unfold rup
  omega
end Go.Proofs.Ytijjonafmmhhbaa.Ab
