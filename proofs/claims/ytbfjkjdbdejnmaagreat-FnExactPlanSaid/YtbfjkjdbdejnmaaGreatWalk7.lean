/- Functions walked, part 7. No condition. -/
import Derived.Test.YtbfjkjdbdejnmaaGreatWalk4
import Derived.Test.YtbfjkjdbdejnmaaGreatWalk5
import Derived.Test.YtbfjkjdbdejnmaaGreatWalk6
set_option linter.unusedVariables false
set_option linter.unusedSimpArgs false
/- Link: what it answers, in plain words. No condition. -/
namespace Go.Proofs.YtbfjkjdbdejnmaaGreat.Ab
set_option linter.unusedVariables false
set_option linter.unusedSimpArgs false

structure Cf where
  slots : Int
  words : Int
  stack : Int
  depth : Int
def cfV (c : Cf) : AV := .agg [.v (.int .i64 c.slots), .v (.int .i64 c.words), .v (.int .i64 c.stack), .v (.int .i64 c.depth)]
def cfgB (c : Cf) : Bool := decide (0 ≤ c.slots ∧ c.slots ≤ 4 ∧ 1 ≤ c.words ∧ c.words ≤ 64 ∧ 0 ≤ c.stack ∧ c.stack ≤ 1024 ∧ c.stack.tmod 32 = 0 ∧ 0 ≤ c.depth ∧ c.depth ≤ 100)
def newB (ms : List Mo) (i : Nat) : Bool := match ms[i]? with | some m => !seenB ms i m.name | none => true
def soundF (ms : List Mo) (c : Cf) : Int :=
  if cfgB c = false then 1 else if decide (1 ≤ ms.length ∧ ms.length ≤ 4) = false then 2 else if ms.all (fun m => decide (modOk m = 0)) = false then 3 else if (List.range ms.length).all (newB ms) = false then 4 else 0
def tgOf (p : Nat × Ex) : Tg := ⟨p.1, p.2.bank, p.2.pos⟩
def tgsOf (ms : List Mo) (l : List ByteArray) : List Tg := l.filterMap fun s => (resolveF ms s).map tgOf
def resB (ms : List Mo) (l : List ByteArray) : Bool := l.all fun s => (resolveF ms s).isSome
def bankB (c : Cf) (m : Mo) : Bool := m.banks.all fun b => decide ((b.length : Int) ≤ c.words)
def longB (ms : List Mo) (c : Cf) : Bool := decide (0 < c.slots) && !ms.all (bankB c)
def rup (n : Nat) : Nat := (n + 31) / 32 * 32
def bkP (bs : List (List Int)) (f : Nat) : Nat → List Int × Nat
  | 0 => ([], f)
  | k + 1 => match bs[k]? with
    | some b => ((bkP bs f k).1 ++ [((bkP bs f k).2 : Int)], (bkP bs f k).2 + rup (4 * b.length))
    | none => bkP bs f k
def moSz (m : Mo) : Nat := rup (m.data.length + m.bss.toNat)
def plP (ms : List Mo) : Nat → List Pl × Nat × Nat
  | 0 => ([], 0, 0)
  | i + 1 => match ms[i]? with
    | some m => ((plP ms i).1 ++ [⟨(plP ms i).2.1, (bkP m.banks ((plP ms i).2.1 + rup (4 * m.text.length)) m.banks.length).1, 65536 + ((plP ms i).2.2 : Int), moSz m⟩], (bkP m.banks ((plP ms i).2.1 + rup (4 * m.text.length)) m.banks.length).2, (plP ms i).2.2 + moSz m)
    | none => plP ms i
def slP (w r : Nat) : Nat → List Int × Nat
  | 0 => ([], r)
  | k + 1 => ((slP w r k).1 ++ [65536 + ((slP w r k).2 : Int)], (slP w r k).2 + rup (4 * w))
structure La where
  pls : List Pl
  stack : Int
  slots : List Int
  flash : Int
  ram : Int
  tgts : List (List Tg)
def laF (ms : List Mo) (c : Cf) : La :=
  ⟨(plP ms ms.length).1, 65536 + ((plP ms ms.length).2.2 : Int), (slP c.words.toNat ((plP ms ms.length).2.2 + c.stack.toNat) c.slots.toNat).1, (plP ms ms.length).2.1, (slP c.words.toNat ((plP ms ms.length).2.2 + c.stack.toNat) c.slots.toNat).2, ms.map fun m => tgsOf ms m.imps⟩
def linkC (ms : List Mo) (c : Cf) : Int :=
  if soundF ms c ≠ 0 then soundF ms c else if ms.all (fun m => resB ms m.imps) = false then 5 else if longB ms c = true then 6 else if 16384 < (laF ms c).flash then 7 else if 16384 < (laF ms c).ram then 8 else 0
def zeroLa : La := ⟨[], 0, [], 0, 0, []⟩
def linkL (ms : List Mo) (c : Cf) : La := if linkC ms c = 0 then laF ms c else zeroLa

/-! ### What modules that pass are like -/

structure Sound (ms : List Mo) (c : Cf) : Prop where
  cfg : 0 ≤ c.slots ∧ c.slots ≤ 4 ∧ 1 ≤ c.words ∧ c.words ≤ 64 ∧ 0 ≤ c.stack ∧ c.stack ≤ 1024 ∧ c.stack.tmod 32 = 0
  len : 1 ≤ ms.length ∧ ms.length ≤ 4
  mo : ∀ m ∈ ms, GoodM m
  full : ∀ m ∈ ms, ∀ s ∈ m.imps, fullOk s = true
theorem full_of {m : Mo} (h : modOk m = 0) : ∀ s ∈ m.imps, fullOk s = true := by
  obtain ⟨_, _, _, _, h5, _⟩ := modOk_parts h
  simp only [impsB, Bool.and_eq_true, List.all_eq_true] at h5
  exact h5.2
theorem sound_of {ms : List Mo} {c : Cf} (h : soundF ms c = 0) : Sound ms c := by
  unfold soundF at h
  repeat' split at h
  all_goals first | (exfalso; omega) | skip
  rename_i h1 h2 h3 h4
  simp only [cfgB, Bool.not_eq_false, decide_eq_true_eq, List.all_eq_true] at h1 h2 h3
  exact ⟨⟨h1.1, h1.2.1, h1.2.2.1, h1.2.2.2.1, h1.2.2.2.2.1, h1.2.2.2.2.2.1, h1.2.2.2.2.2.2.1⟩, h2, fun m hm => good_of (h3 m hm), fun m hm => full_of (h3 m hm)⟩
theorem res_eq {ms : List Mo} (hl : ms.length ≤ 4) (hg : ∀ m ∈ ms, GoodM m) {s : ByteArray} (hf : fullOk s = true) : namesP ms ms.length s = resolveF ms s := by
  have e := names_res (ms := ms) hf ms.length (Nat.le_refl _)
  rw [List.take_length] at e
  rw [e]
  have : ms.all (fun m => decide (m.exps.length ≤ 16)) = true := by
    rw [List.all_eq_true]
    intro q hq
    simpa using (hg q hq).el
  simp only [resolveF, decide_eq_true hl, hf, this, Bool.and_true]
theorem rup_le (n : Nat) : rup n ≤ n + 31 := by unfold rup; omega
theorem rup_mod (n : Nat) : rup n % 32 = 0 := by unfold rup; omega
theorem rup_id {n : Nat} (h : n % 32 = 0) : rup n = n := by unfold rup; omega
theorem bkP_len (bs : List (List Int)) (f : Nat) {k : Nat} (h : k ≤ bs.length) : (bkP bs f k).1.length = k := by
  induction k with
  | zero => rfl
  | succ k ih => simp only [bkP, List.getElem?_eq_getElem (show k < bs.length by omega)]; simp [ih (by omega)]
theorem bkP_le {bs : List (List Int)} (hb : ∀ b ∈ bs, b.length ≤ 64) (f k : Nat) : (bkP bs f k).2 ≤ f + 287 * k := by
  induction k with
  | zero => simp [bkP]
  | succ k ih =>
    unfold bkP
    split
    · rename_i b h
      have := hb b (List.mem_of_getElem? h)
      have := rup_le (4 * b.length)
      simp only
      omega
    · omega
theorem bkP_at (bs : List (List Int)) (f : Nat) {k : Nat} {b : List Int} (h : bs[k]? = some b) : bkP bs f (k + 1) = ((bkP bs f k).1 ++ [((bkP bs f k).2 : Int)], (bkP bs f k).2 + rup (4 * b.length)) := by
  rw [bkP, h]
theorem plP_at {ms : List Mo} {i : Nat} {m : Mo} (h : ms[i]? = some m) : plP ms (i + 1) = ((plP ms i).1 ++ [⟨(plP ms i).2.1, (bkP m.banks ((plP ms i).2.1 + rup (4 * m.text.length)) m.banks.length).1, 65536 + ((plP ms i).2.2 : Int), moSz m⟩], (bkP m.banks ((plP ms i).2.1 + rup (4 * m.text.length)) m.banks.length).2, (plP ms i).2.2 + moSz m) := by
  rw [plP, h]
theorem plP_le {ms : List Mo} (hg : ∀ m ∈ ms, GoodM m) (i : Nat) : (plP ms i).2.1 ≤ 1979 * i ∧ (plP ms i).2.2 ≤ 1055 * i := by
  induction i with
  | zero => simp [plP]
  | succ i ih =>
    unfold plP
    split
    · rename_i m h
      have g := hg m (List.mem_of_getElem? h)
      have h1 := bkP_le (fun b hb => (g.bk b hb).1) ((plP ms i).2.1 + rup (4 * m.text.length)) m.banks.length
      have h2 := rup_le (4 * m.text.length)
      have h3 := rup_le (m.data.length + m.bss.toNat)
      have h4 := g.tl
      have h5 := g.bl
      have h6 := g.dl
      have h7 := g.bss
      simp only [moSz]
      omega
    · omega
theorem plP_ram (ms : List Mo) (i : Nat) : (plP ms i).2.2 % 32 = 0 := by
  induction i with
  | zero => rfl
  | succ i ih =>
    unfold plP
    split
    · rename_i m h
      have := rup_mod (m.data.length + m.bss.toNat)
      simp only [moSz]
      omega
    · exact ih
theorem plP_len {ms : List Mo} {i : Nat} (h : i ≤ ms.length) : (plP ms i).1.length = i := by
  induction i with
  | zero => rfl
  | succ i ih => simp only [plP, List.getElem?_eq_getElem (show i < ms.length by omega)]; simp [ih (by omega)]
theorem slP_len (w r k : Nat) : (slP w r k).1.length = k := by
  induction k with
  | zero => rfl
  | succ k ih => simp [slP, ih]
theorem slP_le {w : Nat} (hw : w ≤ 64) (r k : Nat) : (slP w r k).2 ≤ r + 287 * k := by
  induction k with
  | zero => simp [slP]
  | succ k ih =>
    have := rup_le (4 * w)
    simp only [slP]
    omega
theorem tgs_at {ms : List Mo} {l : List ByteArray} {i : Nat} {s : ByteArray} {p : Nat × Ex} (h : l[i]? = some s) (hr : resolveF ms s = some p) : tgsOf ms (l.take (i + 1)) = tgsOf ms (l.take i) ++ [tgOf p] := by
  unfold tgsOf
  rw [List.take_add_one, h]
  simp [hr]
/-- Rounded up, in the program's numbers. -/
theorem rup_wrap {n : Nat} (h : n ≤ 1099511627776) : IntKind.i64.wrap (IntKind.i64.wrap ((IntKind.i64.wrap (IntKind.i64.wrap ((n : Int) + 32) - 1)).tdiv 32) * 32) = (rup n : Int) := by
  rw [wrap64 (x := (n : Int) + 32) (by omega), wrap64 (x := (n : Int) + 32 - 1) (by omega), Int.tdiv_eq_ediv_of_nonneg (by omega), wrap64 (x := ((n : Int) + 32 - 1) / 32) (by omega), wrap64 (by omega)]
  unfold rup
  omega
end Go.Proofs.YtbfjkjdbdejnmaaGreat.Ab

/- Link: configurations and allocators. No condition. -/
namespace Go.Proofs.YtbfjkjdbdejnmaaGreat.Ab
set_option linter.unusedVariables false
set_option linter.unusedSimpArgs false

def hCfg : CH := fun args hl K => match args, hl with
  | [.agg [.v (.int .i64 a), .v (.int .i64 b), .v (.int .i64 c), .v (.int .i64 d)]], [] => K (.v (.bool (cfgB ⟨a, b, c, d⟩))) []
  | _, _ => False
def cx_s_impl_ConfigOk : Ctx := mkC []
theorem cx_s_impl_ConfigOk_ok : CtxOk Tryz.prog cx_s_impl_ConfigOk := cx0_ok
set_option maxRecDepth 100000 in
set_option pp.maxSteps 1500 in
set_option maxHeartbeats 4000000 in
theorem s_impl_ConfigOk : HSound Tryz.prog 145 (callM [] false hCfg) := by
  refine callM_sound cx_s_impl_ConfigOk_ok mixed Tryz.func145 rfl fun args hl K hp => ?_
  unfold hCfg at hp
  split at hp
  · rename_i a b c d
    repeat' ((first | refine And.intro (fun h1 => ?_) (fun h1 => ?_) | refine And.intro (by decide) ?_ | refine And.intro (show wfB _ = true from by kernel_rfl) ?_ | refine And.intro (And.intro rfl rfl) ?_ | exact And.intro rfl rfl | apply HeldC.intro | exact AV.top | (apply HeldF.intro; refine Exists.intro _ (And.intro (by assumption) ?_); refine And.intro (by decide) ?_; exact And.intro rfl rfl) | (refine And.intro (by (refine Exists.intro _ (And.intro (by assumption) ?_); refine And.intro (by decide) ?_; exact And.intro rfl rfl)) ?_) | refine Or.inl ?_) <;> try cases h1)
    all_goals refine fin_b hp ?_
    all_goals clear hp
    all_goals rw [Bool.eq_iff_iff]
    all_goals simp only [cfgB, decide_eq_true_eq]
    all_goals generalize c.tmod 32 = r at *
    all_goals simp only [ beq_iff_eq, beq_eq_false_iff_ne, ne_eq, decide_eq_true_eq, decide_eq_false_iff_not, Bool.false_eq_true, false_iff, true_iff, iff_false, iff_true, ge_iff_le] at *
    all_goals omega
  · exact hp.elim
def cx_s_spec_ConfigOk : Ctx := mkC []
theorem cx_s_spec_ConfigOk_ok : CtxOk Tryz.prog cx_s_spec_ConfigOk := cx0_ok
set_option maxRecDepth 100000 in
set_option pp.maxSteps 1500 in
set_option maxHeartbeats 4000000 in
theorem s_spec_ConfigOk : HSound Tryz.prog 193 (callM [] false hCfg) := by
  refine callM_sound cx_s_spec_ConfigOk_ok mixed Tryz.func193 rfl fun args hl K hp => ?_
  unfold hCfg at hp
  split at hp
  · rename_i a b c d
    repeat' ((first | refine And.intro (fun h1 => ?_) (fun h1 => ?_) | refine And.intro (by decide) ?_ | refine And.intro (show wfB _ = true from by kernel_rfl) ?_ | refine And.intro (And.intro rfl rfl) ?_ | exact And.intro rfl rfl | apply HeldC.intro | exact AV.top | (apply HeldF.intro; refine Exists.intro _ (And.intro (by assumption) ?_); refine And.intro (by decide) ?_; exact And.intro rfl rfl) | (refine And.intro (by (refine Exists.intro _ (And.intro (by assumption) ?_); refine And.intro (by decide) ?_; exact And.intro rfl rfl)) ?_) | refine Or.inl ?_) <;> try cases h1)
    all_goals refine fin_b hp ?_
    all_goals clear hp
    all_goals rw [Bool.eq_iff_iff]
    all_goals simp only [cfgB, decide_eq_true_eq]
    all_goals generalize c.tmod 32 = r at *
    all_goals simp only [ beq_iff_eq, beq_eq_false_iff_ne, ne_eq, decide_eq_true_eq, decide_eq_false_iff_not, Bool.false_eq_true, false_iff, true_iff, iff_false, iff_true, ge_iff_le] at *
    all_goals omega
  · exact hp.elim
def hRup : CH := fun args hl K => match args, hl with
  | [.v (.int .i64 n)], [] => ∃ N : Nat, n = N ∧ N ≤ 1099511627776 ∧ K (.v (.int .i64 (rup N : Nat))) []
  | _, _ => False
def cx_s_roundUp : Ctx := mkC []
theorem cx_s_roundUp_ok : CtxOk Tryz.prog cx_s_roundUp := cx0_ok
set_option maxRecDepth 100000 in
set_option pp.maxSteps 1500 in
theorem s_roundUp : HSound Tryz.prog 116 (callM [] false hRup) := by
  refine callM_sound cx_s_roundUp_ok mixed Tryz.func116 rfl fun args hl K hp => ?_
  unfold hRup at hp
  split at hp
  · obtain ⟨N, rfl, hN, hp⟩ := hp
    rw [← rup_wrap hN] at hp
    refine And.intro (by decide) ?_
    exact hp
  · exact hp.elim
def cx_s_l5Round : Ctx := mkC []
theorem cx_s_l5Round_ok : CtxOk Tryz.prog cx_s_l5Round := cx0_ok
set_option maxRecDepth 100000 in
set_option pp.maxSteps 1500 in
theorem s_l5Round : HSound Tryz.prog 94 (callM [] false hRup) := by
  refine callM_sound cx_s_l5Round_ok mixed Tryz.func94 rfl fun args hl K hp => ?_
  unfold hRup at hp
  split at hp
  · obtain ⟨N, rfl, hN, hp⟩ := hp
    rw [← rup_wrap hN] at hp
    refine And.intro (by decide) ?_
    exact hp
  · exact hp.elim
def hLenF : CH := fun args hl K => match args, hl with
  | [.imm _ _ 1 L], [] => L.length ≤ 1048576 ∧ K (.v (.int .i64 ((4 * L.length : Nat) : Int))) []
  | _, _ => False
def cx_s_placed1 : Ctx := mkC []
theorem cx_s_placed1_ok : CtxOk Tryz.prog cx_s_placed1 := cx0_ok
set_option maxRecDepth 100000 in
set_option pp.maxSteps 1500 in
theorem s_placed1 : HSound Tryz.prog 202 (callM [] true hLenF) := by
  refine callM_sound cx_s_placed1_ok mixed Tryz.func202 rfl fun args hl K hp => ?_
  unfold hLenF at hp
  split at hp
  · rename_i L
    obtain ⟨hL, hp⟩ := hp
    rw [show (((4 * L.length : Nat) : Int)) = IntKind.i64.wrap (4 * (L.length : Int)) from by rw [wrap64 (by omega)]; omega] at hp
    exact hp
  · exact hp.elim
def hIdF : CH := fun args hl K => match args, hl with
  | [.v (.int .i64 n)], [] => K (.v (.int .i64 n)) []
  | _, _ => False
def cx_s_placed2 : Ctx := mkC []
theorem cx_s_placed2_ok : CtxOk Tryz.prog cx_s_placed2 := cx0_ok
set_option maxRecDepth 100000 in
set_option pp.maxSteps 1500 in
theorem s_placed2 : HSound Tryz.prog 204 (callM [] false hIdF) := by
  refine callM_sound cx_s_placed2_ok mixed Tryz.func204 rfl fun args hl K hp => ?_
  unfold hIdF at hp
  split at hp
  · exact hp
  · exact hp.elim
def hNewAl : CH := fun args hl K => match args, hl with
  | [.v (.int .i64 n), .fn f []], [] => K (.ptr 0 0 0 3) [.box [.v (.int .i64 n), .v (.int .i64 n), .fn f []]]
  | _, _ => False
def cx_s_newAl1 : Ctx := mkC []
theorem cx_s_newAl1_ok : CtxOk Tryz.prog cx_s_newAl1 := cx0_ok
set_option maxRecDepth 100000 in
set_option pp.maxSteps 1500 in
theorem s_newAl1 : HSound Tryz.prog 201 (callM [] false hNewAl) := by
  refine callM_sound cx_s_newAl1_ok mixed Tryz.func201 rfl fun args hl K hp => ?_
  unfold hNewAl at hp
  split at hp
  · exact hp
  · exact hp.elim
def cx_s_newAl2 : Ctx := mkC []
theorem cx_s_newAl2_ok : CtxOk Tryz.prog cx_s_newAl2 := cx0_ok
set_option maxRecDepth 100000 in
set_option pp.maxSteps 1500 in
theorem s_newAl2 : HSound Tryz.prog 203 (callM [] false hNewAl) := by
  refine callM_sound cx_s_newAl2_ok mixed Tryz.func203 rfl fun args hl K hp => ?_
  unfold hNewAl at hp
  split at hp
  · exact hp
  · exact hp.elim
def hUsed : CH := fun args hl K => match args, hl with
  | [.ptr 0 0 0 _], [.box [.v (.int .i64 b), .v (.int .i64 n), .fn f []]] => I64 (n - b) ∧ K (.v (.int .i64 (n - b))) [.box [.v (.int .i64 b), .v (.int .i64 n), .fn f []]]
  | _, _ => False
def cx_s_used1 : Ctx := mkC []
theorem cx_s_used1_ok : CtxOk Tryz.prog cx_s_used1 := cx0_ok
set_option maxRecDepth 100000 in
set_option pp.maxSteps 1500 in
theorem s_used1 : HSound Tryz.prog 207 (callM [.rw] false hUsed) := by
  refine callM_sound cx_s_used1_ok mixed Tryz.func207 rfl fun args hl K hp => ?_
  unfold hUsed at hp
  split at hp
  · obtain ⟨hI, hp⟩ := hp
    rw [← wrap64 hI] at hp
    refine And.intro (show Region.lexB _ _ = true from by kernel_rfl) ?_
    exact hp
  · exact hp.elim
def cx_s_used2 : Ctx := mkC []
theorem cx_s_used2_ok : CtxOk Tryz.prog cx_s_used2 := cx0_ok
set_option maxRecDepth 100000 in
set_option pp.maxSteps 1500 in
theorem s_used2 : HSound Tryz.prog 208 (callM [.rw] false hUsed) := by
  refine callM_sound cx_s_used2_ok mixed Tryz.func208 rfl fun args hl K hp => ?_
  unfold hUsed at hp
  split at hp
  · obtain ⟨hI, hp⟩ := hp
    rw [← wrap64 hI] at hp
    refine And.intro (show Region.lexB _ _ = true from by kernel_rfl) ?_
    exact hp
  · exact hp.elim
def hPlaceL : CH := fun args hl K => match args, hl with
  | [.ptr 0 0 0 _, .imm _ _ 1 L], [.box [.v (.int .i64 b), .v (.int .i64 n), .fn f []]] => f = 202 ∧ ∃ N : Nat, n = N ∧ N ≤ 1048576 ∧ L.length ≤ 1048576 ∧ K (.v (.int .i64 N)) [.box [.v (.int .i64 b), .v (.int .i64 ((N + rup (4 * L.length) : Nat) : Int)), .fn f []]]
  | _, _ => False
def cx_s_place1 : Ctx := mkC [(116, callM [] false hRup), (202, callM [] true hLenF)]
theorem cx_s_place1_ok : CtxOk Tryz.prog cx_s_place1 := mkC_ok (mem1 ⟨s_roundUp, fnOk Tryz.func116 rfl rfl⟩ (mem1 ⟨s_placed1, fnOk Tryz.func202 rfl rfl⟩ mem0))
set_option maxRecDepth 100000 in
set_option pp.maxSteps 1500 in
theorem s_place1 : HSound Tryz.prog 205 (callM [.rw] true hPlaceL) := by
  refine callM_sound cx_s_place1_ok mixed Tryz.func205 rfl fun args hl K hp => ?_
  unfold hPlaceL at hp
  split at hp
  · rename_i L b n f
    obtain ⟨rfl, N, rfl, hN, hL, hp⟩ := hp
    have hr := rup_le (4 * L.length)
    have hw : IntKind.i64.wrap ((N : Int) + (rup (4 * L.length) : Nat)) = ((N + rup (4 * L.length) : Nat) : Int) := by rw [wrap64 (by omega)]; omega
    refine Or.inl ?_
    refine And.intro (show wfB _ = true from by kernel_rfl) ?_
    repeat' (first
      | (refine And.intro hL ?_; exact And.intro rfl rfl)
      | (refine Exists.intro (4 * L.length) ?_; refine And.intro rfl ?_; refine And.intro (by omega) ?_; exact And.intro rfl rfl)
      | refine And.intro (show wfB _ = true from by kernel_rfl) ?_ | refine And.intro (And.intro rfl rfl) ?_ | exact And.intro rfl rfl | apply HeldC.intro | exact AV.top | (apply HeldF.intro; refine Exists.intro _ (And.intro (by assumption) ?_); refine And.intro (by decide) ?_; exact And.intro rfl rfl) | (refine And.intro (by (refine Exists.intro _ (And.intro (by assumption) ?_); refine And.intro (by decide) ?_; exact And.intro rfl rfl)) ?_) | refine Or.inl ?_)
    rw [hw]
    exact hp
  · exact hp.elim
def hPlaceN : CH := fun args hl K => match args, hl with
  | [.ptr 0 0 0 _, .v (.int .i64 s)], [.box [.v (.int .i64 b), .v (.int .i64 n), .fn f []]] => f = 204 ∧ ∃ N S : Nat, n = N ∧ s = S ∧ N ≤ 1048576 ∧ S ≤ 1048576 ∧ K (.v (.int .i64 N)) [.box [.v (.int .i64 b), .v (.int .i64 ((N + rup S : Nat) : Int)), .fn f []]]
  | _, _ => False
def cx_s_place2 : Ctx := mkC [(116, callM [] false hRup), (204, callM [] false hIdF)]
theorem cx_s_place2_ok : CtxOk Tryz.prog cx_s_place2 := mkC_ok (mem1 ⟨s_roundUp, fnOk Tryz.func116 rfl rfl⟩ (mem1 ⟨s_placed2, fnOk Tryz.func204 rfl rfl⟩ mem0))
set_option maxRecDepth 100000 in
set_option pp.maxSteps 1500 in
theorem s_place2 : HSound Tryz.prog 206 (callM [.rw] true hPlaceN) := by
  refine callM_sound cx_s_place2_ok mixed Tryz.func206 rfl fun args hl K hp => ?_
  unfold hPlaceN at hp
  split at hp
  · rename_i s b n f
    obtain ⟨rfl, N, S, rfl, rfl, hN, hS, hp⟩ := hp
    have hr := rup_le S
    have hw : IntKind.i64.wrap ((N : Int) + (rup S : Nat)) = ((N + rup S : Nat) : Int) := by rw [wrap64 (by omega)]; omega
    refine Or.inl ?_
    refine And.intro (show wfB _ = true from by kernel_rfl) ?_
    repeat' (first
      | (refine Exists.intro S ?_; refine And.intro rfl ?_; refine And.intro (by omega) ?_; exact And.intro rfl rfl)
      | refine And.intro (show wfB _ = true from by kernel_rfl) ?_ | refine And.intro (And.intro rfl rfl) ?_ | exact And.intro rfl rfl | apply HeldC.intro | exact AV.top | (apply HeldF.intro; refine Exists.intro _ (And.intro (by assumption) ?_); refine And.intro (by decide) ?_; exact And.intro rfl rfl) | (refine And.intro (by (refine Exists.intro _ (And.intro (by assumption) ?_); refine And.intro (by decide) ?_; exact And.intro rfl rfl)) ?_) | refine Or.inl ?_)
    rw [hw]
    exact hp
  · exact hp.elim
end Go.Proofs.YtbfjkjdbdejnmaaGreat.Ab

/- Link of the reference: what it asks, targets, banks too long. No condition. -/
namespace Go.Proofs.YtbfjkjdbdejnmaaGreat.Ab
set_option linter.unusedVariables false
set_option linter.unusedSimpArgs false

theorem new_val {ms : List Mo} {i : Nat} {m : Mo} (h : ms[i]? = some m) : newB ms i = !seenB ms i m.name := by rw [newB, h]
theorem seen_ex {ms : List Mo} {i k : Nat} {q : Mo} {n : ByteArray} (hk : k < i) (hq : ms[k]? = some q) (hn : q.name = n) : seenB ms i n = true := by
  unfold seenB
  rw [List.any_eq_true]
  refine ⟨q, ?_, by simpa using hn⟩
  rw [List.mem_iff_getElem?]
  exact ⟨k, by rw [List.getElem?_take, if_pos hk]; exact hq⟩
theorem seen_no {ms : List Mo} {i : Nat} {n : ByteArray} (h : ∀ k < i, ∀ q, ms[k]? = some q → q.name ≠ n) : seenB ms i n = false := by
  unfold seenB
  rw [List.any_eq_false]
  intro q hq
  obtain ⟨k, hk⟩ := List.mem_iff_getElem?.1 hq
  rw [List.getElem?_take] at hk
  split at hk
  · simpa using h k (by assumption) q hk
  · cases hk
def hSoundC : CH := fun args hl K => match args, hl with
  | [.imm _ _ 8 L, .agg [.v (.int .i64 a), .v (.int .i64 b), .v (.int .i64 c), .v (.int .i64 d)]], [] => ∃ ms : List Mo, L = ms.map moC ∧ ms.length ≤ 1048576 ∧ (∀ m ∈ ms, smMo m) ∧ K (.v (.int .i64 (soundF ms ⟨a, b, c, d⟩))) []
  | _, _ => False
def cx_s_l5Sound : Ctx := mkC [(193, callM [] false hCfg), (194, callM [] true hModOk)]
theorem cx_s_l5Sound_ok : CtxOk Tryz.prog cx_s_l5Sound := mkC_ok (mem1 ⟨s_spec_ConfigOk, fnOk Tryz.func193 rfl rfl⟩ (mem1 ⟨s_spec_ModuleOk, fnOk Tryz.func194 rfl rfl⟩ mem0))
set_option maxRecDepth 100000 in
set_option pp.maxSteps 1500 in
set_option maxHeartbeats 8000000 in
theorem s_l5Sound : HSound Tryz.prog 137 (callM [] true hSoundC) := by
  refine callM_sound cx_s_l5Sound_ok mixed Tryz.func137 rfl fun args hl K hp => ?_
  unfold hSoundC at hp
  split at hp
  · rename_i t z L a b c d
    obtain ⟨ms, rfl, hlen, hsm, hp⟩ := hp
    refine And.intro (fun h1 => ?_) (fun h1 => ?_)
    · refine fin_i hp ?_
      have h1 : cfgB ⟨a, b, c, d⟩ = false := by simpa using h1
      simp only [soundF, h1, if_true]
    have e1 : cfgB ⟨a, b, c, d⟩ = true := by simpa using h1
    clear h1
    have f2 : decide (1 ≤ ms.length ∧ ms.length ≤ 4) = false → soundF ms ⟨a, b, c, d⟩ = 2 := fun h => by simp only [soundF, e1, h, Bool.true_eq_false, if_true, if_false]
    repeat' ((first | refine And.intro (fun h1 => ?_) (fun h1 => ?_) | refine And.intro (by decide) ?_ | refine And.intro (show wfB _ = true from by kernel_rfl) ?_ | refine And.intro (And.intro rfl rfl) ?_ | exact And.intro rfl rfl | apply HeldC.intro | exact AV.top | (apply HeldF.intro; refine Exists.intro _ (And.intro (by assumption) ?_); refine And.intro (by decide) ?_; exact And.intro rfl rfl) | (refine And.intro (by (refine Exists.intro _ (And.intro (by assumption) ?_); refine And.intro (by decide) ?_; exact And.intro rfl rfl)) ?_) | refine Or.inl ?_) <;> try cases h1)
    · have h1 := of_decide_eq_true h1
      rw [List.length_map] at h1
      exact fin_i hp (f2 (decide_eq_false (by omega)))
    · have h1 := of_decide_eq_true h1
      rw [List.length_map] at h1
      exact fin_i hp (f2 (decide_eq_false (by omega)))
    rename_i h0
    have h0 := of_decide_eq_false h0
    have h1 := of_decide_eq_false h1
    rw [List.length_map] at h0 h1
    have e2 : decide (1 ≤ ms.length ∧ ms.length ≤ 4) = true := decide_eq_true (by omega)
    clear f2
    have f3 : ms.all (fun m => decide (modOk m = 0)) = false → soundF ms ⟨a, b, c, d⟩ = 3 := fun h => by simp only [soundF, e1, e2, h, Bool.true_eq_false, if_true, if_false]
    refine Exists.intro true (Exists.intro [0, 3, 5] (Exists.intro (fun m vs h => ∃ i : Nat, i ≤ ms.length ∧ m = ms.length - i ∧ (ms.take i).all (fun m => decide (modOk m = 0)) = true ∧ vs = [.imm t z 8 (ms.map moC), .ptr 0 0 0 4, .v (.int .i64 i)] ∧ h = [.box [.v (.int .i64 a), .v (.int .i64 b), .v (.int .i64 c), .v (.int .i64 d)]]) (And.intro ?_ ?_)))
    · refine Exists.intro [] (Exists.intro ms.length ?_)
      exact ⟨0, by omega, rfl, rfl, rfl, rfl⟩
    intro m vs h hI
    obtain ⟨i, hi, rfl, hall, rfl, rfl⟩ := hI
    refine And.intro (fun h1 => ?_) (fun h1 => ?_)
    · have h1 := of_decide_eq_true h1
      rw [List.length_map] at h1
      have hlt : i < ms.length := by omega
      obtain ⟨m, hm⟩ : ∃ m, ms[i]? = some m := ⟨_, List.getElem?_eq_getElem hlt⟩
      refine Exists.intro i (And.intro rfl (Exists.intro (moC m) (And.intro (get_map hm) ?_)))
      refine Exists.intro m (And.intro ⟨_, _, _, _, _, _, _, _, _, _, _, _, rfl⟩ (And.intro (hsm m (List.mem_of_getElem? hm)) ?_))
      refine And.intro (fun h2 => ?_) (fun h2 => ?_)
      · have h2 : ¬ modOk m = 0 := by simpa using h2
        exact fin_i hp (f3 (all_bad hm (decide_eq_false h2)))
      · have h2 : modOk m = 0 := by simpa using h2
        refine Exists.intro [] (Exists.intro (ms.length - (i + 1)) (And.intro (by omega) ⟨i + 1, by omega, rfl, all_take hm hall (decide_eq_true h2), ?_, rfl⟩))
        rw [wrap_succ hlt (by omega)]
    have h1 := of_decide_eq_false h1
    rw [List.length_map] at h1
    rw [List.take_of_length_le (by omega)] at hall
    clear f3
    have f4 : (List.range ms.length).all (newB ms) = false → soundF ms ⟨a, b, c, d⟩ = 4 := fun h => by simp only [soundF, e1, e2, hall, h, Bool.true_eq_false, if_true, if_false]
    refine Exists.intro true (Exists.intro [0, 3, 6] (Exists.intro (fun m vs h => ∃ i : Nat, i ≤ ms.length ∧ m = ms.length - i ∧ (∀ k < i, newB ms k = true) ∧ vs = [.imm t z 8 (ms.map moC), .ptr 0 0 0 4, .v (.int .i64 i)] ∧ h = [.box [.v (.int .i64 a), .v (.int .i64 b), .v (.int .i64 c), .v (.int .i64 d)]]) (And.intro ?_ ?_)))
    · refine Exists.intro [] (Exists.intro ms.length ?_)
      exact ⟨0, by omega, rfl, fun k hk => by omega, rfl, rfl⟩
    intro m vs h hI
    obtain ⟨i, hi, rfl, hnew, rfl, rfl⟩ := hI
    refine And.intro (fun h1 => ?_) (fun h1 => ?_)
    · have h1 := of_decide_eq_true h1
      rw [List.length_map] at h1
      have hlt : i < ms.length := by omega
      obtain ⟨m, hm⟩ : ∃ m, ms[i]? = some m := ⟨_, List.getElem?_eq_getElem hlt⟩
      refine Exists.intro true (Exists.intro [0, 3, 6, 7] (Exists.intro (fun m' vs h => ∃ j : Nat, j ≤ i ∧ m' = i - j ∧ (∀ k < j, ∀ q, ms[k]? = some q → q.name ≠ m.name) ∧ vs = [.imm t z 8 (ms.map moC), .ptr 0 0 0 4, .v (.int .i64 i), .v (.int .i64 j)] ∧ h = [.box [.v (.int .i64 a), .v (.int .i64 b), .v (.int .i64 c), .v (.int .i64 d)]]) (And.intro ?_ ?_)))
      · refine Exists.intro [] (Exists.intro i ?_)
        exact ⟨0, by omega, rfl, fun k hk => by omega, rfl, rfl⟩
      intro m' vs h hI
      obtain ⟨j, hj, rfl, hno, rfl, rfl⟩ := hI
      refine And.intro (fun h2 => ?_) (fun h2 => ?_)
      · have h2 := of_decide_eq_true h2
        have hjl : j < i := by omega
        obtain ⟨q, hq⟩ : ∃ q, ms[j]? = some q := ⟨_, List.getElem?_eq_getElem (by omega)⟩
        refine And.intro (show Region.lexB _ _ = true from by kernel_rfl) ?_
        refine Exists.intro j (And.intro rfl (Exists.intro (moC q) (And.intro (get_map hq) ?_)))
        refine Exists.intro i (And.intro rfl (Exists.intro (moC m) (And.intro (get_map hm) ?_)))
        refine And.intro (fun h3 => ?_) (fun h3 => ?_)
        · have h3 : q.name = m.name := by
            rw [ba_beq2] at h3
            simpa using h3
          refine fin_i hp (f4 (range_bad hlt ?_))
          rw [new_val hm, seen_ex hjl hq h3]
          rfl
        · have h3 : ¬ q.name = m.name := by
            rw [ba_beq2] at h3
            simpa using h3
          refine Exists.intro [] (Exists.intro (i - (j + 1)) (And.intro (by omega) ⟨j + 1, by omega, rfl, ?_, ?_, rfl⟩))
          · intro k hk q' hq'
            rcases Nat.lt_or_ge k j with r | r
            · exact hno k r q' hq'
            · have : k = j := by omega
              subst this
              rw [hq] at hq'
              cases hq'
              exact h3
          · rw [wrap_succ hjl (by omega)]
      · have h2 := of_decide_eq_false h2
        have hji : j = i := by omega
        subst hji
        refine Exists.intro [] (Exists.intro (ms.length - (j + 1)) (And.intro (by omega) ⟨j + 1, by omega, rfl, lt_step hnew ?_, ?_, rfl⟩))
        · rw [new_val hm, seen_no hno]
          rfl
        · rw [wrap_succ hlt (by omega)]
    · have h1 := of_decide_eq_false h1
      rw [List.length_map] at h1
      have hnn := range_all (n := ms.length) fun k hk => hnew k (by omega)
      refine fin_i hp ?_
      simp only [soundF, e1, e2, hall, hnn, Bool.true_eq_false, if_false]
  · exact hp.elim

/-- Targets: all of them, or some of them and that one is missing. -/
def hTgts : CH := fun args hl K => match args, hl with
  | [.imm _ _ 8 L, a], [] => ∃ (ms : List Mo) (m : Mo), L = ms.map moC ∧ ms.length ≤ 1048576 ∧ (∀ m ∈ ms, smMo m) ∧ MoV a m ∧ smMo m ∧
      (resB ms m.imps = true → K (.tup [.slc 0 0 (tgsOf ms m.imps).length false, .v (.bool true)]) [.lst 3 ((tgsOf ms m.imps).map tgC)]) ∧ (resB ms m.imps = false → ∀ l : List Tg, K (.tup [.slc 0 0 l.length false, .v (.bool false)]) [.lst 3 (l.map tgC)])
  | _, _ => False
theorem tg_notSl (t : Tg) : ∀ e ∈ [tgC t], ∀ x ∈ e, x.isSl = false := by
  intro e he x hx
  simp at he
  subst he
  simp [tgC] at hx
  rcases hx with rfl | rfl | rfl <;> rfl
def cx_s_l5Targets : Ctx := mkC [(195, callM [] true hRes)]
theorem cx_s_l5Targets_ok : CtxOk Tryz.prog cx_s_l5Targets := mkC_ok (mem1 ⟨s_spec_Resolve, fnOk Tryz.func195 rfl rfl⟩ mem0)
set_option maxRecDepth 100000 in
set_option pp.maxSteps 1500 in
set_option maxHeartbeats 8000000 in
theorem s_l5Targets : HSound Tryz.prog 138 (callM [] true hTgts) := by
  refine callM_sound cx_s_l5Targets_ok mixed Tryz.func138 rfl fun args hl K hp => ?_
  unfold hTgts at hp
  split at hp
  · rename_i t z L a
    obtain ⟨ms, m, rfl, hlen, hsm, ⟨b1, z1, b2, z2, b3, z3, b4, z4, b5, z5, b6, z6, rfl⟩, hm, hp1, hp2⟩ := hp
    have him := hm.imps
    refine Or.inl ?_
    refine Exists.intro true (Exists.intro [0, 3, 6, 7] (Exists.intro (fun m' vs h => ∃ i : Nat, i ≤ m.imps.length ∧ m' = m.imps.length - i ∧ (m.imps.take i).all (fun s => (resolveF ms s).isSome) = true ∧ vs = [.imm t z 8 (ms.map moC), .ptr 0 0 0 8, .slc 1 0 (tgsOf ms (m.imps.take i)).length false, .v (.int .i64 i)] ∧ h = [.box (cellsM m b1 z1 b2 z2 b3 z3 b4 z4 b5 z5 b6 z6), .lst 3 ((tgsOf ms (m.imps.take i)).map tgC)]) (And.intro ?_ ?_)))
    · refine Exists.intro [] (And.intro closed_nil (Exists.intro m.imps.length ?_))
      exact ⟨0, by omega, rfl, rfl, rfl, rfl⟩
    intro m' vs h hI
    obtain ⟨i, hi, rfl, hall, rfl, rfl⟩ := hI
    have htl : (tgsOf ms (m.imps.take i)).length ≤ 1048576 := by
      have := List.length_filterMap_le (fun s => (resolveF ms s).map tgOf) (m.imps.take i)
      simp only [tgsOf]
      have := List.length_take_le i m.imps
      omega
    refine And.intro (fun h1 => ?_) (fun h1 => ?_)
    · have h1 := of_decide_eq_true h1
      rw [List.length_map] at h1
      have hlt : i < m.imps.length := by omega
      obtain ⟨s, hs⟩ : ∃ s, m.imps[i]? = some s := ⟨_, List.getElem?_eq_getElem hlt⟩
      have hss := hm.imp s (List.mem_of_getElem? hs)
      refine Exists.intro i (And.intro rfl (Exists.intro (strC s) (And.intro (get_map hs) ?_)))
      refine Exists.intro ms (And.intro rfl (And.intro hlen (And.intro hsm (And.intro hss ?_))))
      cases hr : resolveF ms s with
      | none =>
        have hbad : resB ms m.imps = false := all_bad hs (by rw [hr]; rfl)
        refine And.intro (fun h2 => ?_) (fun h2 => by cases h2)
        refine And.intro (closed_Target _) ?_
        exact hp2 hbad (tgsOf ms (m.imps.take i))
      | some p =>
        have hst := tgs_at hs hr
        refine And.intro (fun h2 => by cases h2) (fun h2 => ?_)
        generalize tgsOf ms (m.imps.take i) = T at *
        refine Exists.intro [tgC (tgOf p)] (And.intro rfl (And.intro rfl (And.intro (tg_notSl _) ?_)))
        refine And.intro (List.length_map _) ?_
        refine And.intro (by simp; omega) ?_
        refine And.intro (by simp; omega) ?_
        refine Exists.intro [] (And.intro (closed_app (closed_Target T) (closed_Target [tgOf p])) (Exists.intro (m.imps.length - (i + 1)) (And.intro (by omega) ⟨i + 1, by omega, rfl, all_take hs hall (by rw [hr]; rfl), ?_, ?_⟩)))
        · rw [wrap_succ hlt (by omega), hst]
          simp
        · rw [hst]
          simp
    · have h1 := of_decide_eq_false h1
      rw [List.length_map] at h1
      rw [List.take_of_length_le (by omega)] at hall ⊢
      refine And.intro (closed_Target _) ?_
      exact hp1 hall
  · exact hp.elim

def hLongC : CH := fun args hl K => match args, hl with
  | [.imm _ _ 8 L, .agg [.v (.int .i64 a), .v (.int .i64 b), .v (.int .i64 c), .v (.int .i64 d)]], [] => ∃ ms : List Mo, L = ms.map moC ∧ ms.length ≤ 1048576 ∧ (∀ m ∈ ms, smMo m) ∧ K (.v (.bool (longB ms ⟨a, b, c, d⟩))) []
  | _, _ => False
def cx_s_l5TooLong : Ctx := mkC []
theorem cx_s_l5TooLong_ok : CtxOk Tryz.prog cx_s_l5TooLong := cx0_ok
set_option maxRecDepth 100000 in
set_option pp.maxSteps 1500 in
set_option maxHeartbeats 8000000 in
theorem s_l5TooLong : HSound Tryz.prog 139 (callM [] true hLongC) := by
  refine callM_sound cx_s_l5TooLong_ok mixed Tryz.func139 rfl fun args hl K hp => ?_
  unfold hLongC at hp
  split at hp
  · rename_i t z L a b c d
    obtain ⟨ms, rfl, hlen, hsm, hp⟩ := hp
    refine Exists.intro true (Exists.intro [0, 3, 5] (Exists.intro (fun m vs h => ∃ i : Nat, i ≤ ms.length ∧ m = ms.length - i ∧ (0 < a → (ms.take i).all (bankB ⟨a, b, c, d⟩) = true) ∧ vs = [.imm t z 8 (ms.map moC), .ptr 0 0 0 4, .v (.int .i64 i)] ∧ h = [.box [.v (.int .i64 a), .v (.int .i64 b), .v (.int .i64 c), .v (.int .i64 d)]]) (And.intro ?_ ?_)))
    · refine Exists.intro [] (Exists.intro ms.length ?_)
      exact ⟨0, by omega, rfl, fun _ => rfl, rfl, rfl⟩
    intro m vs h hI
    obtain ⟨i, hi, rfl, hall, rfl, rfl⟩ := hI
    refine And.intro (fun h1 => ?_) (fun h1 => ?_)
    · have h1 := of_decide_eq_true h1
      rw [List.length_map] at h1
      have hlt : i < ms.length := by omega
      obtain ⟨m, hm⟩ : ∃ m, ms[i]? = some m := ⟨_, List.getElem?_eq_getElem hlt⟩
      have hmm := hsm m (List.mem_of_getElem? hm)
      have hbl := hmm.banks
      refine Exists.intro true (Exists.intro [0, 3, 5, 6] (Exists.intro (fun m' vs h => ∃ j : Nat, j ≤ m.banks.length ∧ m' = m.banks.length - j ∧ (0 < a → (m.banks.take j).all (fun x => decide ((x.length : Int) ≤ b)) = true) ∧ vs = [.imm t z 8 (ms.map moC), .ptr 0 0 0 4, .v (.int .i64 i), .v (.int .i64 j)] ∧ h = [.box [.v (.int .i64 a), .v (.int .i64 b), .v (.int .i64 c), .v (.int .i64 d)]]) (And.intro ?_ ?_)))
      · refine Exists.intro [] (Exists.intro m.banks.length ?_)
        exact ⟨0, by omega, rfl, fun _ => rfl, rfl, rfl⟩
      intro m' vs h hI
      obtain ⟨j, hj, rfl, hbk, rfl, rfl⟩ := hI
      refine Exists.intro i (And.intro rfl (Exists.intro (moC m) (And.intro (get_map hm) ?_)))
      refine And.intro (fun h2 => ?_) (fun h2 => ?_)
      · have h2 := of_decide_eq_true h2
        rw [List.length_map] at h2
        have hjl : j < m.banks.length := by omega
        obtain ⟨x, hx⟩ : ∃ x, m.banks[j]? = some x := ⟨_, List.getElem?_eq_getElem hjl⟩
        have hwj : IntKind.wrap .i64 ((j : Int) + 1) = ((j + 1 : Nat) : Int) := wrap_succ hjl (by omega)
        refine And.intro (show Region.lexB _ _ = true from by kernel_rfl) ?_
        repeat' ((first
          | refine And.intro (fun h3 => ?_) (fun h3 => ?_)
          | refine Exists.intro i (And.intro rfl (Exists.intro (moC m) (And.intro (get_map hm) ?_)))
          | refine Exists.intro j (And.intro rfl (Exists.intro (bankC x) (And.intro (get_map hx) ?_)))
          | fail) <;> try cases h3)
        all_goals simp only [List.length_map, decide_eq_true_eq, decide_eq_false_iff_not, gt_iff_lt] at *
        · refine fin_b hp ?_
          have hb2 : bankB ⟨a, b, c, d⟩ m = false := all_bad hx (decide_eq_false (show ¬ (x.length : Int) ≤ b by omega))
          simp only [longB, all_bad hm hb2, Bool.not_false, Bool.and_true]
          exact decide_eq_true (show 0 < a by omega)
        all_goals refine Exists.intro [] (Exists.intro (m.banks.length - (j + 1)) (And.intro (by omega) ⟨j + 1, by omega, rfl, fun ha => ?_, by rw [hwj], rfl⟩))
        · exact all_take hx (hbk ha) (decide_eq_true (by omega))
        · omega
      · have h2 := of_decide_eq_false h2
        rw [List.length_map] at h2
        rw [List.take_of_length_le (by omega)] at hbk
        refine Exists.intro [] (Exists.intro (ms.length - (i + 1)) (And.intro (by omega) ⟨i + 1, by omega, rfl, fun ha => all_take hm (hall ha) (hbk ha), ?_, rfl⟩))
        rw [wrap_succ hlt (by omega)]
    · have h1 := of_decide_eq_false h1
      rw [List.length_map] at h1
      rw [List.take_of_length_le (by omega)] at hall
      refine fin_b hp ?_
      by_cases ha : 0 < a
      · simp only [longB, hall ha, Bool.not_true, Bool.and_false]
      · simp only [longB, decide_eq_false ha, Bool.false_and]
  · exact hp.elim
end Go.Proofs.YtbfjkjdbdejnmaaGreat.Ab

/- Link of the reference: the layout. No condition. -/
namespace Go.Proofs.YtbfjkjdbdejnmaaGreat.Ab
set_option linter.unusedVariables false
set_option linter.unusedSimpArgs false

abbrev laR (l : La) : AV := .agg [.slc 0 0 l.pls.length false, .v (.int .i64 l.stack), .slc 1 0 l.slots.length false, .v (.int .i64 l.flash), .v (.int .i64 l.ram), .slc 2 0 l.tgts.length false]
abbrev laH (l : La) : HP := [.lst 4 (l.pls.map plC), .lst 1 (l.slots.map intC), .lst 1 (l.tgts.map tgsC)]
def hLay : CH := fun args hl K => match args, hl with
  | [.imm _ _ 8 L, .agg [.v (.int .i64 a), .v (.int .i64 b), .v (.int .i64 c), .v (.int .i64 d)]], [] => ∃ ms : List Mo, L = ms.map moC ∧ (∀ m ∈ ms, smMo m) ∧ Sound ms ⟨a, b, c, d⟩ ∧ ms.all (fun m => resB ms m.imps) = true ∧ K (laR (laF ms ⟨a, b, c, d⟩)) (laH (laF ms ⟨a, b, c, d⟩))
  | _, _ => False
def moB (t : Bool) (m : Mo) : List AV := [.v (.string m.name), .imm t false 1 (m.text.map intC), .imm t false 1 (m.banks.map bankC), .imm t false 1 (m.data.map byteC), .v (.int .i64 m.bss), .imm t false 1 (m.rels.map intC), .imm t false 1 (m.imps.map strC), .imm t false 3 (m.exps.map exC)]
def laZ : List AV := [.sl 4 [], .v (.int .i64 0), .sl 1 [], .v (.int .i64 0), .v (.int .i64 0), .sl 1 []]
theorem int_notSl1 (bs : List Int) : ∀ e ∈ bs.map intC, ∀ x ∈ e, x.isSl = false := by
  intro e he x hx
  obtain ⟨b, _, rfl⟩ := List.mem_map.1 he
  simp [intC] at hx
  subst hx
  rfl
theorem takeA (l r : List (List AV)) : List.take (l.length + r.length) (l ++ r) = l ++ r := by rw [← List.length_append, List.take_length]
def cx_s_l5Lay : Ctx := mkCut [(94, callM [] false hRup), (138, callM [] true hTgts)]
theorem cx_s_l5Lay_ok : CtxOk Tryz.prog cx_s_l5Lay := mkCut_ok (mem1 ⟨s_l5Round, fnOk Tryz.func94 rfl rfl⟩ (mem1 ⟨s_l5Targets, fnOk Tryz.func138 rfl rfl⟩ mem0))
set_option maxRecDepth 100000 in
set_option pp.maxSteps 1500 in
set_option maxHeartbeats 16000000 in
theorem s_l5Lay : HSound Tryz.prog 140 (callM [] true hLay) := by
  refine callM_sound cx_s_l5Lay_ok mixed Tryz.func140 rfl fun args hl K hp => ?_
  unfold hLay at hp
  split at hp
  · rename_i t z L a b c d
    obtain ⟨ms, rfl, hsm, hS, hres, hp⟩ := hp
    obtain ⟨⟨ca0, ca1, cb0, cb1, cc0, cc1, ccm⟩, ⟨ln0, ln1⟩, hgm, _⟩ := hS
    simp only at ca0 ca1 cb0 cb1 cc0 cc1 ccm
    refine Exists.intro true (Exists.intro [0, 3, 4, 5, 6, 7] (Exists.intro (fun m vs h => ∃ i : Nat, i ≤ ms.length ∧ m = ms.length - i ∧ vs = [.imm t z 8 (ms.map moC), .ptr 0 0 0 4, .ptr 1 0 0 6, .ptr 2 0 0 6, .v (.int .i64 (plP ms i).2.2), .v (.int .i64 i)] ∧
      h = [.box [.v (.int .i64 a), .v (.int .i64 b), .v (.int .i64 c), .v (.int .i64 d)], .box [.sl 4 [], .v (.int .i64 0), .sl 1 [], .v (.int .i64 0), .v (.int .i64 0), .sl 1 []],
        .box [.sl 4 ((plP ms i).1.map plC), .v (.int .i64 0), .sl 1 [], .v (.int .i64 (plP ms i).2.1), .v (.int .i64 0), .sl 1 (((ms.take i).map fun m => tgsOf ms m.imps).map tgsC)]]) (And.intro ?_ ?_)))
    · refine Exists.intro [] ?_
      repeat' (first
        | refine Exists.intro [] (And.intro rfl (And.intro rfl (And.intro closed_nil ?_)))
        | fail)
      refine Exists.intro ms.length ?_
      exact ⟨0, by omega, rfl, rfl, rfl⟩
    intro m vs h hI
    obtain ⟨i, hi, rfl, rfl, rfl⟩ := hI
    refine Or.inl ?_
    refine And.intro (fun h1 => ?_) (fun h1 => ?_)
    · have h1 := of_decide_eq_true h1
      rw [List.length_map] at h1
      have hlt : i < ms.length := by omega
      obtain ⟨m, hm⟩ : ∃ m, ms[i]? = some m := ⟨_, List.getElem?_eq_getElem hlt⟩
      have hmm := hsm m (List.mem_of_getElem? hm)
      have g := hgm m (List.mem_of_getElem? hm)
      have gl := g.dl
      have gb := g.bss
      have gt := g.tl
      have hrm : resB ms m.imps = true := List.all_eq_true.1 hres m (List.mem_of_getElem? hm)
      have hst := plP_at hm
      obtain ⟨pb1, pb2⟩ := plP_le hgm i
      have pl := plP_len (ms := ms) (i := i) (by omega)
      generalize hQ : plP ms i = Q at *
      obtain ⟨PL, f, r⟩ := Q
      simp only at *
      have hbs : ((m.data.length : Int) + m.bss) = ((m.data.length + m.bss.toNat : Nat) : Int) := by omega
      have hwbs : IntKind.i64.wrap (((m.data.map byteC).length : Int) + m.bss) = ((m.data.length + m.bss.toNat : Nat) : Int) := by rw [List.length_map, wrap64 (by omega), hbs]
      have hwt : IntKind.i64.wrap (4 * ((m.text.map intC).length : Int)) = ((4 * m.text.length : Nat) : Int) := by rw [List.length_map, wrap64 (by omega)]; omega
      refine Exists.intro i (And.intro rfl (Exists.intro (moC m) (And.intro (get_map hm) ?_)))
      have hm1 : m.data.length + m.bss.toNat ≤ 1099511627776 := by omega
      have hm2 : 4 * m.text.length ≤ 1099511627776 := by omega
      have hwr : IntKind.i64.wrap (65536 + (r : Int)) = 65536 + (r : Int) := wrap64 (by omega)
      have hrt := rup_le (4 * m.text.length)
      have hwf : IntKind.i64.wrap ((f : Int) + (rup (4 * m.text.length) : Nat)) = ((f + rup (4 * m.text.length) : Nat) : Int) := by rw [wrap64 (by omega)]; omega
      have htn : ((ms.take i).map (fun m => tgsOf ms m.imps)).length ≤ 4 := by rw [List.length_map, List.length_take]; omega
      generalize hTG : (ms.take i).map (fun m => tgsOf ms m.imps) = TG at *
      refine Or.inr (Exists.intro true (Exists.intro [0, 3, 4, 5, 6, 7, 8, 9] (Exists.intro (fun vs h => vs = [.imm t z 8 (ms.map moC), .ptr 0 0 0 4, .ptr 1 0 0 6, .ptr 2 0 0 6, .v (.int .i64 r), .v (.int .i64 i), .ptr 3 0 0 8, .ptr 4 0 0 4] ∧
        h = [.box [.v (.int .i64 a), .v (.int .i64 b), .v (.int .i64 c), .v (.int .i64 d)], .box [.sl 4 [], .v (.int .i64 0), .sl 1 [], .v (.int .i64 0), .v (.int .i64 0), .sl 1 []],
          .box [.sl 4 (PL.map plC), .v (.int .i64 0), .sl 1 [], .v (.int .i64 f), .v (.int .i64 0), .sl 1 (TG.map tgsC)], .box [.v (.string m.name), .imm t false 1 (m.text.map intC), .imm t false 1 (m.banks.map bankC), .imm t false 1 (m.data.map byteC), .v (.int .i64 m.bss), .imm t false 1 (m.rels.map intC), .imm t false 1 (m.imps.map strC), .imm t false 3 (m.exps.map exC)],
          .box [.v (.int .i64 f), .sl 1 [], .v (.int .i64 (65536 + (r : Int))), .v (.int .i64 (moSz m))]]) (And.intro ?_ ?_))))
      · refine Or.inl ?_
        refine And.intro (show wfB _ = true from by kernel_rfl) ?_
        repeat' (first
          | (refine Exists.intro (m.data.length + m.bss.toNat) ?_; refine And.intro hwbs ?_; refine And.intro hm1 ?_; exact And.intro rfl rfl)
          | refine And.intro (show wfB _ = true from by kernel_rfl) ?_ | refine And.intro (And.intro rfl rfl) ?_ | exact And.intro rfl rfl | apply HeldC.intro | exact AV.top | (apply HeldF.intro; refine Exists.intro _ (And.intro (by assumption) ?_); refine And.intro (by decide) ?_; exact And.intro rfl rfl) | (refine And.intro (by (refine Exists.intro _ (And.intro (by assumption) ?_); refine And.intro (by decide) ?_; exact And.intro rfl rfl)) ?_) | refine Or.inl ?_
          | refine And.intro ?_ ?_
          | fail)
        all_goals refine Exists.intro [] ?_
        all_goals repeat' (first
          | refine Exists.intro _ (And.intro List.take_length (And.intro rfl (And.intro (closed_Place _) ?_)))
          | refine Exists.intro _ (And.intro List.take_length (And.intro rfl (And.intro (closed_TargetS _) ?_)))
          | refine Exists.intro _ (And.intro rfl (And.intro rfl (And.intro closed_nil ?_)))
          | fail)
        all_goals exact And.intro rfl (by rw [hwr]; rfl)
      rintro vs h ⟨rfl, rfl⟩
      refine Or.inl (Or.inl ?_)
      refine And.intro (show wfB _ = true from by kernel_rfl) ?_
      repeat' (first
        | (refine Exists.intro (4 * m.text.length) ?_; refine And.intro hwt ?_; refine And.intro hm2 ?_; exact And.intro rfl rfl)
        | refine And.intro (show wfB _ = true from by kernel_rfl) ?_ | refine And.intro (And.intro rfl rfl) ?_ | exact And.intro rfl rfl | apply HeldC.intro | exact AV.top | (apply HeldF.intro; refine Exists.intro _ (And.intro (by assumption) ?_); refine And.intro (by decide) ?_; exact And.intro rfl rfl) | (refine And.intro (by (refine Exists.intro _ (And.intro (by assumption) ?_); refine And.intro (by decide) ?_; exact And.intro rfl rfl)) ?_) | refine Or.inl ?_
        | fail)
      have hf1 : f + rup (4 * m.text.length) ≤ 20000 := by omega
      have hbk := fun b hb => (g.bk b hb).1
      have hbn := g.bl
      generalize hF1 : f + rup (4 * m.text.length) = f1 at *
      refine Exists.intro true (Exists.intro [0, 3, 4, 5, 6, 7, 8, 9, 10] (Exists.intro (fun n vs h => ∃ j : Nat, j ≤ m.banks.length ∧ n = m.banks.length - j ∧ vs = [.imm t z 8 (ms.map moC), .ptr 0 0 0 4, .ptr 1 0 0 6, .ptr 2 0 0 6, .v (.int .i64 r), .v (.int .i64 i), .ptr 3 0 0 8, .ptr 4 0 0 4, .v (.int .i64 j)] ∧
        h = [.box [.v (.int .i64 a), .v (.int .i64 b), .v (.int .i64 c), .v (.int .i64 d)], .box [.sl 4 [], .v (.int .i64 0), .sl 1 [], .v (.int .i64 0), .v (.int .i64 0), .sl 1 []],
          .box [.sl 4 (PL.map plC), .v (.int .i64 0), .sl 1 [], .v (.int .i64 (bkP m.banks f1 j).2), .v (.int .i64 0), .sl 1 (TG.map tgsC)], .box [.v (.string m.name), .imm t false 1 (m.text.map intC), .imm t false 1 (m.banks.map bankC), .imm t false 1 (m.data.map byteC), .v (.int .i64 m.bss), .imm t false 1 (m.rels.map intC), .imm t false 1 (m.imps.map strC), .imm t false 3 (m.exps.map exC)],
          .box [.v (.int .i64 f), .sl 1 ((bkP m.banks f1 j).1.map intC), .v (.int .i64 (65536 + (r : Int))), .v (.int .i64 (moSz m))]]) (And.intro ?_ ?_)))
      · refine Exists.intro [] ?_
        repeat' (first
          | refine Exists.intro _ (And.intro List.take_length (And.intro rfl (And.intro (closed_Place _) ?_)))
          | refine Exists.intro _ (And.intro List.take_length (And.intro rfl (And.intro (closed_TargetS _) ?_)))
          | refine Exists.intro _ (And.intro rfl (And.intro rfl (And.intro closed_nil ?_)))
          | fail)
        refine Exists.intro m.banks.length ⟨0, by omega, rfl, rfl, ?_⟩
        rw [hwf]
        rfl
      · intro n vs h hI
        obtain ⟨j, hj, rfl, rfl, rfl⟩ := hI
        refine Or.inl ?_
        refine And.intro (fun h2 => ?_) (fun h2 => ?_)
        · have h2 := of_decide_eq_true h2
          rw [List.length_map] at h2
          have hjl : j < m.banks.length := by omega
          obtain ⟨x, hx⟩ : ∃ x, m.banks[j]? = some x := ⟨_, List.getElem?_eq_getElem hjl⟩
          have hxl := hbk x (List.mem_of_getElem? hx)
          have hble := bkP_le hbk f1 j
          have hbl := bkP_len m.banks f1 hj
          have hbs := bkP_at m.banks f1 hx
          have hrx := rup_le (4 * x.length)
          have hwx : IntKind.i64.wrap (4 * ((x.map intC).length : Int)) = ((4 * x.length : Nat) : Int) := by rw [List.length_map, wrap64 (by omega)]; omega
          have hx2 : 4 * x.length ≤ 1099511627776 := by omega
          generalize bkP m.banks f1 j = B at *
          obtain ⟨bl, bf⟩ := B
          simp only at *
          repeat' (first
            | (refine Exists.intro [intC (bf : Int)] ?_; refine And.intro rfl ?_; refine And.intro rfl ?_; refine And.intro (int_notSl1 [_]) ?_)
            | refine And.intro rfl (And.intro (by simp; omega) (And.intro (by simp; omega) ?_))
            | refine Or.inl (Or.inl ?_)
            | refine And.intro (show wfB _ = true from by kernel_rfl) ?_
            | (refine Exists.intro (4 * x.length) ?_; refine And.intro hwx ?_; refine And.intro hx2 ?_; exact And.intro rfl rfl)
            | (apply HeldF.intro; refine Exists.intro j ?_; refine And.intro rfl ?_; refine Exists.intro (bankC x) ?_; refine And.intro (get_map hx) ?_; exact And.intro rfl rfl)
            | refine Exists.intro j (And.intro rfl (Exists.intro (bankC x) (And.intro (get_map hx) ?_)))
            | refine And.intro (show wfB _ = true from by kernel_rfl) ?_ | refine And.intro (And.intro rfl rfl) ?_ | exact And.intro rfl rfl | apply HeldC.intro | exact AV.top | (apply HeldF.intro; refine Exists.intro _ (And.intro (by assumption) ?_); refine And.intro (by decide) ?_; exact And.intro rfl rfl) | (refine And.intro (by (refine Exists.intro _ (And.intro (by assumption) ?_); refine And.intro (by decide) ?_; exact And.intro rfl rfl)) ?_) | refine Or.inl ?_
            | fail)
          refine Exists.intro [] ?_
          repeat' (first
            | refine Exists.intro _ (And.intro List.take_length (And.intro rfl (And.intro (closed_Place _) ?_)))
            | refine Exists.intro _ (And.intro List.take_length (And.intro rfl (And.intro (closed_TargetS _) ?_)))
            | refine Exists.intro _ (And.intro (takeA _ _) (And.intro List.length_append (And.intro (closed_app (closed_Int bl) (closed_Int [_])) ?_)))
            | refine Exists.intro _ (And.intro rfl (And.intro rfl (And.intro closed_nil ?_)))
            | fail)
          have hwB : IntKind.i64.wrap ((bf : Int) + (rup (4 * x.length) : Nat)) = ((bf + rup (4 * x.length) : Nat) : Int) := by rw [wrap64 (by omega)]; omega
          refine Exists.intro (m.banks.length - (j + 1)) (And.intro (by omega) ⟨j + 1, by omega, rfl, ?_, ?_⟩)
          · rw [wrap_succ hjl (by omega)]
          · rw [hbs, hwB]
            simp only [List.map_append]
            rfl
        · have h2 := of_decide_eq_false h2
          rw [List.length_map] at h2
          have hjj : j = m.banks.length := by omega
          subst hjj
          have hble := bkP_le hbk f1 m.banks.length
          have hbl := bkP_len m.banks f1 (Nat.le_refl m.banks.length)
          rw [show m.imps = m.imps from rfl] at hrm
          generalize bkP m.banks f1 m.banks.length = B at *
          obtain ⟨bl, bf⟩ := B
          simp only at *
          have hmz := rup_le (m.data.length + m.bss.toNat)
          have hwz : IntKind.i64.wrap ((r : Int) + (moSz m : Nat)) = ((r + moSz m : Nat) : Int) := by unfold moSz; rw [wrap64 (by omega)]; omega
          have hcp : ∀ x : Int, ClosedL [[AV.v (.int .i64 f), .sl 1 (bl.map intC), .v (.int .i64 x), .v (.int .i64 (moSz m))]] := fun x => closed_Place [⟨f, bl, x, moSz m⟩]
          have htgl : (tgsOf ms m.imps).length ≤ 1048576 := by
            have := List.length_filterMap_le (fun s => (resolveF ms s).map tgOf) m.imps
            have := g.il
            simp only [tgsOf]
            omega
          repeat' (first
            | refine Exists.intro _ (And.intro List.take_length (And.intro rfl (And.intro (closed_Int _) ?_)))
            | refine Exists.intro _ (And.intro (lendD _ _) (And.intro (List.length_map _) (And.intro (closed_Target _) ?_)))
            | refine Exists.intro ms (Exists.intro m (And.intro rfl (And.intro (by omega) (And.intro hsm (And.intro ⟨_, _, _, _, _, _, _, _, _, _, _, _, rfl⟩ (And.intro hmm (And.intro (fun _ => ?_) (fun h9 => absurd (hrm.symm.trans h9) (by decide)))))))))
            | refine And.intro rfl (And.intro rfl (And.intro (by simp; omega) (And.intro (by simp; omega) ?_)))
            | refine And.intro (hcp _) ?_
            | fail)
          refine Exists.intro [] ?_
          have hst2 : plP ms (i + 1) = (PL ++ [⟨f, bl, 65536 + (r : Int), moSz m⟩], bf, r + moSz m) := hst
          have htk : (ms.take (i + 1)).map (fun m => tgsOf ms m.imps) = TG ++ [tgsOf ms m.imps] := by
            rw [List.take_add_one, hm, List.map_append, hTG]
            rfl
          repeat' (first
            | refine Exists.intro _ (And.intro (takeA _ _) (And.intro List.length_append (And.intro (closed_app (closed_Place PL) (closed_Place [⟨f, bl, 65536 + (r : Int), moSz m⟩])) ?_)))
            | refine Exists.intro _ (And.intro (takeA _ _) (And.intro List.length_append (And.intro (closed_app (closed_TargetS TG) (closed_TargetS [_])) ?_)))
            | refine Exists.intro _ (And.intro rfl (And.intro rfl (And.intro closed_nil ?_)))
            | fail)
          refine Exists.intro (ms.length - (i + 1)) (And.intro (by omega) ⟨i + 1, by omega, rfl, ?_, ?_⟩)
          · rw [wrap_succ hlt (by omega), hst2, hwz]
          · rw [hst2, htk]
            simp only [List.map_append]
            rfl
    · have h1 := of_decide_eq_false h1
      rw [List.length_map] at h1
      have hil : i = ms.length := by omega
      subst hil
      rw [List.take_length]
      obtain ⟨pb1, pb2⟩ := plP_le hgm ms.length
      have pl := plP_len (ms := ms) (i := ms.length) (Nat.le_refl _)
      have eL : laF ms ⟨a, b, c, d⟩ = ⟨(plP ms ms.length).1, 65536 + ((plP ms ms.length).2.2 : Int), (slP b.toNat ((plP ms ms.length).2.2 + c.toNat) a.toNat).1, (plP ms ms.length).2.1, (slP b.toNat ((plP ms ms.length).2.2 + c.toNat) a.toNat).2, ms.map fun m => tgsOf ms m.imps⟩ := rfl
      have htn : (ms.map (fun m => tgsOf ms m.imps)).length ≤ 4 := by rw [List.length_map]; omega
      rw [eL] at hp
      clear eL
      generalize plP ms ms.length = Q at *
      obtain ⟨PL, f, r⟩ := Q
      generalize (ms.map fun m => tgsOf ms m.imps) = TG at *
      simp only at *
      obtain ⟨A, rfl⟩ := Int.eq_ofNat_of_zero_le ca0
      obtain ⟨W, rfl⟩ := Int.eq_ofNat_of_zero_le (show 0 ≤ b by omega)
      obtain ⟨S, rfl⟩ := Int.eq_ofNat_of_zero_le cc0
      simp only [Int.toNat_natCast] at hp
      have hw1 : IntKind.i64.wrap (65536 + (r : Int)) = 65536 + (r : Int) := wrap64 (by omega)
      have hw2 : IntKind.i64.wrap ((r : Int) + (S : Int)) = ((r + S : Nat) : Int) := by rw [wrap64 (by omega)]; omega
      have hw3 : IntKind.i64.wrap (4 * (W : Int)) = ((4 * W : Nat) : Int) := by rw [wrap64 (by omega)]; omega
      have hrw := rup_le (4 * W)
      generalize hr1 : r + S = r1 at *
      refine Exists.intro true (Exists.intro [0, 3, 4, 5, 6, 13] (Exists.intro (fun n vs h => ∃ k : Nat, k ≤ A ∧ n = A - k ∧ vs = [.imm t z 8 (ms.map moC), .ptr 0 0 0 4, .ptr 1 0 0 6, .ptr 2 0 0 6, .v (.int .i64 (slP W r1 k).2), .v (.int .i64 k)] ∧
        h = [.box [.v (.int .i64 A), .v (.int .i64 W), .v (.int .i64 S), .v (.int .i64 d)], .box [.sl 4 [], .v (.int .i64 0), .sl 1 [], .v (.int .i64 0), .v (.int .i64 0), .sl 1 []],
          .box [.sl 4 (PL.map plC), .v (.int .i64 (65536 + (r : Int))), .sl 1 ((slP W r1 k).1.map intC), .v (.int .i64 f), .v (.int .i64 0), .sl 1 (TG.map tgsC)]]) (And.intro ?_ ?_)))
      · refine Exists.intro [] ?_
        repeat' (first
          | refine Exists.intro _ (And.intro List.take_length (And.intro rfl (And.intro (closed_Place _) ?_)))
          | refine Exists.intro _ (And.intro List.take_length (And.intro rfl (And.intro (closed_TargetS _) ?_)))
          | refine Exists.intro _ (And.intro rfl (And.intro rfl (And.intro closed_nil ?_)))
          | fail)
        refine Exists.intro A ⟨0, by omega, rfl, ?_, ?_⟩
        · rw [hw2]
          rfl
        · rw [hw1]
          rfl
      · intro n vs h hI
        obtain ⟨k, hk, rfl, rfl, rfl⟩ := hI
        refine Or.inl ?_
        refine And.intro (fun h2 => ?_) (fun h2 => ?_)
        · have h2 := of_decide_eq_true h2
          have hkl : k < A := by omega
          have hsl := slP_len W r1 k
          have hsp := slP_le (w := W) (by omega) r1 k
          have hss : slP W r1 (k + 1) = ((slP W r1 k).1 ++ [65536 + ((slP W r1 k).2 : Int)], (slP W r1 k).2 + rup (4 * W)) := rfl
          generalize slP W r1 k = B at *
          obtain ⟨sl, sr⟩ := B
          simp only at *
          have hw4 : IntKind.i64.wrap (65536 + (sr : Int)) = 65536 + (sr : Int) := wrap64 (by omega)
          have hw5 : IntKind.i64.wrap ((sr : Int) + (rup (4 * W) : Nat)) = ((sr + rup (4 * W) : Nat) : Int) := by rw [wrap64 (by omega)]; omega
          repeat' (first
            | (refine Exists.intro [intC (IntKind.i64.wrap (65536 + (sr : Int)))] ?_; refine And.intro rfl ?_; refine And.intro rfl ?_; refine And.intro (int_notSl1 [_]) ?_)
            | refine And.intro rfl (And.intro (by simp; omega) (And.intro (by simp; omega) ?_))
            | refine Exists.intro (4 * W) (And.intro hw3 (And.intro (by omega) ?_))
            | fail)
          refine Exists.intro [] ?_
          repeat' (first
            | refine Exists.intro _ (And.intro List.take_length (And.intro rfl (And.intro (closed_Place _) ?_)))
            | refine Exists.intro _ (And.intro List.take_length (And.intro rfl (And.intro (closed_TargetS _) ?_)))
            | refine Exists.intro _ (And.intro (takeA _ _) (And.intro List.length_append (And.intro (closed_app (closed_Int sl) (closed_Int [_])) ?_)))
            | refine Exists.intro _ (And.intro rfl (And.intro rfl (And.intro closed_nil ?_)))
            | fail)
          refine Exists.intro (A - (k + 1)) (And.intro (by omega) ⟨k + 1, by omega, rfl, ?_, ?_⟩)
          · rw [wrap_succ hkl (by omega), hss, hw5]
          · rw [hss, hw4]
            simp only [List.map_append]
            rfl
        · have h2 := of_decide_eq_false h2
          have hkA : k = A := by omega
          subst hkA
          generalize slP W r1 k = B at *
          obtain ⟨sl, sr⟩ := B
          simp only at *
          repeat' (first
            | refine And.intro (closed_Place _) ?_
            | refine And.intro (closed_TargetS _) ?_
            | refine And.intro (closed_Int _) ?_
            | fail)
          try (conv => whnf)
          simp only [List.length_map]
          exact hp
  · exact hp.elim
end Go.Proofs.YtbfjkjdbdejnmaaGreat.Ab
