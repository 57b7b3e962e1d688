/- A law's arguments, as they are read, are known values; and a sound handler that gives true gives the law. No condition. -/
import Derived.Test.YtegcfogbdgmajaaAbCall
import Derived.OpenShut
import Derived.ChangeArms
import Derived.Below
import Derived.Carry
import Derived.ProofKit
import Derived.SizedLaws
namespace Go.Proofs.Ytegcfogbdgmajaa.Ab
open Go.RowKit
set_option linter.unusedVariables false
set_option linter.unusedSimpArgs false

/-! ### The types' table -/

def findT {α : Type} : List (Nat × α) → Nat → Option α
  | [], _ => none
  | (n, a) :: l, m => match Nat.beq n m with | true => some a | false => findT l m
theorem findT_mem {α : Type} {l : List (Nat × α)} {m : Nat} {a : α} (h : findT l m = some a) : (m, a) ∈ l := by
  induction l with
  | nil => simp [findT] at h
  | cons p l ih =>
    obtain ⟨n, b⟩ := p
    simp only [findT] at h
    split at h
    · rename_i hn
      have hn := Nat.eq_of_beq_eq_true hn
      subst hn
      cases h
      exact List.mem_cons_self
    · exact List.mem_cons_of_mem _ (ih h)

def sizeB (P : Program) (e : TypeId) (n : Nat) : Bool := match P.info? e with | some i => i.size == n | none => false
def kindB (P : Program) : TypeDesc → TK → Bool
  | .int k, .int k' => decide (k = k')
  | .slice e, .slice e' es => e == e' && sizeB P e es
  | .struct fs, .struct fs' => fs.size == fs'.length && (fs.toList.zip fs').all fun p => p.1.offset == p.2.1 && sizeB P p.1.type p.2.2
  | .array n e, .array n' es => n == n' && sizeB P e es
  | .bool, .bool => true
  | .string, .str => true
  | .map k e, .map k' e' => k == k' && e == e'
  | _, .ptr => true
  | _, .func => true
  | _, .other => true
  | _, _ => false
def zeroB : AV → Value → Bool
  | .v (.int k n), .int k' n' => decide (k = k') && decide (n = n')
  | .v (.bool b), .bool b' => b == b'
  | .v (.string s), .string s' => decide (s = s')
  | .v (.pointer none), .pointer none => true
  | .v (.map none), .map none => true
  | .v .nilFunc, .nilFunc => true
  | .v .nilIface, .nilIface => true
  | .sl _ [], .slice none 0 0 => true
  | _, _ => false
def zerosB : List AV → List Value → Bool
  | [], [] => true
  | x :: l, v :: r => zeroB x v && zerosB l r
  | _, _ => false
def rowB (P : Program) (ty : TypeId) (i : TI) : Bool :=
  match P.info? ty, P.underlying ty with
  | some info, some d => info.size == i.size && info.bytes == i.bytes && (i.agg == descAgg d) && kindB P d i.kind && decide (0 < i.size) && i.zero.length == i.size &&
    match info.zero with | some z => zerosB i.zero z.cells.toList | none => false
  | _, _ => false
def tabB (P : Program) (l : List (Nat × TI)) : Bool := l.all fun p => rowB P p.1 p.2 && (p.2.eqs.isEmpty || eqB P p.1 p.2.eqs) && zeroOk P p.1 p.2.agg

theorem sizeB_spec {P : Program} {e n} (h : sizeB P e n = true) : ∃ i, P.info? e = some i ∧ i.size = n := by
  unfold sizeB at h
  split at h
  · rename_i i hi
    exact ⟨i, hi, by simpa using h⟩
  · cases h
theorem kindB_spec {P : Program} {d k} (h : kindB P d k = true) : KindOk P d k := by
  unfold kindB at h
  split at h
  · simpa [KindOk] using h
  · simp only [Bool.and_eq_true, beq_iff_eq] at h
    exact ⟨h.1, sizeB_spec h.2⟩
  · rename_i fs fs'
    simp only [Bool.and_eq_true, beq_iff_eq, List.all_eq_true] at h
    refine ⟨h.1, fun n f hf => ?_⟩
    have hn : n < fs.size := (Array.getElem?_eq_some_iff.1 hf).1
    have hn' : n < fs'.length := by omega
    have := h.2 (f, fs'[n]) (List.mem_iff_getElem?.2 ⟨n, by rw [List.getElem?_zip_eq_some]; exact ⟨by simpa using hf, List.getElem?_eq_getElem hn'⟩⟩)
    obtain ⟨i, h1, h2⟩ := sizeB_spec this.2
    refine ⟨i, h1, ?_⟩
    rw [List.getElem?_eq_getElem hn']
    exact congrArg some (Prod.ext this.1.symm h2.symm)
  · simp only [Bool.and_eq_true, beq_iff_eq] at h
    exact ⟨h.1, sizeB_spec h.2⟩
  all_goals first | trivial | (simp only [Bool.and_eq_true, beq_iff_eq] at h; exact h) | (cases d <;> trivial) | cases h
theorem zeroB_spec {x : AV} {v : Value} (h : zeroB x v = true) : Z0 x v := by
  unfold zeroB at h
  split at h
  · simp only [Bool.and_eq_true, decide_eq_true_eq] at h
    exact .inl ⟨_, rfl, by rw [h.1, h.2], rfl⟩
  · exact .inl ⟨_, rfl, by rw [beq_iff_eq.1 h], rfl⟩
  · exact .inl ⟨_, rfl, by rw [of_decide_eq_true h], rfl⟩
  · exact .inl ⟨_, rfl, rfl, rfl⟩
  · exact .inl ⟨_, rfl, rfl, rfl⟩
  · exact .inl ⟨_, rfl, rfl, rfl⟩
  · exact .inl ⟨_, rfl, rfl, rfl⟩
  · exact .inr ⟨_, rfl, rfl⟩
  · cases h
theorem zerosB_spec : ∀ {l : List AV} {r : List Value}, zerosB l r = true → l.length = r.length ∧ ∀ (j : Nat) x, l[j]? = some x → Z0 x (r.getD j undef)
  | [], [], _ => ⟨rfl, by simp⟩
  | x :: l, v :: r, h => by
    simp only [zerosB, Bool.and_eq_true] at h
    obtain ⟨h1, h2⟩ := zerosB_spec h.2
    refine ⟨by simp [h1], fun j y hj => ?_⟩
    cases j with
    | zero => simp at hj; subst hj; simpa using zeroB_spec h.1
    | succ j => simpa using h2 j y (by simpa using hj)
  | [], _ :: _, h => by simp [zerosB] at h
  | _ :: _, [], h => by simp [zerosB] at h
theorem rowB_spec {P : Program} {ty i} (h : rowB P ty i = true) : TIok P ty i := by
  unfold rowB at h
  split at h
  · rename_i info d h1 h2
    simp only [Bool.and_eq_true, beq_iff_eq, decide_eq_true_eq] at h
    obtain ⟨⟨⟨⟨⟨⟨a1, a2⟩, a3⟩, a4⟩, a5⟩, a6⟩, a7⟩ := h
    split at a7
    · rename_i z hz
      obtain ⟨b1, b2⟩ := zerosB_spec a7
      refine ⟨info, d, z, h1, a1, a2, h2, a3, kindB_spec a4, hz, by rw [← a6, b1]; simp, a6, fun j x hj => ?_, a5⟩
      have := b2 j x hj
      simpa [Array.getD_eq_getD_getElem?, List.getD_eq_getElem?_getD] using this
    · cases a7
  · cases h
theorem tabB_spec {P : Program} {l : List (Nat × TI)} (h : tabB P l = true) : ∀ ty i, findT l ty = some i → TIok P ty i ∧ (i.eqs ≠ [] → eqB P ty i.eqs = true) ∧ zeroOk P ty i.agg = true := by
  intro ty i hi
  have := List.all_eq_true.1 h _ (findT_mem hi)
  simp only [Bool.and_eq_true, Bool.or_eq_true, List.isEmpty_iff] at this
  exact ⟨rowB_spec this.1.1, fun hne => this.1.2.resolve_left hne, this.2⟩

theorem ctxOk {P : Program} {tab : List (Nat × TI)} (ht : tabB P tab = true) {l : List (Nat × Handler)} (hl : ∀ p ∈ l, HSound P p.1 p.2 ∧ FnOk P p.1) : CtxOk P ⟨findT tab, findT l, 0, fun _ _ => False, false⟩ :=
  ⟨fun ty i h => (tabB_spec ht ty i h).1, fun ty i h => (tabB_spec ht ty i h).2.1, fun ty i h => (tabB_spec ht ty i h).2.2, fun f H h => hl _ (findT_mem h)⟩

theorem inlF {P : Program} {C : Ctx} (hC : CtxOk P C) (hm : P.follows .mixedOrders = true) {f : FuncId} {fn : Func} (hf : P.funcs[f]? = some fn) (hb : fn.body.isSome = true) : HSound P f (inlH C fn.ntmps fn.results.toList (fn.body.getD .skip)) :=
  inlH_sound hC hm hf (by cases h : fn.body with | none => simp [h] at hb | some c => rfl) rfl rfl
theorem fnOk {P : Program} {f : FuncId} {fn : Func} (hf : P.funcs[f]? = some fn) (hn : (fn.name == "runtime.NumGoroutine") = false) (hb : fn.body.isSome = true) : FnOk P f := ⟨fn, hf, hn, hb⟩

/-! ### What an argument's type says of it -/

def ShS (R : TypeId → List AV → Prop) : List TypeId → List AV → Prop
  | [], l => l = []
  | t :: ts, l => ∃ a b, l = a ++ b ∧ R t a ∧ ShS R ts b
def Sh (P : Program) : Nat → TypeId → List AV → Prop
  | 0, _, _ => False
  | n + 1, t, l => match P.underlying t with
    | some .bool => ∃ b, l = [.v (.bool b)]
    | some (.int k) => ∃ m, l = [.v (.int k m)] ∧ (Lit.int k m).wf = true
    | some .string => ∃ s, l = [.v (.string s)] ∧ s.size ≤ maxLen
    | some (.slice e) => ∃ ll, l = [.sl (P.cellsOf e) ll] ∧ (∀ el ∈ ll, Sh P n e el) ∧ ll.length * P.bytesOf e ≤ reachBytes ∧ ll.length ≤ maxLen
    | some (.struct fs) => ShS (Sh P n) (fs.toList.map (·.type)) l
    | some (.array k e) => ShS (Sh P n) (List.replicate k e) l
    | _ => False
def contig (P : Program) (tot : Nat) : Nat → List Field → Bool
  | off, [] => off == tot
  | off, f :: fs => f.offset == off && contig P tot (off + P.cellsOf f.type) fs
def plain (P : Program) : Nat → TypeId → Bool
  | 0, _ => false
  | n + 1, t => match P.underlying t with
    | some .bool => true
    | some (.int _) => true
    | some .string => true
    | some (.slice e) => decide (0 < P.cellsOf e) && plain P n e
    | some (.struct fs) => (fs.toList.all fun f => plain P n f.type) && contig P (P.cellsOf t) 0 fs.toList
    | some (.array k e) => plain P n e && P.cellsOf t == k * P.cellsOf e
    | _ => false

theorem choose_list {α : Type} {Q : Nat → α → Prop} : ∀ (n : Nat), (∀ i, i < n → ∃ a, Q i a) → ∃ L : List α, L.length = n ∧ ∀ (i : Nat) a, L[i]? = some a → Q i a
  | 0, _ => ⟨[], rfl, by simp⟩
  | n + 1, h => by
    obtain ⟨L, h1, h2⟩ := choose_list n (fun i hi => h i (by omega))
    obtain ⟨a, ha⟩ := h n (by omega)
    refine ⟨L ++ [a], by simp [h1], fun i b hb => ?_⟩
    rw [List.getElem?_append] at hb
    split at hb
    · exact h2 i b hb
    · rename_i hi
      have : i - L.length = 0 := by
        have := (List.getElem?_eq_some_iff.1 hb).1
        simp at this; omega
      rw [this] at hb
      simp at hb
      subst hb
      rwa [show i = n by omega]

section
variable {H : Type} {enc : TypeId × Value → H} {P : Program} {W : World} {S : BS}

/-- The cells of a value, known. -/
def CellsI (W : World) (S : BS) (l : List AV) (cs : List Value) : Prop := l.length = cs.length ∧ ∀ (j : Nat) a, l[j]? = some a → IR W (fun k => k < W.heap.size) S false a (cs.getD j undef)

theorem cellsI_one {a : AV} {v : Value} (h : IR W (fun k => k < W.heap.size) S false a v) : CellsI W S [a] [v] :=
  ⟨rfl, fun j b hj => by cases j with | zero => simp at hj; subst hj; simpa using h | succ j => simp at hj⟩
theorem cellsI_append {a b : List AV} {c d : List Value} (h1 : CellsI W S a c) (h2 : CellsI W S b d) : CellsI W S (a ++ b) (c ++ d) := by
  refine ⟨by simp [h1.1, h2.1], fun j x hj => ?_⟩
  rw [List.getElem?_append] at hj
  rw [List.getD_eq_getElem?_getD, List.getElem?_append]
  split at hj
  · rename_i hlt
    rw [if_pos (by rw [← h1.1]; exact hlt)]
    have := h1.2 j x hj
    rwa [List.getD_eq_getElem?_getD] at this
  · rename_i hlt
    rw [if_neg (by rw [← h1.1]; exact hlt), ← h1.1]
    have := h2.2 _ x hj
    rwa [List.getD_eq_getElem?_getD] at this

theorem weightsAll_mem {t : TypeId} {b : Nat} : ∀ {l : List (DataW H)}, (DataW.weightsAll P t l).all (· ≤ b) = true → ∀ (i : Nat) d, l[i]? = some d → (d.weights P t).all (· ≤ b) = true
  | [], _, i, d, hd => by simp at hd
  | x :: l, h, i, d, hd => by
    simp only [DataW.weightsAll, List.all_append, Bool.and_eq_true] at h
    cases i with
    | zero => simp at hd; subst hd; exact h.1
    | succ i => exact weightsAll_mem h.2 i d (by simpa using hd)

theorem open_fields {n : Nat} (ih : ∀ t cs fuel (x : DataW H × List MemPlace), plain P n t = true → DataW.trod enc P W 0 (fun _ => true) true fuel t cs = some x → (x.1.weights P t).all (· ≤ reachBytes) = true → ∃ l, Sh P n t l ∧ CellsI W S l cs)
    {tot m : Nat} {cs : List Value} : ∀ (fs : List Field) (off : Nat) (xs : List (DataW H × List MemPlace)), (fs.all fun f => plain P n f.type) = true → contig P tot off fs = true → cs.length = tot → off ≤ tot → xs.length = fs.length →
      (∀ (i : Nat) (f : Field), fs[i]? = some f → DataW.trod enc P W 0 (fun _ => true) true m f.type ((cs.drop f.offset).take (P.cellsOf f.type)) = xs[i]?) →
      (DataW.weightsEach P (fs.map (·.type)) (xs.map (·.1))).all (· ≤ reachBytes) = true → ∃ l, ShS (Sh P n) (fs.map (·.type)) l ∧ CellsI W S l (cs.drop off)
  | [], off, xs, h1, h2, h3, h3', h4, h5, h6 => by
    simp only [contig, beq_iff_eq] at h2
    refine ⟨[], rfl, ?_⟩
    rw [List.drop_eq_nil_of_le (by omega)]
    exact ⟨rfl, by simp⟩
  | f :: fs, off, xs, h1, h2, h3, h3', h4, h5, h6 => by
    cases xs with
    | nil => simp at h4
    | cons x xs =>
      simp only [List.all_cons, Bool.and_eq_true] at h1
      simp only [contig, Bool.and_eq_true, beq_iff_eq] at h2
      simp only [List.map_cons, DataW.weightsEach, List.all_append, Bool.and_eq_true] at h6
      have hx := h5 0 f rfl
      simp only [List.getElem?_cons_zero] at hx
      obtain ⟨l1, a1, a2⟩ := ih _ _ _ _ h1.1 hx h6.1
      have hle : ∀ (fs : List Field) (off : Nat), contig P tot off fs = true → off ≤ tot := by
        intro fs
        induction fs with
        | nil => intro off h; simp only [contig, beq_iff_eq] at h; omega
        | cons g gs ihg => intro off h; simp only [contig, Bool.and_eq_true] at h; have := ihg _ h.2; omega
      obtain ⟨l2, b1, b2⟩ := open_fields ih fs (off + P.cellsOf f.type) xs h1.2 h2.2 h3 (hle _ _ h2.2) (by simpa using h4) (fun i g hg => by simpa using h5 (i + 1) g (by simpa using hg)) h6.2
      refine ⟨l1 ++ l2, ⟨l1, l2, rfl, a1, b1⟩, ?_⟩
      rw [h2.1] at a2
      have : cs.drop off = (cs.drop off).take (P.cellsOf f.type) ++ cs.drop (off + P.cellsOf f.type) := by
        rw [← List.drop_drop, List.take_append_drop]
      rw [this]
      exact cellsI_append a2 b2

theorem open_elems {n : Nat} (ih : ∀ t cs fuel (x : DataW H × List MemPlace), plain P n t = true → DataW.trod enc P W 0 (fun _ => true) true fuel t cs = some x → (x.1.weights P t).all (· ≤ reachBytes) = true → ∃ l, Sh P n t l ∧ CellsI W S l cs)
    {m k : Nat} {e : TypeId} {cs : List Value} (he : plain P n e = true) (hcs : cs.length = k * P.cellsOf e) : ∀ (r i : Nat) (xs : List (DataW H × List MemPlace)), r + i = k → xs.length = r →
      (∀ (j : Nat), j < r → DataW.trod enc P W 0 (fun _ => true) true m e ((cs.drop ((i + j) * P.cellsOf e)).take (P.cellsOf e)) = xs[j]?) →
      (DataW.weightsAll P e (xs.map (·.1))).all (· ≤ reachBytes) = true → ∃ l, ShS (Sh P n) (List.replicate r e) l ∧ CellsI W S l (cs.drop (i * P.cellsOf e))
  | 0, i, xs, h1, h2, h3, h4 => by
    refine ⟨[], rfl, ?_⟩
    rw [List.drop_eq_nil_of_le (by rw [hcs, show i = k by omega]; exact Nat.le_refl _)]
    exact ⟨rfl, by simp⟩
  | r + 1, i, xs, h1, h2, h3, h4 => by
    cases xs with
    | nil => simp at h2
    | cons x xs =>
      simp only [List.map_cons, DataW.weightsAll, List.all_append, Bool.and_eq_true] at h4
      have hx := h3 0 (by omega)
      simp only [List.getElem?_cons_zero, Nat.add_zero] at hx
      obtain ⟨l1, a1, a2⟩ := ih _ _ _ _ he hx h4.1
      obtain ⟨l2, b1, b2⟩ := open_elems ih he hcs r (i + 1) xs (by omega) (by simpa using h2) (fun j hj => by
        have := h3 (j + 1) (by omega)
        rwa [List.getElem?_cons_succ, show i + (j + 1) = i + 1 + j by omega] at this) h4.2
      refine ⟨l1 ++ l2, ⟨l1, l2, rfl, a1, b1⟩, ?_⟩
      have : cs.drop (i * P.cellsOf e) = (cs.drop (i * P.cellsOf e)).take (P.cellsOf e) ++ cs.drop ((i + 1) * P.cellsOf e) := by
        rw [Nat.succ_mul, ← List.drop_drop, List.take_append_drop]
      rw [this]
      exact cellsI_append a2 b2

theorem open_sh : ∀ (n : Nat) (t : TypeId) (cs : List Value) (fuel : Nat) (x : DataW H × List MemPlace), plain P n t = true → DataW.trod enc P W 0 (fun _ => true) true fuel t cs = some x → (x.1.weights P t).all (· ≤ reachBytes) = true →
    ∃ l, Sh P n t l ∧ CellsI W S l cs
  | 0, t, cs, fuel, x, hp, _, _ => by simp [plain] at hp
  | n + 1, t, cs, fuel, x, hp, ht, hw => by
    simp only [plain] at hp
    simp only [Sh]
    split at hp
    · rename_i hu
      obtain ⟨b, rfl, _⟩ := DataW.trod_bool hu ht
      try simp only [hu]
      exact ⟨_, ⟨b, rfl⟩, cellsI_one (.v _ _ rfl)⟩
    · rename_i k hu
      obtain ⟨m, rfl, _, hwf⟩ := DataW.trod_int hu ht
      try simp only [hu]
      exact ⟨_, ⟨m, rfl, hwf⟩, cellsI_one (.v _ _ rfl)⟩
    · rename_i hu
      obtain ⟨s, rfl, _, hs⟩ := DataW.trod_string hu ht
      try simp only [hu]
      exact ⟨_, ⟨s, rfl, hs⟩, cellsI_one (.v _ _ rfl)⟩
    · rename_i e hu
      simp only [Bool.and_eq_true, decide_eq_true_eq] at hp
      obtain ⟨hsz, hpe⟩ := hp
      try simp only [hu]
      rcases DataW.trod_slice hu ht with ⟨rfl, rfl⟩ | ⟨a, len, cap, elems, rest, m, rfl, rfl, rfl, hb, hlc, hcm, hel, hget, _⟩
      · exact ⟨_, ⟨[], rfl, by simp, by simp, by simp⟩, cellsI_one (.sl0 _ _ _ _)⟩
      · have hw2 : ((DataW.slice (elems.map (·.1)) (rest.map (·.1))).weights P t).all (· ≤ reachBytes) = true := hw
        simp only [DataW.weights, hu, List.all_cons, List.all_append, Bool.and_eq_true, decide_eq_true_eq, List.length_map] at hw2
        obtain ⟨hw1, hw2, _⟩ := hw2
        have each : ∀ i, i < len → ∃ el : List AV, Sh P n e el ∧ el.length = P.cellsOf e ∧ ∀ j y, el[j]? = some y → ∃ v, W.cell? ((a.add (i * P.cellsOf e)).add j) = some v ∧ IR W (fun k => k < W.heap.size) S false y v := by
          intro i hi
          have h1 := hget i hi
          have h2 : elems[i]? = some elems[i] := List.getElem?_eq_getElem (by omega)
          rw [h2] at h1
          obtain ⟨c1, hc1, ht1⟩ := Option.bind_eq_some_iff.1 h1
          obtain ⟨_, hcl, hcc⟩ := World.cells?_some hc1
          obtain ⟨l, s1, s2, s3⟩ := open_sh n e c1 m elems[i] hpe ht1 (weightsAll_mem hw2 i _ (by rw [List.getElem?_map, h2]; rfl))
          refine ⟨l, s1, by rw [s2, hcl], fun j y hj => ?_⟩
          have hjl : j < c1.length := by rw [← s2]; exact (List.getElem?_eq_some_iff.1 hj).1
          refine ⟨c1[j], by rw [hcc j (by omega), List.getElem?_eq_getElem hjl], ?_⟩
          have := s3 j y hj
          rwa [List.getD_eq_getElem?_getD, List.getElem?_eq_getElem hjl] at this
        obtain ⟨ll, hl1, hl2⟩ := choose_list len each
        have hlen : ∀ el ∈ ll, el.length = P.cellsOf e := fun el he => by
          obtain ⟨i, hi⟩ := List.mem_iff_getElem?.1 he
          exact (hl2 i el hi).2.1
        refine ⟨_, ⟨ll, rfl, fun el he => ?_, ?_, by omega⟩, cellsI_one ?_⟩
        · obtain ⟨i, hi⟩ := List.mem_iff_getElem?.1 he
          exact (hl2 i el hi).1
        · refine Nat.le_trans (Nat.mul_le_mul_right _ ?_) hw1
          omega
        · cases hll : ll with
          | nil =>
            have : len = 0 := by rw [← hl1, hll]; rfl
            subst this
            exact .sl0 _ _ _ _
          | cons l0 ls =>
            rw [← hll]
            rw [← hl1]
            have hl0 : ll[0]? = some l0 := by rw [hll]; rfl
            have hl0len : 0 < l0.length := by rw [hlen l0 (List.mem_of_getElem? hl0)]; exact hsz
            obtain ⟨v0, hv0, _⟩ := (hl2 0 l0 hl0).2.2 0 l0[0] (List.getElem?_eq_getElem hl0len)
            obtain ⟨b, off, spot⟩ := a
            have hadd : ∀ q, (Addr.mk b off spot).add q = ⟨b, off + q, if q = 0 then spot else none⟩ := by
              intro q
              unfold Addr.add
              split
              · subst_vars; rfl
              · rename_i hq; simp [hq]
            simp only [Nat.zero_mul, hadd, if_true] at hv0
            simp only [World.cell?, Addr.add, if_true, Nat.add_zero] at hv0
            split at hv0
            · rename_i cs T fz hblk
              split at hv0
              · cases hv0
              · rename_i hspot
                have hspot : spot = none := by cases spot <;> simp_all
                subst hspot
                have hcell : ∀ q v, W.cell? ⟨b, off + q, none⟩ = some v → cs[off + q]? = some v := by
                  intro q v hq
                  simpa [World.cell?, hblk] using hq
                have hflat : ∀ j, j < ll.flatten.length → ∃ y v, ll.flatten[j]? = some y ∧ cs[off + j]? = some v ∧ IR W (fun k => k < W.heap.size) S false y v := by
                  intro j hj
                  rw [flat_length _ _ hlen] at hj
                  have hdiv : j / P.cellsOf e < ll.length := by rw [Nat.div_lt_iff_lt_mul hsz]; exact hj
                  have hmod := Nat.mod_lt j hsz
                  have hel := List.getElem?_eq_getElem hdiv
                  have h1 := flat_get _ _ hlen _ _ hel _ hmod
                  rw [Nat.div_add_mod'] at h1
                  have hlen1 := hlen _ (List.mem_of_getElem? hel)
                  have hy := List.getElem?_eq_getElem (show j % P.cellsOf e < ll[j / P.cellsOf e].length by omega)
                  obtain ⟨v, hv1, hv2⟩ := (hl2 _ _ hel).2.2 _ _ hy
                  refine ⟨_, v, h1.trans hy, hcell j v ?_, hv2⟩
                  rw [add_off, add_off, Nat.add_assoc, Nat.div_add_mod'] at hv1
                  exact hv1
                refine .sl _ _ ll b off cap cs T fz (fun j => (cs[off + j]?).getD undef) (.inl ?_) hblk hlen (by omega) (fun j hj => ?_) (fun j y hj => ?_)
                · exact (Array.getElem?_eq_some_iff.1 hblk).1
                · obtain ⟨y, v, _, h2, _⟩ := hflat j hj
                  simp only [h2, Option.getD_some]
                · obtain ⟨y', v, h1, h2, h3⟩ := hflat j (List.getElem?_eq_some_iff.1 hj).1
                  rw [hj] at h1
                  cases h1
                  simpa only [h2, Option.getD_some] using h3
            · cases hv0
    · rename_i fs hu
      simp only [Bool.and_eq_true] at hp
      obtain ⟨xs, m, rfl, rfl, hl, hxl, hget⟩ := DataW.trod_struct hu ht
      try simp only [hu]
      have hw2 : ((DataW.agg (xs.map (·.1))).weights P t).all (· ≤ reachBytes) = true := hw
      simp only [DataW.weights, hu] at hw2
      have := open_fields (P := P) (W := W) (S := S) (enc := enc) (n := n) (fun t cs fuel x => open_sh n t cs fuel x) fs.toList 0 xs hp.1 hp.2 hl (Nat.zero_le _) (by simpa using hxl) (fun i f hf => hget i f (by simpa using hf)) hw2
      simpa using this
    · rename_i k e hu
      simp only [Bool.and_eq_true, beq_iff_eq] at hp
      obtain ⟨xs, m, rfl, rfl, hl, hxl, hget⟩ := DataW.trod_array hu ht
      try simp only [hu]
      have hw2 : ((DataW.agg (xs.map (·.1))).weights P t).all (· ≤ reachBytes) = true := hw
      simp only [DataW.weights, hu] at hw2
      have := open_elems (P := P) (W := W) (S := S) (enc := enc) (n := n) (fun t cs fuel x => open_sh n t cs fuel x) (m := m) (k := k) hp.1 (by rw [hl, hp.2]) k 0 xs rfl hxl (fun j hj => by simpa using hget j hj) hw2
      simpa using this
    · cases hp

/-! ### Arguments -/

def ArgOf (P : Program) (t : TypeId) (l : List AV) (x : AV) : Prop := match P.underlying t with
  | some (.struct _) => x = .agg (l.map (immF false))
  | some (.array _ _) => x = .agg (l.map (immF false))
  | _ => ∃ a, l = [a] ∧ x = immF false a
def ArgsOf (P : Program) (n : Nat) : List TypeId → List AV → Prop
  | [], l => l = []
  | t :: ts, l => ∃ x xs c, l = x :: xs ∧ Sh P n t c ∧ ArgOf P t c x ∧ ArgsOf P n ts xs

theorem vr_imm {a : AV} {v : Value} (h : IR W (fun k => k < W.heap.size) S false a v) : VR [] W (fun k => k < W.heap.size) S (immF false a) v := by
  cases a with
  | sl s l =>
    cases h with
    | sl0 _ _ a c => exact .ir _ _ rfl (.imm _ _ _ _ _ a 0 c (by simp) (.sl0 _ _ a c) (by simp))
    | sl _ _ _ b' off' c cs' T' fz' cv' q1 q2 q3 q0 q4 q5 => exact .ir _ _ rfl (.imm _ _ _ _ _ _ _ c (by simp) (.sl _ _ _ b' off' c cs' T' fz' cv' q1 q2 q3 q0 q4 q5) (by simp))
  | _ => exact .ir _ _ rfl h

theorem open_arg {n : Nat} {t : TypeId} {v : Value} {d : DataW H} {p : List MemPlace} (hp : plain P n t = true) (ht : DataW.Trod enc P W 0 (fun _ => true) true t v d p) (hw : (d.weights P t).all (· ≤ reachBytes) = true) {base : Nat}
    (hv : Value.okWide P W .any base t v) : ∃ c x, Sh P n t c ∧ ArgOf P t c x ∧ VR [] W (fun k => k < W.heap.size) S x v := by
  obtain ⟨fuel, ht⟩ := ht
  obtain ⟨l, h1, h2, h3⟩ := open_sh (S := S) n t _ fuel _ hp ht hw
  have hagg : ∀ cs : Array Value, v = .agg cs → VR [] W (fun k => k < W.heap.size) S (.agg (l.map (immF false))) v := by
    rintro cs rfl
    have h2 : l.length = cs.size := by simpa [Value.cells] using h2
    have := VR.agg (G := []) (w := W) (Ro := fun k => k < W.heap.size) (S := S) (l.map (immF false)) cs.toList (by simpa using h2) (fun u hu => by
      obtain ⟨j, hj, rfl⟩ := List.mem_iff_getElem.1 hu
      have hjl : j < l.length := by simp at hj; omega
      have := (h3 j l[j] (List.getElem?_eq_getElem hjl)).one
      simpa [Value.cells, List.getD_eq_getElem?_getD, show j < cs.size by simpa using hj] using this) (fun j x hj => by
      rw [List.getElem?_map] at hj
      cases hl : l[j]? with
      | none => simp [hl] at hj
      | some a =>
        simp [hl] at hj
        subst hj
        exact vr_imm (by simpa [Value.cells] using h3 j a hl))
    simpa using this
  have hone : v.cells = #[v] → (match P.underlying t with | some (.struct _) => False | some (.array _ _) => False | _ => True) → ∃ c x, Sh P n t c ∧ ArgOf P t c x ∧ VR [] W (fun k => k < W.heap.size) S x v := by
    intro hc hm
    rw [hc] at h2 h3
    cases l with
    | nil => simp at h2
    | cons a l =>
      cases l with
      | cons _ _ => simp at h2
      | nil =>
        refine ⟨[a], immF false a, h1, ?_, vr_imm (by simpa using h3 0 a rfl)⟩
        unfold ArgOf
        split
        · rename_i hu; rw [hu] at hm; exact hm.elim
        · rename_i hu; rw [hu] at hm; exact hm.elim
        · exact ⟨a, rfl, rfl⟩
  unfold Value.okWide at hv
  split at hv
  · rename_i fs hu
    obtain ⟨cs, rfl, _⟩ := hv
    exact ⟨l, _, h1, by simp only [ArgOf, hu], hagg cs rfl⟩
  · rename_i k e hu
    obtain ⟨cs, rfl, _⟩ := hv
    exact ⟨l, _, h1, by simp only [ArgOf, hu], hagg cs rfl⟩
  · rename_i hu1 hu2
    refine hone ?_ ?_
    · cases v with
      | agg cs =>
        unfold Cell.okWide at hv
        split at hv <;> first | (rename_i heq; cases heq) | skip
        unfold Cell.ok at hv
        split at hv <;> first | (rename_i heq; cases heq) | exact hv.elim
      | _ => rfl
    · split
      · rename_i fs hu; exact hu1 fs hu
      · rename_i k e hu; exact hu2 k e hu
      · trivial

theorem open_args {n : Nat} {base : Nat} : ∀ {ts : List TypeId} {vs : List Value} {ds : List (DataW H)} {ps : List MemPlace} {rest : List TypeId} {gs : List (DataW H)}, (ts.all (plain P n)) = true → DataW.TrodAll enc P W 0 (fun _ => true) true ts vs ds ps →
    (DataW.weightsEach P (ts ++ rest) (ds ++ gs)).all (· ≤ reachBytes) = true → (∀ (j : Nat) t v, ts[j]? = some t → vs[j]? = some v → Value.okWide P W .any base t v) →
    ∃ xs, ArgsOf P n ts xs ∧ xs.length = vs.length ∧ ∀ (j : Nat) x, xs[j]? = some x → VR [] W (fun k => k < W.heap.size) S x (vs.getD j undef)
  | [], vs, ds, ps, rest, gs, hp, ht, hw, hv => by
    obtain ⟨rfl, rfl, rfl⟩ := Go.ChangeShapes.trodAll_nil ht
    exact ⟨[], rfl, rfl, by simp⟩
  | t :: ts, vs, ds, ps, rest, gs, hp, ht, hw, hv => by
    obtain ⟨v, vs, d, ds, p, q, rfl, rfl, rfl, h1, h2⟩ := Go.ChangeShapes.trodAll_cons ht
    simp only [List.all_cons, Bool.and_eq_true] at hp
    simp only [List.cons_append, DataW.weightsEach, List.all_append, Bool.and_eq_true] at hw
    obtain ⟨c, x, a1, a2, a3⟩ := open_arg (S := S) hp.1 h1 hw.1 (hv 0 t v rfl rfl)
    obtain ⟨xs, b1, b2, b3⟩ := open_args hp.2 h2 hw.2 (fun j t v h1 h2 => hv (j + 1) t v (by simpa using h1) (by simpa using h2))
    refine ⟨x :: xs, ⟨x, xs, c, rfl, a1, a2, b1⟩, by simp [b2], fun j y hj => ?_⟩
    cases j with
    | zero => simp at hj; subst hj; simpa using a3
    | succ j => simpa using b3 j y (by simpa using hj)

/-- What was read before the call reads so behind it. -/
theorem trodAll_below (hlaid : laidOutB P = true) {W W' : World} (hb : Below W.heap.size W W') : ∀ {ts : List TypeId} {vs : List Value} {ds : List (DataW H)} {ps : List MemPlace}, (ts.all fun t => P.readableRec t && decide (t < P.types.size)) = true →
    DataW.TrodAll enc P W 0 (fun _ => true) true ts vs ds ps → (∀ x ∈ ps, x.block < W.heap.size) → DataW.TrodAll enc P W' 0 (fun b => decide (b < W.heap.size)) true ts vs ds ps
  | [], vs, ds, ps, hp, ht, hl => by
    obtain ⟨rfl, rfl, rfl⟩ := Go.ChangeShapes.trodAll_nil ht
    rfl
  | t :: ts, vs, ds, ps, hp, ht, hl => by
    obtain ⟨v, vs, d, ds, p, q, rfl, rfl, rfl, h1, h2⟩ := Go.ChangeShapes.trodAll_cons ht
    simp only [List.all_cons, Bool.and_eq_true, decide_eq_true_eq] at hp
    exact ⟨p, q, Below.trod hlaid hp.1.1 hp.1.2 h1 hb (fun x hx => hl x (List.mem_append_left _ hx)), trodAll_below hlaid hb hp.2 h2 (fun x hx => hl x (List.mem_append_right _ hx)), rfl⟩

theorem trodAll_len {W : World} : ∀ {ts : List TypeId} {vs : List Value} {ds : List (DataW H)} {ps : List MemPlace}, DataW.TrodAll enc P W 0 (fun _ => true) true ts vs ds ps → ds.length = ts.length
  | [], vs, ds, ps, ht => by
    obtain ⟨rfl, rfl, rfl⟩ := Go.ChangeShapes.trodAll_nil ht
    rfl
  | t :: ts, vs, ds, ps, ht => by
    obtain ⟨v, vs, d, ds, p, q, rfl, rfl, rfl, h1, h2⟩ := Go.ChangeShapes.trodAll_cons ht
    simpa using trodAll_len h2

/-- A law whose handler gives true, whatever the arguments. -/
theorem law_calls {f : FuncId} {Hd : Handler} (hs : HSound P f Hd) {vs : Array Value} {xs : List AV} (hl : xs.length = vs.size) (hv : ∀ (j : Nat) x, xs[j]? = some x → VR [] W (fun k => k < W.heap.size) (fun _ => False) x (vs.toList.getD j undef))
    (hH : Hd xs [] fun x _ => x = .v (.bool true)) : Calls P f vs W fun e w' => e = .returned (.bool true) ∧ Below W.heap.size W w' := by
  have g0 : Good ⟨W, fun _ => False, fun _ => False, fun k => k < W.heap.size, W, []⟩ [] [] W (fun _ => False) (fun _ _ => False) :=
    ⟨rfl, by simp, by simp, by simp, by simp, by simp, fun _ h => h, fun _ h => .inl h, Nat.le_refl _, rfl, rfl, rfl, fun _ _ _ => rfl, fun k hk => ⟨hk, fun h => h⟩, fun _ _ h => h, fun _ _ => rfl⟩
  have := hs ⟨W, fun _ => False, fun _ => False, fun k => k < W.heap.size, W, []⟩ [] (fun _ => False) (fun _ _ => False) [] W xs vs.toList _ g0 (by simpa using hl) hv hH
  rw [Array.toArray_toList] at this
  refine Calls.mono this ?_
  rintro e w' ⟨x, h', G', S', F', rfl, hg, _, ⟨v, rfl, hvx⟩ | ⟨v, _, hx⟩⟩
  · have hvx := hvx.v_inv.1
    subst hvx
    exact ⟨rfl, hg.os, hg.tape, hg.output, hg.size, fun k hk => hg.fr k hk (fun h => h)⟩
  · cases hx
end

end Go.Proofs.Ytegcfogbdgmajaa.Ab
