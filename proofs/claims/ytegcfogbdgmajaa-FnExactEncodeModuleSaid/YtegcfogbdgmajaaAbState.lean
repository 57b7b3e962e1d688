/- Steps from one state of what is known to the next: a new block, a block written, a draw. No condition. -/
import Derived.Test.YtegcfogbdgmajaaAbRel
import Derived.Deep.Draws
namespace Go.Proofs.Ytegcfogbdgmajaa.Ab
set_option linter.unusedVariables false
set_option linter.unusedSimpArgs false

/-! ### The strict words are the plain ones -/

theorem getK_eq (t : TS) (n : Nat) (k : AV → Prop) : getK t n k = k (t.getD n .top) := by
  induction t generalizing n with
  | nil => simp [getK]
  | cons a t ih => cases n with
    | zero => simp [getK]
    | succ n => simp [getK, ih]
theorem setK_eq {α : Type} (l : List α) (n : Nat) (x : α) (k : List α → Prop) : setK l n x k = k (l.set n x) := by
  induction l generalizing n k with
  | nil => simp [setK]
  | cons a t ih => cases n with
    | zero => simp [setK]
    | succ n => simp [setK, ih]
theorem newK_aux (ns : List Nat) (x : Root) : ∀ (h : HP) (k : Nat → HP → Prop), newK h ns x k → ∃ n, ns[h.length]? = some n ∧ k n (h ++ [x]) := by
  induction ns with
  | nil => intro h k hk; cases h <;> simp [newK] at hk
  | cons n ns ih =>
    intro h k hk
    cases h with
    | nil => exact ⟨n, by simp, by simpa [newK] using hk⟩
    | cons a t =>
      simp only [newK] at hk
      obtain ⟨m, h1, h2⟩ := ih t _ hk
      exact ⟨m, by simpa using h1, by simpa using h2⟩
theorem nums_range : nums = List.range 160 := by decide
theorem nums_get (i n : Nat) (h : nums[i]? = some n) : n = i := by
  rw [nums_range, List.getElem?_range (by
    have := (List.getElem?_eq_some_iff.1 h).1
    simpa [nums_range] using this)] at h
  simpa using h.symm
theorem newK_spec {h : HP} {x : Root} {k : Nat → HP → Prop} (hk : newK h nums x k) : k h.length (h ++ [x]) := by
  obtain ⟨n, h1, h2⟩ := newK_aux nums x h k hk
  rw [nums_get _ _ h1] at h2
  exact h2
theorem rootK_spec {h : HP} {r : Nat} {k : Root → Prop} (hk : rootK h r k) : ∃ a, h[r]? = some a ∧ k a := by
  induction h generalizing r with
  | nil => simp [rootK] at hk
  | cons a t ih => cases r with
    | zero => exact ⟨a, by simp, by simpa [rootK] using hk⟩
    | succ r => obtain ⟨b, h1, h2⟩ := ih (r := r) (by simpa [rootK] using hk); exact ⟨b, by simpa using h1, h2⟩
def lay (l : List AV) (o : Nat) (cs : List AV) : List AV := l.take o ++ cs ++ l.drop (o + cs.length)
theorem layK_spec : ∀ (l : List AV) (o : Nat) (cs : List AV) (k : List AV → Prop), layK l o cs k → o + cs.length ≤ l.length ∧ k (lay l o cs)
  | l, 0, [], k, hk => by simp [layK] at hk; simp [lay, hk]
  | a :: l, 0, c :: cs, k, hk => by
    simp only [layK] at hk
    obtain ⟨h1, h2⟩ := layK_spec l 0 cs _ hk
    refine ⟨by simp at h1 ⊢; omega, ?_⟩
    simpa [lay, Nat.add_comm] using h2
  | a :: l, n + 1, cs, k, hk => by
    simp only [layK] at hk
    obtain ⟨h1, h2⟩ := layK_spec l n cs _ hk
    refine ⟨by simp at h1 ⊢; omega, ?_⟩
    simpa [lay, Nat.add_right_comm] using h2
  | [], 0, c :: cs, k, hk => by simp [layK] at hk
  | [], n + 1, cs, k, hk => by simp [layK] at hk
theorem cutK_spec : ∀ (l : List AV) (o n : Nat) (k : List AV → Prop), cutK l o n k → o + n ≤ l.length ∧ k ((l.drop o).take n)
  | l, 0, 0, k, hk => by simp [cutK] at hk; simp [hk]
  | a :: l, 0, n + 1, k, hk => by
    simp only [cutK] at hk
    obtain ⟨h1, h2⟩ := cutK_spec l 0 n _ hk
    exact ⟨by simp at h1 ⊢; omega, by simpa using h2⟩
  | a :: l, o + 1, n, k, hk => by
    simp only [cutK] at hk
    obtain ⟨h1, h2⟩ := cutK_spec l o n _ hk
    exact ⟨by simp at h1 ⊢; omega, by simpa using h2⟩
  | [], 0, n + 1, k, hk => by simp [cutK] at hk
  | [], o + 1, n, k, hk => by simp [cutK] at hk
theorem lay_length {l cs : List AV} {o : Nat} (h : o + cs.length ≤ l.length) : (lay l o cs).length = l.length := by simp [lay]; omega
theorem lay_get {l cs : List AV} {o : Nat} (h : o + cs.length ≤ l.length) (j : Nat) : (lay l o cs)[j]? = if o ≤ j ∧ j < o + cs.length then cs[j - o]? else l[j]? := by
  unfold lay
  rw [List.append_assoc, List.getElem?_append]
  simp only [List.length_take, Nat.min_eq_left (show o ≤ l.length by omega)]
  by_cases h1 : j < o
  · rw [if_pos h1, if_neg (by omega), List.getElem?_take, if_pos h1]
  · rw [if_neg h1, List.getElem?_append]
    by_cases h2 : j - o < cs.length
    · rw [if_pos h2, if_pos (by omega)]
    · rw [if_neg h2, if_neg (by omega), List.getElem?_drop]
      congr 1; omega

/-! ### Values at hand -/

def TR (G : List Gh) (w : World) (Ro S : BS) (t : TS) (a : Act) : Prop := t.length = a.tmps.size ∧ ∀ i, VR G w Ro S (t.getD i .top) (a.tmps.getD i undef)

theorem TR.ext {E : Env} {G w S G' w' S'} (e : Ext E G w S G' w' S') {t a} (h : TR G w E.Ro S t a) : TR G' w' E.Ro S' t a := ⟨h.1, fun i => (h.2 i).ext e⟩

theorem putK_spec {G : List Gh} {w : World} {Ro S : BS} {t : TS} {a : Act} {d : Option Tmp} {x : AV} {v : Value} {k : TS → Prop} (ht : TR G w Ro S t a) (hv : VR G w Ro S x v) (hk : putK t d x k) :
    ∃ t', k t' ∧ TR G w Ro S t' (a.put d v) := by
  cases d with
  | none => exact ⟨t, hk, ht⟩
  | some i =>
    simp only [putK, setK_eq] at hk
    refine ⟨_, hk, by simpa [Act.put] using ht.1, fun j => ?_⟩
    have hl := ht.1
    simp only [Act.put, Array.getD_eq_getD_getElem?, List.getD_eq_getElem?_getD, List.getElem?_set, Array.getElem?_setIfInBounds]
    have hj := ht.2 j
    simp only [Array.getD_eq_getD_getElem?, List.getD_eq_getElem?_getD] at hj
    by_cases hij : i = j
    · subst hij
      by_cases hb : i < t.length
      · simpa [hb, hl ▸ hb] using hv
      · simpa [hb, hl ▸ hb] using VR.top _
    · simpa [hij] using hj

def evF (t : TS) (o : Operand) : AV := match o with
  | .tmp i => t.getD i .top
  | .const x => (match x with | .slice none 0 0 => .nils | .slice _ _ _ => .top | .agg _ => .top | .tuple _ => .top | x => .v x)
  | .global _ => .top
  | .func f => .fn f []
theorem evK_eq (t : TS) (o : Operand) (k : AV → Prop) : evK t o k = k (evF t o) := by
  cases o with
  | tmp i => simp [evK, evF, getK_eq]
  | const x =>
    simp only [evK, evF, constK]
    cases x with
    | slice a n c =>
      cases a with
      | none => cases n with
        | zero => cases c <;> rfl
        | succ n => rfl
      | some a => rfl
    | _ => rfl
  | global g => rfl
  | func f => rfl
theorem evF_spec {G : List Gh} {w : World} {Ro S : BS} {t : TS} {a : Act} (ht : TR G w Ro S t a) (o : Operand) : VR G w Ro S (evF t o) (a.eval o) := by
  cases o with
  | tmp i => exact ht.2 i
  | const x =>
    simp only [evF, Act.eval]
    split
    · exact .nils
    · exact .top _
    · exact .top _
    · exact .top _
    · rename_i h1 h2 h3 h4
      refine .ir _ _ rfl (.v _ _ ?_)
      cases x <;> simp_all [Value.oneCell']
  | global g => exact .top _
  | func f => exact .ir _ _ rfl (.fn _ f [] [] rfl (by simp) (by simp))
theorem mapK_ev (t : TS) (l : List Operand) (k : List AV → Prop) : mapK (evK t) l k = k (l.map (evF t)) := by
  induction l generalizing k with
  | nil => rfl
  | cons a l ih => simp [mapK, evK_eq, ih]

/-! ### Roots -/

/-- A world in which, of the blocks of the world before, only those of B are other. -/
structure Chg (w w' : World) (B : BS) : Prop where
  os : w'.os = w.os
  tape : w'.tape = w.tape
  output : w'.output = w.output
  size : w.heap.size ≤ w'.heap.size
  heap : ∀ k, k < w.heap.size → ¬ B k → w'.heap[k]? = w.heap[k]?

theorem Chg.refl (w : World) (B : BS) : Chg w w B := ⟨rfl, rfl, rfl, Nat.le_refl _, fun _ _ _ => rfl⟩
theorem Chg.drewN (w : World) (n : Nat) (B : BS) : Chg w (w.drewN n) B := ⟨rfl, rfl, rfl, Nat.le_refl _, fun _ _ _ => rfl⟩
theorem Chg.alloc (w : World) (o : Obj) (B : BS) : Chg w (w.alloc o) B :=
  ⟨rfl, rfl, rfl, by simp, fun k hk _ => by simp only [World.alloc, Array.getElem?_push]; rw [if_neg (by omega)]⟩
theorem Chg.setRow (w : World) (b : Nat) (cs : Array Value) (B : BS) (hb : B b) : Chg w (w.setRow b cs) B :=
  ⟨rfl, rfl, rfl, by simp, fun k _ hk => setRow_other w b k cs (fun h => hk (h ▸ hb))⟩

theorem Good.ro_lt {E G h w S F} (hg : Good E G h w S F) {k : Nat} (hk : E.Ro k) : k < w.heap.size := Nat.lt_of_lt_of_le (hg.rok k hk).1 hg.size
theorem Good.ro_not {E G h w S F} (hg : Good E G h w S F) {k : Nat} (hk : E.Ro k) (r : Nat) : ¬ F r k := fun hf => by
  have := (hg.own r k hf).2.1
  rcases this with h | h
  · exact (hg.rok k hk).2 h
  · have := (hg.rok k hk).1; omega
/-- What lay outside when the call began lies outside still. -/
theorem Good.out_not {E G h w S F} (hg : Good E G h w S F) {k : Nat} (h1 : k < E.w0.heap.size) (h2 : ¬ E.O k) (r : Nat) : ¬ F r k := fun hf => by
  rcases (hg.own r k hf).2.1 with h | h
  · exact h2 h
  · omega

/-- Where only blocks of root r have changed, what is known lasts. -/
theorem Good.ext_chg {E G h w S F} (hg : Good E G h w S F) {w' : World} {r : Nat} (c : Chg w w' (F r)) {G' : List Gh} (hG : ∀ (i : Nat) (g : Gh), G[i]? = some g → G'[i]? = some g) : Ext E G w S G' w' S :=
  ⟨hG, fun _ h => h, fun k hk => c.heap k (hg.sb k hk) (fun hf => (hg.own r k hf).2.2 hk), fun k hk => c.heap k (hg.ro_lt hk) (hg.ro_not hk r)⟩
theorem Good.ext_none {E G h w S F} (hg : Good E G h w S F) {w' : World} (c : Chg w w' (fun _ => False)) {G' : List Gh} (hG : ∀ (i : Nat) (g : Gh), G[i]? = some g → G'[i]? = some g) : Ext E G w S G' w' S :=
  ⟨hG, fun _ h => h, fun k hk => c.heap k (hg.sb k hk) (fun hf => hf), fun k hk => c.heap k (hg.ro_lt hk) (fun hf => hf)⟩

/-- Root r, and its blocks, have become what 'rt'' and 'F'' say. -/
theorem Good.setRoot' {E G h w S F} (hg : Good E G h w S F) {r : Nat} {g : Gh} (hr : r < h.length) (hgr : G[r]? = some g) {w' : World} (c : Chg w w' (F r)) {rt' : Root} {F' : BS} (hrt : RootR G w' E.Ro S rt' g F')
    (hdis : ∀ i k, i ≠ r → F i k → ¬ F' k) (hown : ∀ k, F' k → k < w'.heap.size ∧ (E.O k ∨ E.w0.heap.size ≤ k) ∧ ¬ S k) : Good E G (h.set r rt') w' S (fun i => if i = r then F' else F i) := by
  have e := hg.ext_chg c (G' := G) (fun _ _ h => h)
  constructor
  · simpa using hg.len
  · intro i rt g' h1 h2
    by_cases hi : i = r
    · subst hi
      rw [List.getElem?_set_self hr] at h1
      rw [hgr] at h2
      cases h1; cases h2
      simpa using hrt
    · rw [List.getElem?_set_ne (Ne.symm hi)] at h1
      simp only [hi, if_false]
      exact (hg.root i rt g' h1 h2).ext e (fun k hk => c.heap k (hg.own i k hk).1 (fun hf => hi (hg.dis i r k hk hf)))
  · intro i j k h1 h2
    by_cases hi : i = r <;> by_cases hj : j = r <;> simp only [hi, hj, if_true, if_false] at h1 h2
    · rw [hi, hj]
    · exact absurd h1 (hdis j k hj h2)
    · exact absurd h2 (hdis i k hi h1)
    · exact hg.dis i j k h1 h2
  · intro i k hi
    simp only [List.length_set] at hi
    rw [if_neg (by omega)]
    exact hg.out i k hi
  · intro i k hk
    by_cases hi : i = r
    · subst hi; simp only [if_true] at hk; exact hown k hk
    · have := hg.own i k (by simpa [hi] using hk)
      exact ⟨Nat.lt_of_lt_of_le this.1 c.size, this.2⟩
  · exact fun k hk => Nat.lt_of_lt_of_le (hg.sb k hk) c.size
  · exact hg.s0
  · exact hg.sn
  · exact Nat.le_trans hg.size c.size
  · exact c.os.trans hg.os
  · exact c.tape.trans hg.tape
  · exact c.output.trans hg.output
  · exact fun k h1 h2 => (c.heap k (Nat.lt_of_lt_of_le h1 hg.size) (hg.out_not h1 h2 r)).trans (hg.fr k h1 h2)
  · exact hg.rok
  · exact hg.gp
  · exact fun k hk => (e.ss k (hg.s0 k hk)).trans (hg.sf k hk)

theorem Good.setRoot {E G h w S F} (hg : Good E G h w S F) {r : Nat} {g : Gh} (hr : r < h.length) (hgr : G[r]? = some g) {w' : World} (c : Chg w w' (F r)) {rt' : Root} {F' : BS} (hrt : RootR G w' E.Ro S rt' g F')
    (hsub : ∀ k, F' k → F r k) : Good E G (h.set r rt') w' S (fun i => if i = r then F' else F i) :=
  hg.setRoot' hr hgr c hrt (fun i k hi h1 h2 => hi (hg.dis i r k h1 (hsub k h2))) (fun k hk => by have := hg.own r k (hsub k hk); exact ⟨Nat.lt_of_lt_of_le this.1 c.size, this.2⟩)

/-- Nothing of what is known has changed. -/
theorem Good.chg {E G h w S F} (hg : Good E G h w S F) {w' : World} (c : Chg w w' (fun _ => False)) : Good E G h w' S F := by
  have e := hg.ext_none c (G' := G) (fun _ _ h => h)
  constructor
  · exact hg.len
  · exact fun i rt g h1 h2 => (hg.root i rt g h1 h2).ext e (fun k hk => c.heap k (hg.own i k hk).1 (fun hf => hf))
  · exact hg.dis
  · exact hg.out
  · exact fun i k hk => ⟨Nat.lt_of_lt_of_le (hg.own i k hk).1 c.size, (hg.own i k hk).2⟩
  · exact fun k hk => Nat.lt_of_lt_of_le (hg.sb k hk) c.size
  · exact hg.s0
  · exact hg.sn
  · exact Nat.le_trans hg.size c.size
  · exact c.os.trans hg.os
  · exact c.tape.trans hg.tape
  · exact c.output.trans hg.output
  · exact fun k h1 h2 => (c.heap k (Nat.lt_of_lt_of_le h1 hg.size) (fun h => h)).trans (hg.fr k h1 h2)
  · exact hg.rok
  · exact hg.gp
  · exact fun k hk => (e.ss k (hg.s0 k hk)).trans (hg.sf k hk)

/-- One more root. -/
theorem Good.addRoot {E G h w S F} (hg : Good E G h w S F) (g : Gh) (rt : Root) (Fn : BS) (hrt : RootR (G ++ [g]) w E.Ro S rt g Fn) (hd : ∀ r k, F r k → ¬ Fn k)
    (ho : ∀ k, Fn k → k < w.heap.size ∧ (E.O k ∨ E.w0.heap.size ≤ k) ∧ ¬ S k) : Good E (G ++ [g]) (h ++ [rt]) w S (fun i => if i = h.length then Fn else F i) := by
  have hG : ∀ (i : Nat) (g' : Gh), G[i]? = some g' → (G ++ [g])[i]? = some g' := fun i g' h => by
    rw [List.getElem?_append_left (List.getElem?_eq_some_iff.1 h).1]; exact h
  have e := hg.ext_none (Chg.refl w _) hG
  have hlen := hg.len
  constructor
  · simp [hlen]
  · intro i rt' g' h1 h2
    by_cases hi : i = h.length
    · subst hi
      rw [List.getElem?_append_right (Nat.le_refl _)] at h1
      rw [List.getElem?_append_right (by omega)] at h2
      simp at h1
      simp [hlen] at h2
      subst h1; subst h2
      simpa using hrt
    · have hlt : i < h.length := by
        have := (List.getElem?_eq_some_iff.1 h1).1
        simp at this; omega
      rw [List.getElem?_append_left hlt] at h1
      rw [List.getElem?_append_left (by omega)] at h2
      simp only [hi, if_false]
      exact (hg.root i rt' g' h1 h2).ext e (fun _ _ => rfl)
  · intro i j k h1 h2
    by_cases hi : i = h.length <;> by_cases hj : j = h.length <;> simp only [hi, hj, if_true, if_false] at h1 h2
    · rw [hi, hj]
    · exact absurd h1 (hd j k h2)
    · exact absurd h2 (hd i k h1)
    · exact hg.dis i j k h1 h2
  · intro i k hi
    simp at hi
    rw [if_neg (by omega)]
    exact hg.out i k (by omega)
  · intro i k hk
    by_cases hi : i = h.length
    · simp only [hi, if_true] at hk; exact ho k hk
    · simp only [hi, if_false] at hk; exact hg.own i k hk
  · exact hg.sb
  · exact hg.s0
  · exact hg.sn
  · exact hg.size
  · exact hg.os
  · exact hg.tape
  · exact hg.output
  · exact hg.fr
  · exact hg.rok
  · exact fun r g h => hG r g (hg.gp r g h)
  · exact hg.sf

/-- Root r parts: a new root has some of its blocks. -/
theorem Good.split {E G h w S F} (hg : Good E G h w S F) {r : Nat} {g : Gh} (hr : r < h.length) (hgr : G[r]? = some g) (gn : Gh) {rt1 rtn : Root} {F1 Fn : BS} (h1 : RootR (G ++ [gn]) w E.Ro S rt1 g F1)
    (h2 : RootR (G ++ [gn]) w E.Ro S rtn gn Fn) (s1 : ∀ k, F1 k → F r k) (s2 : ∀ k, Fn k → F r k) (d : ∀ k, F1 k → ¬ Fn k) : ∃ F', Good E (G ++ [gn]) ((h.set r rt1) ++ [rtn]) w S F' := by
  have a1 := hg.setRoot hr hgr (Chg.refl w _) (rt' := .dead) (F' := fun _ => False) (fun _ h => h) (fun _ h => h.elim)
  have a2 := a1.addRoot gn rtn Fn h2 (fun i k hk => by
    by_cases hi : i = r
    · simp [hi] at hk
    · simp only [hi, if_false] at hk
      exact fun hf => hi (hg.dis i r k hk (s2 k hf))) (fun k hk => hg.own r k (s2 k hk))
  have hne : r ≠ h.length := by omega
  have a3 := a2.setRoot' (r := r) (by simp; omega) (pre_append G gn r g hgr) (Chg.refl w _) h1 (fun i k hi hk hf => by
    simp only [List.length_set] at hk
    by_cases hl : i = h.length
    · simp only [hl, if_true] at hk; exact d k hf hk
    · simp only [hl, if_false, hi] at hk
      exact hi (hg.dis i r k hk (s1 k hf))) (fun k hk => hg.own r k (s1 k hk))
  have : (h.set r Root.dead ++ [rtn]).set r rt1 = h.set r rt1 ++ [rtn] := by
    rw [List.set_append_left _ _ (by simpa using hr), List.set_set]
  rw [← this]
  exact ⟨_, a3⟩

end Go.Proofs.Ytegcfogbdgmajaa.Ab
