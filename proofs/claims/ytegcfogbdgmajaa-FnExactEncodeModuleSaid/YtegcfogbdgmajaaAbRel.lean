/- What it means that memory is as the abstract machine knows it, and that this lasts. No condition. -/
import Derived.Test.YtegcfogbdgmajaaAbCore
import Derived.WalkKit
import Derived.Laws.CopyRow
import Derived.Laws.Tables
import Derived.Laws.MakeOwn
import Derived.IntWalk
namespace Go.Proofs.Ytegcfogbdgmajaa.Ab
set_option linter.unusedVariables false
set_option linter.unusedSimpArgs false

abbrev BS := Nat → Prop

structure Gh where
  ob : Option Nat
  s : Nat
  sz : Nat

/-- A call's surroundings: the world when it began, the blocks that are its own, those that will never change, those that stay while it runs and that it may read, a later world for what never changes, the roots that stay where they are. -/
structure Env where
  w0 : World
  O : BS
  S0 : BS
  Ro : BS
  ws : World
  G0 : List Gh

def sel (Ro S : BS) (t : Bool) : BS := fun k => match t with | true => S k | false => Ro k ∨ S k

/-- Memory that stays as it is. -/
inductive IR (w : World) (Ro S : BS) : Bool → AV → Value → Prop
  | top (t x) : x.oneCell' = true → IR w Ro S t .top x
  | v (t x) : x.oneCell' = true → IR w Ro S t (.v x) x
  | sl0 (t s a c) : IR w Ro S t (.sl s []) (.slice a 0 c)
  | sl (t s) (l : List (List AV)) (b off c) (cs : Array Value) (T fz) (cv : Nat → Value) : sel Ro S t b → w.heap[b]? = some (.cells cs T fz) → (∀ e ∈ l, e.length = s) → l.length ≤ c →
      (∀ j, j < l.flatten.length → cs[off + j]? = some (cv j)) → (∀ j x, l.flatten[j]? = some x → IR w Ro S t x (cv j)) → IR w Ro S t (.sl s l) (.slice (some ⟨b, off, none⟩) l.length c)
  | imm (t t' z s l a n c) : (t = true → t' = true) → IR w Ro S t' (.sl s l) (.slice a n c) → (z = true → c = n) → IR w Ro S t (.imm t' z s l) (.slice a n c)
  | iptr (t t') (l : List AV) (b off) (cs : Array Value) (T fz) (cv : Nat → Value) : (t = true → t' = true) → sel Ro S t' b → w.heap[b]? = some (.cells cs T fz) →
      (∀ j, j < l.length → cs[off + j]? = some (cv j)) → (∀ j x, l[j]? = some x → IR w Ro S t' x (cv j)) → IR w Ro S t (.iptr t' l) (.pointer (some ⟨b, off, none⟩))
  | fn (t f) (caps : List AV) (vs : List Value) : caps.length = vs.length → (∀ x ∈ caps, x.isSl = false) → (∀ j x, caps[j]? = some x → IR w Ro S t x (vs.getD j undef)) → IR w Ro S t (.fn f caps) (.func (.func f) #[] vs.toArray)

/-- A value at hand. -/
inductive VR (G : List Gh) (w : World) (Ro S : BS) : AV → Value → Prop
  | top (x) : VR G w Ro S .top x
  | ir (a x) : a.isSl = false → IR w Ro S false a x → VR G w Ro S a x
  | nils : VR G w Ro S .nils (.slice none 0 0)
  | ptr (r i o k b) (g : Gh) : G[r]? = some g → g.ob = some b → VR G w Ro S (.ptr r i o k) (.pointer (some ⟨b, i * g.s + o, none⟩))
  | aptr (r o j b) (g : Gh) : G[r]? = some g → g.ob = some b → VR G w Ro S (.aptr r o j) (.pointer (some ⟨b, j + o, none⟩))
  | bsl (r o n b c) (g : Gh) : G[r]? = some g → g.ob = some b → n ≤ c → VR G w Ro S (.bsl r o n) (.slice (some ⟨b, o, none⟩) n c)
  | mapr (r b) (g : Gh) : G[r]? = some g → g.ob = some b → VR G w Ro S (.mapr r) (.map (some b))
  | slc (r o n z) (g : Gh) (a c) : G[r]? = some g → n ≤ c → (z = true → c = n) → (c = 0 ∨ ∃ b, g.ob = some b ∧ a = some ⟨b, o * g.s, none⟩ ∧ (o + c) * g.s ≤ g.sz) → VR G w Ro S (.slc r o n z) (.slice a n c)
  | fn (f) (caps : List AV) (vs : List Value) : caps.length = vs.length → (∀ j x, caps[j]? = some x → VR G w Ro S x (vs.getD j undef)) → VR G w Ro S (.fn f caps) (.func (.func f) #[] vs.toArray)
  | agg (l : List AV) (vs : List Value) : l.length = vs.length → (∀ v ∈ vs, v.oneCell' = true) → (∀ j x, l[j]? = some x → VR G w Ro S x (vs.getD j undef)) → VR G w Ro S (.agg l) (.agg vs.toArray)
  | tup (l : List AV) (vs : List Value) : l.length = vs.length → (∀ j x, l[j]? = some x → VR G w Ro S x (vs.getD j undef)) → VR G w Ro S (.tup l) (.tuple vs.toArray)

/-- A cell whose slices it owns; the blocks that it owns. -/
inductive OR (w : World) (Ro S : BS) : AV → Value → BS → Prop
  | leaf (a x) : a.isSl = false → IR w Ro S true a x → OR w Ro S a x (fun _ => False)
  | sl0 (s a) : OR w Ro S (.sl s []) (.slice a 0 0) (fun _ => False)
  | sl (s) (l : List (List AV)) (b c) (cs : Array Value) (T) (cv : Nat → Value) (Fc : Nat → BS) : w.heap[b]? = some (.cells cs T (0, 0)) → (∀ e ∈ l, e.length = s) → l.length ≤ c → c * s ≤ cs.size →
      (∀ j, j < l.flatten.length → cs[j]? = some (cv j)) → (∀ j x, l.flatten[j]? = some x → OR w Ro S x (cv j) (Fc j)) →
      (∀ j j' k, j < l.flatten.length → j' < l.flatten.length → Fc j k → Fc j' k → j = j') → (∀ j k, j < l.flatten.length → Fc j k → k ≠ b) →
      OR w Ro S (.sl s l) (.slice (some ⟨b, 0, none⟩) l.length c) (fun k => k = b ∨ ∃ j, j < l.flatten.length ∧ Fc j k)

/-- A cell of a block of the call's own. -/
def CR (G : List Gh) (w : World) (Ro S : BS) (a : AV) (x : Value) (F : BS) : Prop :=
  (a.isSl = false ∧ VR G w Ro S a x ∧ x.oneCell' = true ∧ ∀ k, ¬ F k) ∨ OR w Ro S a x F

def BlkR (G : List Gh) (w : World) (Ro S : BS) (fl : List AV) (b : Nat) (cs : Array Value) (F : BS) : Prop :=
  ∃ (cv : Nat → Value) (Fc : Nat → BS), (∀ j, j < fl.length → cs[j]? = some (cv j)) ∧ (∀ j a, fl[j]? = some a → CR G w Ro S a (cv j) (Fc j)) ∧
    (∀ j j' k, j < fl.length → j' < fl.length → Fc j k → Fc j' k → j = j') ∧ (∀ j k, j < fl.length → Fc j k → k ≠ b) ∧ (∀ k, F k ↔ (k = b ∨ ∃ j, j < fl.length ∧ Fc j k))

def _root_.Go.Value.oneA : Value → Bool
  | .agg cs => cs.all Value.oneCell'
  | x => x.oneCell'
def RootR (G : List Gh) (w : World) (Ro S : BS) (rt : Root) (g : Gh) (F : BS) : Prop :=
  match rt with
  | .box cells => ∃ b cs T, g.ob = some b ∧ w.heap[b]? = some (.cells cs T (0, 0)) ∧ cs.size = cells.length ∧ BlkR G w Ro S cells b cs F
  | .lst s l => g.s = s ∧ (∀ e ∈ l, e.length = s) ∧ ((g.ob = none ∧ l = [] ∧ ∀ k, ¬ F k) ∨
      ∃ b cs T, g.ob = some b ∧ w.heap[b]? = some (.cells cs T (0, 0)) ∧ cs.size = g.sz ∧ l.flatten.length ≤ cs.size ∧ BlkR G w Ro S l.flatten b cs F)
  | .mp tag l => ∃ b es clock, g.ob = some b ∧ w.heap[b]? = some (.map es clock) ∧ es.toList.map (fun e => (e.key, e.val)) = l.map (fun p => (p.1.val, p.2)) ∧ (∀ p ∈ l, p.1.tag = tag ∧ p.2.oneA = true) ∧ ∀ k, F k ↔ k = b
  | .dead => ∀ k, ¬ F k

structure Good (E : Env) (G : List Gh) (h : HP) (w : World) (S : BS) (F : Nat → BS) : Prop where
  len : G.length = h.length
  root : ∀ r rt g, h[r]? = some rt → G[r]? = some g → RootR G w E.Ro S rt g (F r)
  dis : ∀ r r' k, F r k → F r' k → r = r'
  out : ∀ r k, h.length ≤ r → ¬ F r k
  own : ∀ r k, F r k → k < w.heap.size ∧ (E.O k ∨ E.w0.heap.size ≤ k) ∧ ¬ S k
  sb : ∀ k, S k → k < w.heap.size
  s0 : ∀ k, E.S0 k → S k
  sn : ∀ k, S k → E.S0 k ∨ E.O k ∨ E.w0.heap.size ≤ k
  size : E.w0.heap.size ≤ w.heap.size
  os : w.os = E.w0.os
  tape : w.tape = E.w0.tape
  output : w.output = E.w0.output
  fr : ∀ k, k < E.w0.heap.size → ¬ E.O k → w.heap[k]? = E.w0.heap[k]?
  rok : ∀ k, E.Ro k → k < E.w0.heap.size ∧ ¬ E.O k
  gp : ∀ (r : Nat) (g : Gh), E.G0[r]? = some g → G[r]? = some g
  sf : ∀ k, E.S0 k → w.heap[k]? = E.ws.heap[k]?

/-- From one state of what is known to a later one: roots stay where they are; what is to stay as it is has stayed. -/
structure Ext (E : Env) (G : List Gh) (w : World) (S : BS) (G' : List Gh) (w' : World) (S' : BS) : Prop where
  g : ∀ (r : Nat) (g : Gh), G[r]? = some g → G'[r]? = some g
  s : ∀ k, S k → S' k
  ss : ∀ k, S k → w'.heap[k]? = w.heap[k]?
  ro : ∀ k, E.Ro k → w'.heap[k]? = w.heap[k]?

theorem Ext.refl (E : Env) (G w S) : Ext E G w S G w S := ⟨fun _ _ h => h, fun _ h => h, fun _ _ => rfl, fun _ _ => rfl⟩
theorem Ext.trans {E : Env} {G w S G' w' S' G'' w'' S''} (h : Ext E G w S G' w' S') (k : Ext E G' w' S' G'' w'' S'') : Ext E G w S G'' w'' S'' :=
  ⟨fun r g x => k.g r g (h.g r g x), fun b x => k.s b (h.s b x), fun b x => (k.ss b (h.s b x)).trans (h.ss b x), fun b x => (k.ro b x).trans (h.ro b x)⟩

theorem sel_mono {Ro S S' : BS} (h : ∀ k, S k → S' k) {t : Bool} {b : Nat} (x : sel Ro S t b) : sel Ro S' t b := by
  cases t
  · exact x.imp id (h b)
  · exact h b x

theorem IR.ext {w w' : World} {Ro S S' : BS} (hs : ∀ k, S k → S' k) (hw : ∀ k, Ro k ∨ S k → w'.heap[k]? = w.heap[k]?) {t a x} (h : IR w Ro S t a x) : IR w' Ro S' t a x := by
  have hsel : ∀ {t : Bool} {b : Nat}, sel Ro S t b → w'.heap[b]? = w.heap[b]? := fun {t b} q => hw b (by cases t with | false => exact q | true => exact .inr q)
  induction h with
  | top t x h => exact .top t x h
  | v t x h => exact .v t x h
  | sl0 t s a c => exact .sl0 t s a c
  | sl t s l b off c cs T fz cv h1 h2 h3 h0 h4 _ ih => exact .sl t s l b off c cs T fz cv (sel_mono hs h1) (by rw [hsel h1]; exact h2) h3 h0 h4 ih
  | imm t t' z s l a n c h1 _ h3 ih => exact .imm t t' z s l a n c h1 ih h3
  | iptr t t' l b off cs T fz cv h0 h1 h2 h4 _ ih => exact .iptr t t' l b off cs T fz cv h0 (sel_mono hs h1) (by rw [hsel h1]; exact h2) h4 ih
  | fn t f caps vs h1 h2 _ ih => exact .fn t f caps vs h1 h2 ih

theorem VR.ext {E : Env} {G w S G' w' S'} (e : Ext E G w S G' w' S') {a x} (h : VR G w E.Ro S a x) : VR G' w' E.Ro S' a x := by
  induction h with
  | top x => exact .top x
  | ir a x h1 h2 => exact .ir a x h1 (h2.ext e.s (fun k hk => hk.elim (e.ro k) (e.ss k)))
  | nils => exact .nils
  | ptr r i o k b g h1 h2 => exact .ptr r i o k b g (e.g r g h1) h2
  | slc r o n z g a c h1 h2 h3 h4 => exact .slc r o n z g a c (e.g r g h1) h2 h3 h4
  | aptr r o j b g h1 h2 => exact .aptr r o j b g (e.g r g h1) h2
  | bsl r o n b c g h1 h2 h3 => exact .bsl r o n b c g (e.g r g h1) h2 h3
  | mapr r b g h1 h2 => exact .mapr r b g (e.g r g h1) h2
  | fn f caps vs h1 _ ih => exact .fn f caps vs h1 ih
  | agg l vs h1 h2 _ ih => exact .agg l vs h1 h2 ih
  | tup l vs h1 _ ih => exact .tup l vs h1 ih

theorem IR.weak {w : World} {Ro S : BS} {t a x} (h : IR w Ro S t a x) : IR w Ro S false a x := by
  induction h with
  | top t x h => exact .top _ x h
  | v t x h => exact .v _ x h
  | sl0 t s a c => exact .sl0 _ s a c
  | sl t s l b off c cs T fz cv h1 h2 h3 h0 h4 _ ih => exact .sl _ s l b off c cs T fz cv (by cases t with | true => exact .inr h1 | false => exact h1) h2 h3 h0 h4 ih
  | imm t t' z s l a n c h1 h2 h3 ih => exact .imm _ t' z s l a n c (by simp) h2 h3
  | iptr t t' l b off cs T fz cv h0 h1 h2 h4 h5 ih => exact .iptr _ t' l b off cs T fz cv (by simp) h1 h2 h4 h5
  | fn t f caps vs h1 h2 _ ih => exact .fn _ f caps vs h1 h2 ih

theorem VR.pre {G G' : List Gh} {w : World} {Ro S : BS} (hG : ∀ (r : Nat) (g : Gh), G[r]? = some g → G'[r]? = some g) {a x} (h : VR G w Ro S a x) : VR G' w Ro S a x := by
  induction h with
  | top x => exact .top x
  | ir a x h1 h2 => exact .ir a x h1 h2
  | nils => exact .nils
  | ptr r i o k b g h1 h2 => exact .ptr r i o k b g (hG r g h1) h2
  | slc r o n z g a c h1 h2 h3 h4 => exact .slc r o n z g a c (hG r g h1) h2 h3 h4
  | aptr r o j b g h1 h2 => exact .aptr r o j b g (hG r g h1) h2
  | bsl r o n b c g h1 h2 h3 => exact .bsl r o n b c g (hG r g h1) h2 h3
  | mapr r b g h1 h2 => exact .mapr r b g (hG r g h1) h2
  | fn f caps vs h1 _ ih => exact .fn f caps vs h1 ih
  | agg l vs h1 h2 _ ih => exact .agg l vs h1 h2 ih
  | tup l vs h1 _ ih => exact .tup l vs h1 ih
theorem pre_append (G : List Gh) (g : Gh) (i : Nat) (g' : Gh) (h : G[i]? = some g') : (G ++ [g])[i]? = some g' := by
  rw [List.getElem?_append_left (List.getElem?_eq_some_iff.1 h).1]; exact h

/-- A cell's own slices last where its blocks do. -/
theorem OR.ext {w w' : World} {Ro S S' : BS} (hs : ∀ k, S k → S' k) (hw : ∀ k, Ro k ∨ S k → w'.heap[k]? = w.heap[k]?) {a x F} (h : OR w Ro S a x F) : (∀ k, F k → w'.heap[k]? = w.heap[k]?) → OR w' Ro S' a x F := by
  induction h with
  | leaf a x h1 h2 => exact fun _ => .leaf a x h1 (h2.ext hs hw)
  | sl0 s a => exact fun _ => .sl0 s a
  | sl s l b c cs T cv Fc h1 h2 h3 h4 h5 _ h7 h8 ih =>
    intro hF
    refine .sl s l b c cs T cv Fc (by rw [hF b (.inl rfl)]; exact h1) h2 h3 h4 h5 (fun j x hj => ih j x hj (fun k hk => hF k (.inr ⟨j, ?_, hk⟩))) h7 h8
    exact (List.getElem?_eq_some_iff.1 hj).1

theorem CR.ext {E : Env} {G w S G' w' S'} (e : Ext E G w S G' w' S') {a x F} (h : CR G w E.Ro S a x F) (hF : ∀ k, F k → w'.heap[k]? = w.heap[k]?) : CR G' w' E.Ro S' a x F :=
  h.imp (fun ⟨h1, h2, h3⟩ => ⟨h1, h2.ext e, h3⟩) (fun h => h.ext e.s (fun k hk => hk.elim (e.ro k) (e.ss k)) hF)

theorem BlkR.ext {E : Env} {G w S G' w' S'} (e : Ext E G w S G' w' S') {fl b cs F} (h : BlkR G w E.Ro S fl b cs F) (hF : ∀ k, F k → k ≠ b → w'.heap[k]? = w.heap[k]?) : BlkR G' w' E.Ro S' fl b cs F := by
  obtain ⟨cv, Fc, h1, h2, h3, h4, h5⟩ := h
  refine ⟨cv, Fc, h1, fun j a hj => (h2 j a hj).ext e (fun k hk => ?_), h3, h4, h5⟩
  have hl := (List.getElem?_eq_some_iff.1 hj).1
  exact hF k ((h5 k).2 (.inr ⟨j, hl, hk⟩)) (h4 j k hl hk)

theorem RootR.ext {E : Env} {G w S G' w' S'} (e : Ext E G w S G' w' S') {rt g F} (h : RootR G w E.Ro S rt g F) (hF : ∀ k, F k → w'.heap[k]? = w.heap[k]?) : RootR G' w' E.Ro S' rt g F := by
  cases rt with
  | box cells =>
    obtain ⟨b, cs, T, h1, h2, h3, h4⟩ := h
    have hb : F b := by obtain ⟨_, _, _, _, _, _, h5⟩ := h4; exact (h5 b).2 (.inl rfl)
    exact ⟨b, cs, T, h1, by rw [hF b hb]; exact h2, h3, h4.ext e (fun k hk _ => hF k hk)⟩
  | lst s l =>
    obtain ⟨h1, h2, h3⟩ := h
    refine ⟨h1, h2, h3.imp id ?_⟩
    rintro ⟨b, cs, T, h1, h2, h3, h5, h4⟩
    have hb : F b := by obtain ⟨_, _, _, _, _, _, h5⟩ := h4; exact (h5 b).2 (.inl rfl)
    exact ⟨b, cs, T, h1, by rw [hF b hb]; exact h2, h3, h5, h4.ext e (fun k hk _ => hF k hk)⟩
  | mp tag l =>
    obtain ⟨b, es, clock, h1, h2, h3, h4, h5⟩ := h
    exact ⟨b, es, clock, h1, by rw [hF b ((h5 b).2 rfl)]; exact h2, h3, h4, h5⟩
  | dead => exact h

end Go.Proofs.Ytegcfogbdgmajaa.Ab
