/- Blocks: laid new, written in part, read with their owned slices taken out. No condition. -/
import Derived.Test.YtegcfogbdgmajaaAbState
namespace Go.Proofs.Ytegcfogbdgmajaa.Ab
set_option linter.unusedVariables false
set_option linter.unusedSimpArgs false

/-- A cell that owns nothing. -/
def C0 (G : List Gh) (w : World) (Ro S : BS) (x : AV) (v : Value) : Prop := (x.isSl = false ∧ VR G w Ro S x v ∧ v.oneCell' = true) ∨ (∃ s a, x = .sl s [] ∧ v = .slice a 0 0)
theorem C0.cr {G w Ro S x v} (h : C0 G w Ro S x v) : CR G w Ro S x v (fun _ => False) := by
  rcases h with ⟨h1, h2, h3⟩ | ⟨s, a, rfl, rfl⟩
  · exact .inl ⟨h1, h2, h3, fun _ h => h⟩
  · exact .inr (.sl0 s a)
theorem C0.ext {E : Env} {G w S G' w' S'} (e : Ext E G w S G' w' S') {x v} (h : C0 G w E.Ro S x v) : C0 G' w' E.Ro S' x v := h.imp (fun ⟨a, b, c⟩ => ⟨a, b.ext e, c⟩) id

theorem blkR_new {G w Ro S} (fl : List AV) (b : Nat) (cs : Array Value) (hl : fl.length ≤ cs.size) (h : ∀ j x, fl[j]? = some x → C0 G w Ro S x (cs.getD j undef)) : BlkR G w Ro S fl b cs (fun k => k = b) := by
  refine ⟨fun j => cs.getD j undef, fun _ _ => False, fun j hj => ?_, fun j a hj => (h j a hj).cr, fun _ _ _ _ _ h => h.elim, fun _ _ _ h => h.elim, fun k => ⟨.inl, fun h => h.elim id fun ⟨_, _, h⟩ => h.elim⟩⟩
  simp [show j < cs.size by omega]

/-- A part of a block is written. -/
theorem blkR_lay {G w Ro S} {fl : List AV} {b : Nat} {cs cs' : Array Value} {F : BS} (h : BlkR G w Ro S fl b cs F) {o : Nat} {xs : List AV} {vs : List Value} (hx : xs.length = vs.length) (ho : o + xs.length ≤ fl.length)
    (hcs : ∀ j, cs'[j]? = if o ≤ j ∧ j < o + vs.length then vs[j - o]? else cs[j]?) (h0 : ∀ j x, xs[j]? = some x → C0 G w Ro S x (vs.getD j undef)) :
    ∃ F', BlkR G w Ro S (lay fl o xs) b cs' F' ∧ ∀ k, F' k → F k := by
  obtain ⟨cv, Fc, h1, h2, h3, h4, h5⟩ := h
  let cv' : Nat → Value := fun j => if o ≤ j ∧ j < o + xs.length then vs.getD (j - o) undef else cv j
  let Fc' : Nat → BS := fun j => if o ≤ j ∧ j < o + xs.length then fun _ => False else Fc j
  refine ⟨fun k => k = b ∨ ∃ j, j < (lay fl o xs).length ∧ Fc' j k, ⟨cv', Fc', ?_, ?_, ?_, ?_, fun _ => Iff.rfl⟩, ?_⟩
  · intro j hj
    rw [lay_length ho] at hj
    rw [hcs]
    by_cases hc : o ≤ j ∧ j < o + xs.length
    · simp only [cv', if_pos hc]
      rw [if_pos (by omega)]
      simp [show j - o < vs.length by omega]
    · simp only [cv', if_neg hc]
      rw [if_neg (by omega)]
      exact h1 j hj
  · intro j a hj
    rw [lay_get ho] at hj
    by_cases hc : o ≤ j ∧ j < o + xs.length
    · simp only [cv', Fc', if_pos hc] at hj ⊢
      exact (h0 _ a hj).cr
    · simp only [cv', Fc', if_neg hc] at hj ⊢
      exact h2 j a hj
  · intro j j' k hj hj' hk hk'
    rw [lay_length ho] at hj hj'
    simp only [Fc'] at hk hk'
    split at hk
    · exact hk.elim
    · split at hk'
      · exact hk'.elim
      · exact h3 j j' k hj hj' hk hk'
  · intro j k hj hk
    rw [lay_length ho] at hj
    simp only [Fc'] at hk
    split at hk
    · exact hk.elim
    · exact h4 j k hj hk
  · rintro k (rfl | ⟨j, hj, hk⟩)
    · exact (h5 _).2 (.inl rfl)
    · rw [lay_length ho] at hj
      simp only [Fc'] at hk
      split at hk
      · exact hk.elim
      · exact (h5 _).2 (.inr ⟨j, hj, hk⟩)

/-- One cell's slice is taken out: what it owned is the new root's. -/
theorem blkR_out {G w Ro S} {fl : List AV} {b : Nat} {cs : Array Value} {F : BS} (h : BlkR G w Ro S fl b cs F) {j : Nat} {s : Nat} {l : List (List AV)} (hj : fl[j]? = some (.sl s l)) (n : Nat) :
    ∃ (g : Gh) (Fn F' : BS), RootR (G ++ [g]) w Ro S (.lst s l) g Fn ∧ (∀ k, Fn k → F k) ∧ (∀ k, F' k → F k) ∧ (∀ k, F' k → ¬ Fn k) ∧
      (G.length = n → BlkR (G ++ [g]) w Ro S (fl.set j (.slc n 0 l.length false)) b cs F' ∧ VR (G ++ [g]) w Ro S (.slc n 0 l.length false) (cs.getD j undef)) := by
  obtain ⟨cv, Fc, h1, h2, h3, h4, h5⟩ := h
  have hjl := (List.getElem?_eq_some_iff.1 hj).1
  have hc := h2 j _ hj
  rcases hc with ⟨hc, _, _, _⟩ | hc
  · simp [AV.isSl] at hc
  have hval : cs.getD j undef = cv j := by
    have := h1 j hjl
    simp [Array.getD_eq_getD_getElem?, this]
  have hone : (cv j).oneCell' = true := by
    generalize cv j = v at hc
    generalize Fc j = Fj at hc
    generalize hx : (AV.sl s l) = x at hc
    cases hc with
    | leaf a x p1 p2 => rw [← hx] at p1; simp [AV.isSl] at p1
    | sl0 => rfl
    | sl => rfl
  -- the block without the cell
  have blk : ∀ (g : Gh), G.length = n → VR (G ++ [g]) w Ro S (.slc n 0 l.length false) (cs.getD j undef) → BlkR (G ++ [g]) w Ro S (fl.set j (.slc n 0 l.length false)) b cs (fun k => k = b ∨ ∃ i, i < fl.length ∧ i ≠ j ∧ Fc i k) := by
    intro g hn hv
    refine ⟨cv, fun i => if i = j then fun _ => False else Fc i, ?_, ?_, ?_, ?_, ?_⟩
    · intro i hi; simp at hi; exact h1 i hi
    · intro i a hi
      by_cases hij : i = j
      · subst hij
        rw [List.getElem?_set_self hjl] at hi
        cases hi
        simp only [if_true]
        rw [hval] at hv
        exact .inl ⟨rfl, hv, hone, fun _ h => h⟩
      · rw [List.getElem?_set_ne (Ne.symm hij)] at hi
        simp only [hij, if_false]
        have := h2 i a hi
        refine this.imp (fun ⟨p, q, q', r⟩ => ⟨p, ?_, q', r⟩) id
        exact q.pre (pre_append G g)
    · intro i i' k hi hi' hk hk'
      simp at hi hi'
      split at hk
      · exact hk.elim
      · split at hk'
        · exact hk'.elim
        · exact h3 i i' k hi hi' hk hk'
    · intro i k hi hk
      simp at hi
      split at hk
      · exact hk.elim
      · exact h4 i k hi hk
    · intro k
      simp only [List.length_set]
      constructor
      · rintro (h | ⟨i, h1, h2, h3⟩)
        · exact .inl h
        · exact .inr ⟨i, h1, by simp [h2, h3]⟩
      · rintro (h | ⟨i, h1, h2⟩)
        · exact .inl h
        · by_cases hij : i = j
          · simp [hij] at h2
          · simp [hij] at h2; exact .inr ⟨i, h1, hij, h2⟩
  have hsub : ∀ k, (k = b ∨ ∃ i, i < fl.length ∧ i ≠ j ∧ Fc i k) → F k := fun k h => (h5 k).2 (h.imp id fun ⟨i, p, _, q⟩ => ⟨i, p, q⟩)
  generalize hx : (AV.sl s l) = x at hc
  generalize hv : cv j = v at hc
  generalize hF : Fc j = Fj at hc
  cases hc with
  | leaf a x p1 p2 => rw [← hx] at p1; simp [AV.isSl] at p1
  | sl0 s' a =>
    cases hx
    refine ⟨⟨none, s, 0⟩, fun _ => False, _, ⟨rfl, by simp, .inl ⟨rfl, rfl, fun _ h => h⟩⟩, fun _ h => h.elim, hsub, fun _ _ h => h, fun hn => ?_⟩
    have hvr : VR (G ++ [⟨none, s, 0⟩]) w Ro S (.slc n 0 ([] : List (List AV)).length false) (cs.getD j undef) := by
      rw [hval, hv]
      exact .slc n 0 0 false ⟨none, s, 0⟩ a 0 (by rw [List.getElem?_append_right (by omega)]; simp [hn]) (Nat.le_refl _) (by simp) (.inl rfl)
    exact ⟨blk _ hn hvr, hvr⟩
  | sl s' l' b' c cs' T cv' Fc' q1 q2 q3 q4 q5 q6 q7 q8 =>
    cases hx
    refine ⟨⟨some b', s, cs'.size⟩, fun k => k = b' ∨ ∃ i, i < l.flatten.length ∧ Fc' i k, _, ⟨rfl, q2, .inr ⟨b', cs', T, rfl, q1, rfl, ?_, ?_⟩⟩, ?_, hsub, ?_, fun hn => ?_⟩
    · have : l.flatten.length = l.length * s := by
        clear q3 q4 q5 q6 q7 q8 blk hsub hv hF hj hjl hval
        induction l with
        | nil => simp
        | cons e l ih =>
          have := ih (fun e he => q2 e (by simp [he]))
          have h0 := q2 e (by simp)
          simp only [List.flatten_cons, List.length_append, List.length_cons, this, h0, Nat.add_mul]; omega
      rw [this]
      exact Nat.le_trans (Nat.mul_le_mul_right s q3) q4
    · exact ⟨cv', Fc', q5, fun i a hi => .inr (q6 i a hi), q7, q8, fun _ => Iff.rfl⟩
    · intro k hk
      exact (h5 k).2 (.inr ⟨j, hjl, by rw [hF]; exact hk⟩)
    · rintro k (rfl | ⟨i, p, q, r⟩) hk
      · exact h4 j _ hjl (by rw [hF]; exact hk) rfl
      · exact q (h3 i j k p hjl r (by rw [hF]; exact hk))
    · have hvr : VR (G ++ [⟨some b', s, cs'.size⟩]) w Ro S (.slc n 0 l.length false) (cs.getD j undef) := by
        rw [hval, hv]
        refine .slc n 0 l.length false ⟨some b', s, cs'.size⟩ _ c (by rw [List.getElem?_append_right (by omega)]; simp [hn]) q3 (by simp) (.inr ⟨b', rfl, by simp, by simpa using q4⟩)
      exact ⟨blk _ hn hvr, hvr⟩

end Go.Proofs.Ytegcfogbdgmajaa.Ab
