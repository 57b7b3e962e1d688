/- A part of a root is read with its owned slices taken out, or written. No condition. -/
import Derived.Test.YtegcfogbdgmajaaAbBlk
namespace Go.Proofs.Ytegcfogbdgmajaa.Ab
set_option linter.unusedVariables false
set_option linter.unusedSimpArgs false

def Flat (rt : Root) (fl : List AV) : Prop := match rt with
  | .box cells => fl = cells
  | .lst s l => fl = l.flatten ∧ ∀ e ∈ l, e.length = s
  | .mp _ _ => False
  | .dead => False
def SameK (rt rt' : Root) : Prop := match rt, rt' with
  | .box _, .box _ => True
  | .lst s _, .lst s' _ => s = s'
  | _, _ => False

theorem rootR_blk {G w Ro S rt g F} (h : RootR G w Ro S rt g F) {fl} (hf : Flat rt fl) (hp : 0 < fl.length) :
    ∃ b cs T, g.ob = some b ∧ w.heap[b]? = some (.cells cs T (0, 0)) ∧ fl.length ≤ cs.size ∧ BlkR G w Ro S fl b cs F := by
  cases rt with
  | box cells =>
    obtain ⟨b, cs, T, h1, h2, h3, h4⟩ := h
    simp only [Flat] at hf
    subst hf
    exact ⟨b, cs, T, h1, h2, by omega, h4⟩
  | lst s l =>
    obtain ⟨h1, h2, h3⟩ := h
    obtain ⟨rfl, _⟩ := hf
    rcases h3 with ⟨_, rfl, _⟩ | ⟨b, cs, T, h1, h2, h3, h4, h5⟩
    · simp at hp
    · exact ⟨b, cs, T, h1, h2, h4, h5⟩
  | mp _ _ => exact hf.elim
  | dead => exact hf.elim
theorem rootR_of_blk {G w Ro S rt g F} (h : RootR G w Ro S rt g F) {fl} (hf : Flat rt fl) (hp : 0 < fl.length) {b : Nat} {cs : Array Value} {T} (hb : g.ob = some b) (hh : w.heap[b]? = some (.cells cs T (0, 0)))
    {G' w'} {rt' : Root} {fl' : List AV} {cs' : Array Value} {F' : BS} (hk : SameK rt rt') (hf' : Flat rt' fl') (hl : fl'.length = fl.length) (hh' : w'.heap[b]? = some (.cells cs' T (0, 0))) (hs : cs'.size = cs.size)
    (hb' : BlkR G' w' Ro S fl' b cs' F') : RootR G' w' Ro S rt' g F' := by
  cases rt with
  | box cells =>
    cases rt' with
    | box cells' =>
      obtain ⟨b0, cs0, T0, h1, h2, h3, h4⟩ := h
      rw [h1] at hb; cases hb
      rw [h2] at hh; cases hh
      simp only [Flat] at hf hf'
      subst hf; subst hf'
      exact ⟨b, cs', T, h1, hh', by omega, hb'⟩
    | lst _ _ => exact hk.elim
    | mp _ _ => exact hk.elim
    | dead => exact hk.elim
  | lst s l =>
    cases rt' with
    | box _ => exact hk.elim
    | lst s' l' =>
      obtain ⟨h1, h2, h3⟩ := h
      have : s = s' := hk
      subst this
      obtain ⟨rfl, _⟩ := hf
      obtain ⟨rfl, h6⟩ := hf'
      rcases h3 with ⟨_, rfl, _⟩ | ⟨b0, cs0, T0, p1, p2, p3, p4, p5⟩
      · simp at hp
      · rw [p1] at hb; cases hb
        rw [p2] at hh; cases hh
        exact ⟨h1, h6, .inr ⟨b, cs', T, p1, hh', by omega, by omega, hb'⟩⟩
    | mp _ _ => exact hk.elim
    | dead => exact hk.elim
  | mp _ _ => exact hf.elim
  | dead => exact hf.elim

/-- A list of lists of the same lengths over other elements. -/
def reshape : List (List AV) → List AV → List (List AV)
  | [], _ => []
  | e :: l, fl => fl.take e.length :: reshape l (fl.drop e.length)
theorem reshape_spec (s : Nat) : ∀ (l : List (List AV)) (fl : List AV), (∀ e ∈ l, e.length = s) → fl.length = l.flatten.length → (reshape l fl).flatten = fl ∧ ∀ e ∈ reshape l fl, e.length = s
  | [], fl, _, h => by simp at h; simp [reshape, h]
  | e :: l, fl, hl, h => by
    simp only [List.flatten_cons, List.length_append] at h
    obtain ⟨h1, h2⟩ := reshape_spec s l (fl.drop e.length) (fun x hx => hl x (by simp [hx])) (by rw [List.length_drop]; omega)
    refine ⟨by simp [reshape, h1], ?_⟩
    intro x hx
    simp only [reshape, List.mem_cons] at hx
    rcases hx with rfl | hx
    · have := hl e (by simp)
      simp; omega
    · exact h2 x hx
theorem flat_other {rt : Root} {fl fl' : List AV} (h : Flat rt fl) (hl : fl'.length = fl.length) : ∃ rt', SameK rt rt' ∧ Flat rt' fl' := by
  cases rt with
  | box cells => exact ⟨.box fl', trivial, rfl⟩
  | lst s l =>
    obtain ⟨rfl, h2⟩ := h
    obtain ⟨h3, h4⟩ := reshape_spec s l fl' h2 hl
    exact ⟨.lst s (reshape l fl'), rfl, h3.symm, h4⟩
  | mp _ _ => exact h.elim
  | dead => exact h.elim
theorem SameK.trans {a b c : Root} (h : SameK a b) (k : SameK b c) : SameK a c := by
  cases a <;> cases b <;> cases c <;> simp_all [SameK]

theorem SameK.of2 {a b c : Root} (h : SameK a b) (k : SameK a c) : SameK b c := by
  cases a <;> cases b <;> cases c <;> simp_all [SameK]

theorem flat_get (s : Nat) : ∀ (l : List (List AV)), (∀ e ∈ l, e.length = s) → ∀ (j : Nat) (el : List AV), l[j]? = some el → ∀ i, i < s → l.flatten[j * s + i]? = el[i]?
  | [], _, j, el, h, _, _ => by simp at h
  | e :: l, hl, 0, el, h, i, hi => by
    simp at h; subst h
    have := hl e (by simp)
    simp [List.getElem?_append, show i < e.length by omega]
  | e :: l, hl, j + 1, el, h, i, hi => by
    have h0 := hl e (by simp)
    have := flat_get s l (fun x hx => hl x (by simp [hx])) j el (by simpa using h) i hi
    rw [List.flatten_cons, List.getElem?_append, if_neg (by rw [h0, Nat.add_mul]; omega), h0, show (j + 1) * s + i - s = j * s + i by rw [Nat.add_mul]; omega, this]
theorem flat_length (s : Nat) : ∀ (l : List (List AV)), (∀ e ∈ l, e.length = s) → l.flatten.length = l.length * s
  | [], _ => by simp
  | e :: l, hl => by
    rw [List.flatten_cons, List.length_append, flat_length s l (fun x hx => hl x (by simp [hx])), hl e (by simp), List.length_cons, Nat.add_mul]; omega
/-- One element of a list of lists, the part behind and ahead of a place in it. -/
theorem flat_set (s : Nat) : ∀ (l : List (List AV)), (∀ e ∈ l, e.length = s) → ∀ (j : Nat) (el : List AV), l[j]? = some el → ∀ (el' : List AV), el'.length = s →
    l.flatten = (l.take j).flatten ++ el ++ (l.drop (j + 1)).flatten ∧ (l.set j el').flatten = (l.take j).flatten ++ el' ++ (l.drop (j + 1)).flatten ∧ (l.take j).flatten.length = j * s
  | [], _, j, el, h, _, _ => by simp at h
  | e :: l, hl, 0, el, h, el', _ => by
    simp at h; subst h
    simp
  | e :: l, hl, j + 1, el, h, el', h' => by
    obtain ⟨h1, h2, h3⟩ := flat_set s l (fun x hx => hl x (by simp [hx])) j el (by simpa using h) el' h'
    have h0 := hl e (by simp)
    refine ⟨by simp [h1], by simp [h2], ?_⟩
    rw [List.take_succ_cons, List.flatten_cons, List.length_append, h3, h0, Nat.add_mul]; omega

inductive Out : Nat → List AV → List AV → List Root → Prop
  | nil (n) : Out n [] [] []
  | sl (n s l r x rs) : Out (n + 1) r x rs → Out n (.sl s l :: r) (.slc n 0 l.length false :: x) (.lst s l :: rs)
  | keep (n c r x rs) : c.isSl = false → Out n r x rs → Out n (c :: r) (c :: x) rs
theorem outK_spec : ∀ (cs : List AV) (h : HP) (k : List AV → HP → Prop), outK cs h k → ∃ x rs, k x (h ++ rs) ∧ Out h.length cs x rs
  | [], h, k, hk => ⟨[], [], by simpa [outK] using hk, .nil _⟩
  | c :: r, h, k, hk => by
    cases hc : c.isSl with
    | true =>
      cases c <;> simp [AV.isSl] at hc
      rename_i s l
      simp only [outK] at hk
      obtain ⟨x, rs, h1, h2⟩ := outK_spec r _ _ (newK_spec hk)
      exact ⟨_, .lst s l :: rs, by simpa using h1, .sl _ s l r x rs (by simpa using h2)⟩
    | false =>
      have : outK r h fun x h' => k (c :: x) h' := by cases c <;> simp [AV.isSl] at hc <;> simpa [outK] using hk
      obtain ⟨x, rs, h1, h2⟩ := outK_spec r h _ this
      exact ⟨_, rs, h1, .keep _ c r x rs hc h2⟩
theorem Out.length {n cs x rs} (h : Out n cs x rs) : x.length = cs.length := by
  induction h with
  | nil => rfl
  | sl _ _ _ _ _ _ _ ih => simp [ih]
  | keep _ _ _ _ _ _ _ ih => simp [ih]

/-- A part of root r is read: its owned slices become roots. -/
theorem Good.outSeg {E : Env} {S : BS} {w : World} : ∀ {cs x : List AV} {rs : List Root} {n : Nat}, Out n cs x rs → ∀ {G h F} (_ : Good E G h w S F) {r : Nat} {rt : Root} {g : Gh} {pre post : List AV}, n = h.length → h[r]? = some rt → G[r]? = some g →
    Flat rt (pre ++ cs ++ post) → 0 < (pre ++ cs ++ post).length → ∀ {rt' : Root}, SameK rt rt' → Flat rt' (pre ++ x ++ post) →
    ∃ G' F' b ca T, Good E G' ((h ++ rs).set r rt') w S F' ∧ (∀ (i : Nat) (g : Gh), G[i]? = some g → G'[i]? = some g) ∧ g.ob = some b ∧ w.heap[b]? = some (.cells ca T (0, 0)) ∧ (pre ++ cs ++ post).length ≤ ca.size ∧
      (∀ j y, x[j]? = some y → VR G' w E.Ro S y (ca.getD (pre.length + j) undef)) := by
  intro cs x rs n hO
  induction hO with
  | nil n =>
    intro G h F hg r rt g pre post hn hr hgr hf hp rt' hk hf'
    have hrl := (List.getElem?_eq_some_iff.1 hr).1
    obtain ⟨b, ca, T, p1, p2, p3, p4⟩ := rootR_blk (hg.root r rt g hr hgr) hf hp
    have hrt := rootR_of_blk (hg.root r rt g hr hgr) hf hp p1 p2 (G' := G) (w' := w) hk hf' rfl p2 rfl p4
    have hs := hg.setRoot hrl hgr (Chg.refl w _) hrt (fun _ h => h)
    exact ⟨G, _, b, ca, T, by rw [List.append_nil]; exact hs, fun _ _ h => h, p1, p2, p3, by simp⟩
  | keep n c r0 x rs hc hO ih =>
    intro G h F hg r rt g pre post hn hr hgr hf hp rt' hk hf'
    obtain ⟨b0, ca0, T0, q1, q2, q3, cv, Fc, h1, h2, h3, h4, h5⟩ := rootR_blk (hg.root r rt g hr hgr) hf hp
    have hf2 : Flat rt ((pre ++ [c]) ++ r0 ++ post) := by simpa using hf
    obtain ⟨G', F', b, ca, T, a1, a2, a3, a4, a5, a6⟩ := ih hg hn hr hgr hf2 (by simp; omega) hk (by simpa using hf')
    rw [q1] at a3; cases a3
    rw [q2] at a4; cases a4
    refine ⟨G', F', _, _, _, a1, a2, q1, q2, q3, fun j y hj => ?_⟩
    cases j with
    | zero =>
      simp at hj
      subst hj
      have hpl : pre.length < (pre ++ c :: r0 ++ post).length := by simp
      have hcr := h2 pre.length c (by simp)
      have hval : ca0.getD pre.length undef = cv pre.length := by
        have := h1 pre.length hpl
        simp [Array.getD_eq_getD_getElem?, this]
      rw [Nat.add_zero, hval]
      rcases hcr with ⟨_, hv, _, _⟩ | ho
      · exact hv.pre a2
      · have : VR G w E.Ro S c (cv pre.length) := by
          generalize cv pre.length = v at ho
          generalize Fc pre.length = Fp at ho
          cases ho with
          | leaf a x p1 p2 =>
            exact .ir _ _ p1 p2.weak
          | sl0 s a => simp [AV.isSl] at hc
          | sl => simp [AV.isSl] at hc
        exact this.pre a2
    | succ j =>
      have := a6 j y (by simpa using hj)
      rwa [show pre.length + (j + 1) = (pre ++ [c]).length + j by simp; omega]
  | sl n s l r0 x rs hO ih =>
    intro G h F hg r rt g pre post hn hr hgr hf hp rt' hk hf'
    have hrl := (List.getElem?_eq_some_iff.1 hr).1
    have hGl : G.length = n := by rw [hn]; exact hg.len
    obtain ⟨b0, ca0, T0, q1, q2, q3, q4⟩ := rootR_blk (hg.root r rt g hr hgr) hf hp
    have hj : (pre ++ AV.sl s l :: r0 ++ post)[pre.length]? = some (.sl s l) := by simp
    obtain ⟨gn, Fn, F1, u1, u2, u3, u4, u5⟩ := blkR_out q4 hj n
    obtain ⟨u5, u6⟩ := u5 hGl
    have hset : (pre ++ AV.sl s l :: r0 ++ post).set pre.length (.slc n 0 l.length false) = (pre ++ [.slc n 0 l.length false]) ++ r0 ++ post := by
      simp [List.set_append]
    rw [hset] at u5
    obtain ⟨rt1, k1, k2⟩ := flat_other (fl' := (pre ++ [.slc n 0 l.length false]) ++ r0 ++ post) hf (by simp)
    have hrt1 := rootR_of_blk (hg.root r rt g hr hgr) hf hp q1 q2 (w' := w) (G' := G ++ [gn]) k1 k2 (by simp) q2 rfl u5
    obtain ⟨F2, hg2⟩ := hg.split hrl hgr gn hrt1 u1 u3 u2 u4
    have hr2 : (h.set r rt1 ++ [Root.lst s l])[r]? = some rt1 := by rw [List.getElem?_append_left (by simpa using hrl), List.getElem?_set_self hrl]
    have hk2 : SameK rt1 rt' := k1.of2 hk
    obtain ⟨G', F', b, ca, T, a1, a2, a3, a4, a5, a6⟩ := ih hg2 (by simp; omega) hr2 (pre_append G gn r g hgr) k2 (by simp; omega) hk2 (by simpa using hf')
    rw [q1] at a3; cases a3
    rw [q2] at a4; cases a4
    refine ⟨G', F', _, _, _, ?_, fun i g' h => a2 i g' (pre_append G gn i g' h), q1, q2, q3, fun j y hj => ?_⟩
    · have : ((h.set r rt1 ++ [Root.lst s l]) ++ rs).set r rt' = (h ++ Root.lst s l :: rs).set r rt' := by
        rw [List.append_assoc, List.set_append_left _ _ (by simpa using hrl), List.set_set, List.set_append_left _ _ hrl]
        simp
      rw [← this]
      exact a1
    · cases j with
      | zero =>
        simp at hj
        subst hj
        exact u6.pre a2
      | succ j =>
        have := a6 j y (by simpa using hj)
        rwa [show pre.length + (j + 1) = (pre ++ [AV.slc n 0 l.length false]).length + j by simp; omega]

end Go.Proofs.Ytegcfogbdgmajaa.Ab
