/- Calls by contract over trees: slices of the caller's own are lent to the callee as they stand, and owned slices that it gives are taken over. No condition. -/
import Derived.Test.YtkbdjhhnpajidaaAbFn
namespace Go.Proofs.Ytkbdjhhnpajidaa.Ab
set_option linter.unusedVariables false
set_option linter.unusedSimpArgs false

/-- A cell that can be read by whoever is lent its block. -/
def AV.lent : AV → Bool
  | .top => true | .v _ => true | .imm _ _ _ _ => true | .iptr _ _ => true | .fn _ [] => true | .sl _ _ => true
  | _ => false
def lend1 (x : AV) (h : HP) (k : AV → Prop) : Prop := match x with
  | .slc r o n z => rootK h r fun rt => match rt with
    | .lst s l => (∀ e ∈ l, ∀ x ∈ e, x.lent = true) ∧ ∃ L, L = (l.drop o).take n ∧ L.length = n ∧ k (.imm false z s L)
    | _ => False
  | x => match x.pure1 with | true => k x | false => False
def lendC : List AV → HP → (List AV → Prop) → Prop
  | [], _, k => k []
  | x :: l, h, k => lend1 x h fun y => lendC l h fun l => k (y :: l)
def lendA (x : AV) (h : HP) (k : AV → Prop) : Prop := match x with
  | .agg l => lendC l h fun l => k (.agg l)
  | x => lend1 x h k
def lendL : List AV → HP → (List AV → Prop) → Prop
  | [], _, k => k []
  | x :: l, h, k => lendA x h fun y => lendL l h fun l => k (y :: l)

theorem OR.ir {w : World} {Ro S : BS} {a x F} (h : OR w Ro S a x F) : IR w (fun k => k < w.heap.size) S false a x := by
  induction h with
  | leaf a x h1 h2 => exact (h2.true_ro rfl).weak
  | sl0 s a => exact .sl0 _ s a 0
  | sl s l b c cs T cv Fc h1 h2 h3 h4 h5 _ h7 h8 ih =>
    exact .sl _ s l b 0 c cs T (0, 0) cv (.inl (Array.getElem?_eq_some_iff.1 h1).1) h1 h2 (fun j hj => by rw [Nat.zero_add]; exact h5 j hj) ih
theorem VR.lentIR {G : List Gh} {w : World} {Ro S : BS} (hr : ∀ k, Ro k → k < w.heap.size) {a x} (h : VR G w Ro S a x) (hs : a.lent = true) (ho : x.oneCell' = true) : IR w (fun k => k < w.heap.size) S false a x := by
  cases h with
  | top x => exact .top _ _ ho
  | nils => simp [AV.lent] at hs
  | ptr => simp [AV.lent] at hs
  | slc => simp [AV.lent] at hs
  | agg => simp [AV.lent] at hs
  | tup => simp [AV.lent] at hs
  | fn f caps vs h1 h2 =>
    cases caps with
    | nil => exact .fn _ f [] vs h1 (by simp) (by simp)
    | cons _ _ => simp [AV.lent] at hs
  | ir _ _ h1 h2 => exact h2.ro hr
theorem CR.lentIR {G : List Gh} {w : World} {Ro S : BS} (hr : ∀ k, Ro k → k < w.heap.size) {a x F} (h : CR G w Ro S a x F) (hs : a.lent = true) : IR w (fun k => k < w.heap.size) S false a x := by
  rcases h with ⟨_, h2, h3, _⟩ | h
  · exact h2.lentIR hr hs h3
  · exact h.ir

section
variable {E : Env} {G : List Gh} {h : HP} {w : World} {S : BS} {F : Nat → BS}

theorem lend1_spec (hg : Good E G h w S F) {x : AV} {v : Value} (hv : VR G w E.Ro S x v) {k : AV → Prop} (hp : lend1 x h k) : ∃ y, k y ∧ y.pure1 = true ∧ VR [] w (fun k => k < w.heap.size) S y v := by
  unfold lend1 at hp
  split at hp
  · rename_i r o n z
    obtain ⟨rt, hr, hp2⟩ := rootK_spec hp
    cases rt with
    | lst s l =>
      obtain ⟨hs, L, hL, hn, hp3⟩ := hp2
      obtain ⟨g, ad, c, p1, p2, p3, p4, p5⟩ := hv.slc_inv
      subst p2
      refine ⟨_, hp3, rfl, .ir _ _ rfl (.imm _ _ _ _ _ ad n c (by simp) ?_ p4)⟩
      by_cases h0 : L = []
      · subst h0
        have : n = 0 := by simpa using hn.symm
        subst this
        exact .sl0 _ _ _ _
      · have hn0 : 0 < n := by
          rw [← hn]
          exact List.length_pos_iff.2 h0
        obtain ⟨q1, q2, q3⟩ := hg.root r _ g hr p1
        rcases p5 with p5 | ⟨b, p5, p6, p7⟩
        · omega
        subst p6
        have hlen : ∀ e ∈ L, e.length = s := fun e he => q2 e (by rw [hL] at he; exact List.mem_of_mem_drop (List.mem_of_mem_take he))
        rcases q3 with ⟨q3, q4, _⟩ | ⟨b', cs, T, u1, u2, u3, u4, u5⟩
        · rw [q3] at p5; cases p5
        rw [p5] at u1
        cases u1
        obtain ⟨cv, Fc, w1, w2, w3, w4, w5⟩ := u5
        have hln : o + n ≤ l.length := by
          have := congrArg List.length hL
          rw [hn] at this
          simp only [List.length_take, List.length_drop] at this
          omega
        have hfl : ∀ j, j < L.flatten.length → L.flatten[j]? = l.flatten[o * s + j]? := by
          intro j hj
          rw [flat_length _ _ hlen, hn] at hj
          by_cases hs0 : s = 0
          · subst hs0; omega
          have hsp : 0 < s := by omega
          have hdiv : j / s < n := by rw [Nat.div_lt_iff_lt_mul hsp]; exact hj
          have hmod := Nat.mod_lt j hsp
          have e1 : L[j / s]? = l[o + j / s]? := by rw [hL, List.getElem?_take, if_pos hdiv, List.getElem?_drop]
          have e2 : l[o + j / s]? = some l[o + j / s] := List.getElem?_eq_getElem (by omega)
          have f1 := flat_get _ _ hlen _ _ (e1.trans e2) _ hmod
          have f2 := flat_get _ _ q2 _ _ e2 _ hmod
          rw [Nat.div_add_mod'] at f1
          rw [f1, ← f2]
          congr 1
          rw [Nat.add_mul, Nat.add_assoc, Nat.div_add_mod']
        have hfll : ∀ j, j < L.flatten.length → o * s + j < l.flatten.length := by
          intro j hj
          rw [flat_length _ _ hlen, hn] at hj
          rw [flat_length _ _ q2]
          calc o * s + j < o * s + n * s := by omega
            _ = (o + n) * s := by rw [Nat.add_mul]
            _ ≤ l.length * s := Nat.mul_le_mul_right _ hln
        rw [← hn]
        refine .sl _ s L b (o * g.s) c cs T (0, 0) (fun j => cv (o * s + j)) (.inl (Array.getElem?_eq_some_iff.1 u2).1) u2 hlen (fun j hj => by rw [q1]; exact w1 _ (hfll j hj)) (fun j y hj => ?_)
        have hjl := (List.getElem?_eq_some_iff.1 hj).1
        rw [hfl j hjl] at hj
        have hm := List.mem_of_getElem? hj
        obtain ⟨e, he, hy⟩ := List.mem_flatten.1 hm
        exact (w2 _ _ hj).lentIR (fun k hk => hg.ro_lt hk) (hs e he y hy)
    | _ => exact hp2.elim
  · split at hp
    · rename_i hs
      exact ⟨x, hp, hs, hv.pure1 (fun k hk => hg.ro_lt hk) hs⟩
    · exact hp.elim

theorem lendC_spec (hg : Good E G h w S F) : ∀ (l : List AV) (vs : List Value) (hv : ∀ (j : Nat) x, l[j]? = some x → VR G w E.Ro S x (vs.getD j undef)) {k : List AV → Prop} (hp : lendC l h k),
    ∃ y, k y ∧ y.all AV.pure1 = true ∧ y.length = l.length ∧ ∀ (j : Nat) x, y[j]? = some x → VR [] w (fun k => k < w.heap.size) S x (vs.getD j undef)
  | [], vs, hv, k, hp => ⟨[], hp, rfl, rfl, by simp⟩
  | x :: l, vs, hv, k, hp => by
    obtain ⟨y, b1, b2, b3⟩ := lend1_spec hg (hv 0 x rfl) hp
    obtain ⟨ys, c1, c2, c3, c4⟩ := lendC_spec hg l vs.tail (fun j x hj => by
      have := hv (j + 1) x (by simpa using hj)
      cases vs <;> simpa using this) b1
    refine ⟨_, c1, by simp [b2, c2], by simp [c3], fun j x hj => ?_⟩
    cases j with
    | zero => simp at hj; subst hj; exact b3
    | succ j =>
      have := c4 j x (by simpa using hj)
      cases vs <;> simpa using this
theorem lendA_spec (hg : Good E G h w S F) {x : AV} {v : Value} (hv : VR G w E.Ro S x v) {k : AV → Prop} (hp : lendA x h k) : ∃ y, k y ∧ y.pureA = true ∧ VR [] w (fun k => k < w.heap.size) S y v := by
  unfold lendA at hp
  split at hp
  · rename_i l
    obtain ⟨vs, rfl, h1, h2, h3⟩ := hv.agg_inv
    obtain ⟨ys, c1, c2, c3, c4⟩ := lendC_spec hg l vs h3 hp
    exact ⟨_, c1, c2, .agg ys vs (c3.trans h1) h2 c4⟩
  · obtain ⟨y, h1, h2, h3⟩ := lend1_spec hg hv hp
    refine ⟨y, h1, ?_, h3⟩
    cases y <;> first | exact h2 | simp [AV.pure1] at h2
theorem lendL_spec (hg : Good E G h w S F) : ∀ (l : List AV) (vs : List Value) (hv : ∀ (j : Nat) x, l[j]? = some x → VR G w E.Ro S x (vs.getD j undef)) {k : List AV → Prop} (hp : lendL l h k),
    ∃ y, k y ∧ y.all AV.pureA = true ∧ y.length = l.length ∧ ∀ (j : Nat) x, y[j]? = some x → VR [] w (fun k => k < w.heap.size) S x (vs.getD j undef)
  | [], vs, hv, k, hp => ⟨[], hp, rfl, rfl, by simp⟩
  | x :: l, vs, hv, k, hp => by
    obtain ⟨y, b1, b2, b3⟩ := lendA_spec hg (hv 0 x rfl) hp
    obtain ⟨ys, c1, c2, c3, c4⟩ := lendL_spec hg l vs.tail (fun j x hj => by
      have := hv (j + 1) x (by simpa using hj)
      cases vs <;> simpa using this) b1
    refine ⟨_, c1, by simp [b2, c2], by simp [c3], fun j x hj => ?_⟩
    cases j with
    | zero => simp at hj; subst hj; exact b3
    | succ j =>
      have := c4 j x (by simpa using hj)
      cases vs <;> simpa using this
end

/-! ### Results as trees -/

/-- A cell that stands by itself. -/
def AV.shutC : AV → Bool
  | .nils => false
  | x => x.shut
def fold1 (x : AV) (hc : HP) (k : AV → HP → Prop) : Prop := match x with
  | .slc r 0 n _ => rootK hc r fun rt => match rt with
    | .lst s l => l.length = n ∧ (∀ e ∈ l, ∀ x ∈ e, x.shutC = true) ∧ setK hc r .dead fun hc => k (.sl s l) hc
    | _ => False
  | x => match x.shut && !x.isSl with | true => k x hc | false => False
def foldC : List AV → HP → (List AV → HP → Prop) → Prop
  | [], hc, k => k [] hc
  | x :: l, hc, k => fold1 x hc fun y hc => foldC l hc fun l hc => k (y :: l) hc
def fold2 (x : AV) (hc : HP) (k : AV → HP → Prop) : Prop := match x with
  | .agg l => foldC l hc fun l hc => k (.agg l) hc
  | x => fold1 x hc k
def foldM : List AV → HP → (List AV → HP → Prop) → Prop
  | [], hc, k => k [] hc
  | x :: l, hc, k => fold2 x hc fun y hc => foldM l hc fun l hc => k (y :: l) hc
def fold3 (x : AV) (hc : HP) (k : AV → HP → Prop) : Prop := match x with
  | .tup l => foldM l hc fun l hc => k (.tup l) hc
  | x => fold2 x hc k

def plant1 (x : AV) (h : HP) (k : AV → HP → Prop) : Prop := match x with
  | .sl s l => newK h nums (.lst s l) fun m h => k (.slc m 0 l.length false) h
  | x => k x h
def plantC : List AV → HP → (List AV → HP → Prop) → Prop
  | [], h, k => k [] h
  | x :: l, h, k => plant1 x h fun y h => plantC l h fun l h => k (y :: l) h
def plant2 (x : AV) (h : HP) (k : AV → HP → Prop) : Prop := match x with
  | .agg l => plantC l h fun l h => k (.agg l) h
  | x => plant1 x h k
def plantM : List AV → HP → (List AV → HP → Prop) → Prop
  | [], h, k => k [] h
  | x :: l, h, k => plant2 x h fun y h => plantM l h fun l h => k (y :: l) h
def plant3 (x : AV) (h : HP) (k : AV → HP → Prop) : Prop := match x with
  | .tup l => plantM l h fun l h => k (.tup l) h
  | x => plant2 x h k

/-- What a tree stands for: a value by itself, or an owned slice with its blocks. -/
def TreeR (w : World) (S : BS) (a : AV) (x : Value) (F : BS) : Prop :=
  (a.isSl = false ∧ a.shut = true ∧ VR [] w (fun _ => False) S a x ∧ ∀ k, ¬ F k) ∨ OR w (fun _ => False) S a x F

theorem CR.or {G : List Gh} {w : World} {Ro S : BS} {a x F} (h : CR G w Ro S a x F) (hs : a.shutC = true) : OR w (fun _ => False) S a x F := by
  rcases h with ⟨h1, h2, h3, h4⟩ | h
  · have e : F = fun _ => False := by funext k; simpa using h4 k
    rw [e]
    refine .leaf _ _ h1 ?_
    have h2 := h2.shut (G2 := []) (Ro2 := fun _ => False) (by cases a <;> first | exact hs | simp [AV.shutC] at hs)
    cases h2 with
    | top x => exact .top _ _ h3
    | nils => simp [AV.shutC] at hs
    | ptr => simp [AV.shutC, AV.shut] at hs
    | slc => simp [AV.shutC, AV.shut] at hs
    | agg => simp [AV.shutC, AV.shut] at hs
    | tup => simp [AV.shutC, AV.shut] at hs
    | fn f caps vs q1 q2 =>
      cases caps with
      | nil => exact .fn _ f [] vs q1 (by simp) (by simp)
      | cons _ _ => simp [AV.shutC, AV.shut] at hs
    | ir _ _ q1 q2 =>
      cases q2 with
      | top _ _ h => exact .top _ _ h
      | v _ _ h => exact .v _ _ h
      | sl0 => simp [AV.isSl] at h1
      | sl => simp [AV.isSl] at h1
      | imm _ t' z s l a n c r1 r2 r3 =>
        cases t' with
        | true => exact .imm _ _ _ _ _ _ _ _ (by simp) r2 r3
        | false => simp [AV.shutC, AV.shut] at hs
      | iptr _ t' l b off cs T fz cv r0 r1 r2 r4 r5 =>
        cases t' with
        | true => exact .iptr _ _ l b off cs T fz cv (by simp) r1 r2 r4 r5
        | false => simp [AV.shutC, AV.shut] at hs
      | fn _ f caps vs r1 r2 r3 =>
        cases caps with
        | nil => exact .fn _ f [] vs r1 (by simp) (by simp)
        | cons _ _ => simp [AV.shutC, AV.shut] at hs
  · exact h.ro

section
variable {E : Env} {w : World} {S : BS}

/-- A block set that a call may own, apart from its roots. -/
def Apart (E : Env) (w : World) (S : BS) (F : Nat → BS) (Fy : BS) : Prop := (∀ k, Fy k → k < w.heap.size ∧ (E.O k ∨ E.w0.heap.size ≤ k) ∧ ¬ S k) ∧ ∀ r k, F r k → ¬ Fy k

theorem fold1_spec {G hc F} (hg : Good E G hc w S F) {x : AV} {v : Value} (hv : VR G w E.Ro S x v) {k : AV → HP → Prop} (hp : fold1 x hc k) :
    ∃ y hc' F' Fy, k y hc' ∧ Good E G hc' w S F' ∧ TreeR w S y v Fy ∧ Apart E w S F' Fy ∧ (∀ r k, F' r k → F r k) ∧ (∀ k, Fy k → ∃ r, F r k) := by
  unfold fold1 at hp
  split at hp
  · rename_i r n z
    obtain ⟨g, ad, c, p1, p2, p3, p4, p5⟩ := hv.slc_inv
    obtain ⟨rt, hr, hp2⟩ := rootK_spec hp
    cases rt with
    | lst s l =>
      obtain ⟨hn, hs, hp3⟩ := hp2
      rw [setK_eq] at hp3
      have hrl : r < hc.length := (List.getElem?_eq_some_iff.1 hr).1
      have a1 := hg.setRoot hrl p1 (Chg.refl w _) (rt' := .dead) (F' := fun _ => False) (fun _ h => h) (fun _ h => h.elim)
      have hsub : ∀ i k, (if i = r then (fun _ => False) else F i) k → F i k := fun i k hk => by
        by_cases hi : i = r
        · simp [hi] at hk
        · simpa [hi] using hk
      subst p2
      obtain ⟨q1, q2, q3⟩ := hg.root r _ g hr p1
      have empty : ∀ a, l = [] → c = 0 → ∃ y hc' F' Fy, k y hc' ∧ Good E G hc' w S F' ∧ TreeR w S y (.slice a n c) Fy ∧ Apart E w S F' Fy ∧ (∀ r k, F' r k → F r k) ∧ (∀ k, Fy k → ∃ r, F r k) := by
        intro a h1 h2
        subst h1
        have : n = 0 := by simpa using hn.symm
        subst this
        subst h2
        exact ⟨_, _, _, fun _ => False, hp3, a1, .inr (.sl0 s a), ⟨fun _ h => h.elim, fun _ _ _ h => h⟩, hsub, fun _ h => h.elim⟩
      rcases p5 with p5 | ⟨b, p5, p6, p7⟩
      · exact empty ad (by cases l with | nil => rfl | cons _ _ => simp at hn; omega) p5
      subst p6
      rcases q3 with ⟨q3, _⟩ | ⟨b', cs, T, u1, u2, u3, u4, u5⟩
      · rw [q3] at p5; cases p5
      rw [p5] at u1
      cases u1
      obtain ⟨cv, Fc, w1, w2, w3, w4, w5⟩ := u5
      have hFr : ∀ k, (k = b ∨ ∃ j, j < l.flatten.length ∧ Fc j k) → F r k := fun k hk => (w5 k).2 hk
      refine ⟨_, _, _, _, hp3, a1, .inr (?_ : OR w (fun _ => False) S (.sl s l) _ (fun k => k = b ∨ ∃ j, j < l.flatten.length ∧ Fc j k)), ⟨fun k hk => hg.own r k (hFr k hk), fun i k hi hk => ?_⟩, hsub, fun k hk => ⟨r, hFr k hk⟩⟩
      · rw [Nat.zero_mul, ← hn]
        exact .sl s l b c cs T cv Fc u2 q2 (by omega) (by rw [← q1, u3]; simpa using p7) w1 (fun j x hj => (w2 j x hj).or (by
          obtain ⟨e, he, hx⟩ := List.mem_flatten.1 (List.mem_of_getElem? hj)
          exact hs e he x hx)) w3 w4
      · by_cases hir : i = r
        · simp [hir] at hi
        · simp only [hir, if_false] at hi
          exact hir (hg.dis i r k hi (hFr k hk))
    | _ => exact hp2.elim
  · split at hp
    · rename_i hs
      simp only [Bool.and_eq_true, Bool.not_eq_true'] at hs
      exact ⟨x, hc, F, fun _ => False, hp, hg, .inl ⟨hs.2, hs.1, hv.shut hs.1, fun _ h => h⟩, ⟨fun _ h => h.elim, fun _ _ _ h => h⟩, fun _ _ h => h, fun _ h => h.elim⟩
    · exact hp.elim

theorem plant1_spec {G h F} (hg : Good E G h w S F) {y : AV} {v : Value} {Fy : BS} (hy : TreeR w S y v Fy) (ha : Apart E w S F Fy) {k : AV → HP → Prop} (hp : plant1 y h k) :
    ∃ x h' G2 F2, k x h' ∧ Good E G2 h' w S F2 ∧ (∀ (i : Nat) (g : Gh), G[i]? = some g → G2[i]? = some g) ∧ VR G2 w E.Ro S x v ∧ ∀ r k, F2 r k → F r k ∨ Fy k := by
  have hlen := hg.len
  have hget : ∀ g : Gh, (G ++ [g])[h.length]? = some g := fun g => by rw [List.getElem?_append_right (by omega)]; simp [hlen]
  have hF2 : ∀ (F3 : BS), (∀ k, F3 k → Fy k) → ∀ r k, (if r = h.length then F3 else F r) k → F r k ∨ Fy k := fun F3 h3 r k hk => by
    by_cases hr : r = h.length
    · simp only [hr, if_true] at hk; exact .inr (h3 k hk)
    · simp only [hr, if_false] at hk; exact .inl hk
  unfold plant1 at hp
  split at hp
  · rename_i s l
    have hp := newK_spec hp
    rcases hy with ⟨h1, _⟩ | hy
    · simp [AV.isSl] at h1
    · cases hy with
      | leaf _ _ h1 _ => simp [AV.isSl] at h1
      | sl0 _ a =>
        have g2 := hg.addRoot ⟨none, s, 0⟩ (.lst s []) (fun _ => False) ⟨rfl, by simp, .inl ⟨rfl, rfl, fun _ h => h⟩⟩ (fun _ _ _ h => h) (fun _ h => h.elim)
        exact ⟨_, _, _, _, hp, g2, pre_append G _, .slc _ 0 0 false ⟨none, s, 0⟩ a 0 (hget _) (Nat.le_refl _) (by simp) (.inl rfl), hF2 _ (fun _ h => h.elim)⟩
      | sl _ _ b c cs T cv Fc u1 u2 u3 u4 u5 u6 u7 u8 =>
        have hfl : l.flatten.length ≤ cs.size := by rw [flat_length _ _ u2]; exact Nat.le_trans (Nat.mul_le_mul_right _ u3) u4
        have g2 := hg.addRoot ⟨some b, s, cs.size⟩ (.lst s l) (fun k => k = b ∨ ∃ j, j < l.flatten.length ∧ Fc j k)
          ⟨rfl, u2, .inr ⟨b, cs, T, rfl, u1, rfl, hfl, cv, Fc, u5, fun j a hj => .inr ((u6 j a hj).ro), u7, u8, fun _ => Iff.rfl⟩⟩ (fun r k hk => ha.2 r k hk) (fun k hk => ha.1 k hk)
        refine ⟨_, _, _, _, hp, g2, pre_append G _, ?_, hF2 _ (fun _ h => h)⟩
        have := VR.slc (G := G ++ [⟨some b, s, cs.size⟩]) (w := w) (Ro := E.Ro) (S := S) h.length 0 l.length false ⟨some b, s, cs.size⟩ (some ⟨b, 0 * s, none⟩) c (hget _) u3 (by simp) (.inr ⟨b, rfl, rfl, by simpa using u4⟩)
        rwa [Nat.zero_mul] at this
  · rename_i hne
    rcases hy with ⟨h1, h2, h3, h4⟩ | hy
    · exact ⟨y, h, G, F, hp, hg, fun _ _ h => h, h3.shut h2, fun _ _ h => .inl h⟩
    · cases hy with
      | leaf _ _ h1 h2 => exact ⟨y, h, G, F, hp, hg, fun _ _ h => h, .ir _ _ h1 (h2.true_ro rfl).weak, fun _ _ h => .inl h⟩
      | sl0 _ a => exact (hne _ _ rfl).elim
      | sl => exact (hne _ _ rfl).elim

/-- A list of trees with their blocks, apart from one another. -/
inductive TreesR (w : World) (S : BS) (R : AV → Value → BS → Prop) : List AV → List Value → BS → Prop
  | nil : TreesR w S R [] [] (fun _ => False)
  | cons {a x F l vs F'} : R a x F → TreesR w S R l vs F' → (∀ k, F k → ¬ F' k) → TreesR w S R (a :: l) (x :: vs) (fun k => F k ∨ F' k)

theorem fold_list {R : AV → Value → BS → Prop} {f : AV → HP → (AV → HP → Prop) → Prop} {fl : List AV → HP → (List AV → HP → Prop) → Prop} (h0 : ∀ hc k, fl [] hc k → k [] hc) (h1 : ∀ x l hc k, fl (x :: l) hc k → f x hc fun y hc => fl l hc fun l hc => k (y :: l) hc)
    (hf : ∀ {G hc F}, Good E G hc w S F → ∀ {x : AV} {v : Value}, VR G w E.Ro S x v → ∀ {k : AV → HP → Prop}, f x hc k → ∃ y hc' F' Fy, k y hc' ∧ Good E G hc' w S F' ∧ R y v Fy ∧ Apart E w S F' Fy ∧ (∀ r k, F' r k → F r k) ∧ (∀ k, Fy k → ∃ r, F r k)) :
    ∀ (l : List AV) (vs : List Value) {G hc F}, Good E G hc w S F → l.length = vs.length → (∀ (j : Nat) x, l[j]? = some x → VR G w E.Ro S x (vs.getD j undef)) → ∀ {k : List AV → HP → Prop}, fl l hc k →
    ∃ y hc' F' Fy, k y hc' ∧ Good E G hc' w S F' ∧ TreesR w S R y vs Fy ∧ Apart E w S F' Fy ∧ (∀ r k, F' r k → F r k) ∧ (∀ k, Fy k → ∃ r, F r k)
  | [], vs, G, hc, F, hg, hl, hv, k, hp => by
    cases vs with
    | nil => exact ⟨[], hc, F, _, h0 _ _ hp, hg, .nil, ⟨fun _ h => h.elim, fun _ _ _ h => h⟩, fun _ _ h => h, fun _ h => h.elim⟩
    | cons _ _ => simp at hl
  | x :: l, vs, G, hc, F, hg, hl, hv, k, hp => by
    cases vs with
    | nil => simp at hl
    | cons v vs =>
      obtain ⟨y, hc1, F1, Fy1, b1, b2, b3, b4, b5, b6⟩ := hf hg (by simpa using hv 0 x rfl) (h1 _ _ _ _ hp)
      obtain ⟨ys, hc2, F2, Fy2, c1, c2, c3, c4, c5, c6⟩ := fold_list h0 h1 hf l vs b2 (by simpa using hl) (fun j x hj => by simpa using hv (j + 1) x (by simpa using hj)) b1
      refine ⟨_, hc2, F2, _, c1, c2, .cons b3 c3 (fun k hk hk2 => ?_), ⟨fun k hk => hk.elim (b4.1 k) (c4.1 k), fun r k hr hk => hk.elim (b4.2 r k (c5 r k hr)) (c4.2 r k hr)⟩, fun r k hk => b5 r k (c5 r k hk), fun k hk => ?_⟩
      · obtain ⟨r, hr⟩ := c6 k hk2
        exact b4.2 r k hr hk
      · rcases hk with hk | hk
        · exact b6 k hk
        · obtain ⟨r, hr⟩ := c6 k hk
          exact ⟨r, b5 r k hr⟩

theorem plant_list {R : AV → Value → BS → Prop} {f : AV → HP → (AV → HP → Prop) → Prop} {fl : List AV → HP → (List AV → HP → Prop) → Prop} (h0 : ∀ hc k, fl [] hc k → k [] hc) (h1 : ∀ x l hc k, fl (x :: l) hc k → f x hc fun y hc => fl l hc fun l hc => k (y :: l) hc)
    (hf : ∀ {G h F}, Good E G h w S F → ∀ {y : AV} {v : Value} {Fy : BS}, R y v Fy → Apart E w S F Fy → ∀ {k : AV → HP → Prop}, f y h k → ∃ x h' G2 F2, k x h' ∧ Good E G2 h' w S F2 ∧ (∀ (i : Nat) (g : Gh), G[i]? = some g → G2[i]? = some g) ∧ VR G2 w E.Ro S x v ∧ ∀ r k, F2 r k → F r k ∨ Fy k) :
    ∀ (l : List AV) (vs : List Value) (Fy : BS) {G h F}, Good E G h w S F → TreesR w S R l vs Fy → Apart E w S F Fy → ∀ {k : List AV → HP → Prop}, fl l h k →
    ∃ x h' G2 F2, k x h' ∧ Good E G2 h' w S F2 ∧ (∀ (i : Nat) (g : Gh), G[i]? = some g → G2[i]? = some g) ∧ x.length = vs.length ∧ (∀ (j : Nat) y, x[j]? = some y → VR G2 w E.Ro S y (vs.getD j undef)) ∧ ∀ r k, F2 r k → F r k ∨ Fy k
  | [], vs, Fy, G, h, F, hg, ht, ha, k, hp => by
    cases ht
    exact ⟨[], h, G, F, h0 _ _ hp, hg, fun _ _ h => h, rfl, by simp, fun _ _ h => .inl h⟩
  | x :: l, vs, Fy, G, h, F, hg, ht, ha, k, hp => by
    cases ht with
    | cons t1 t2 t3 =>
      rename_i v F1 vs F2
      obtain ⟨y, h1', G1, F3, b1, b2, b3, b4, b5⟩ := hf hg t1 ⟨fun k hk => ha.1 k (.inl hk), fun r k hr hk => ha.2 r k hr (.inl hk)⟩ (h1 _ _ _ _ hp)
      obtain ⟨ys, h2', G2, F4, c1, c2, c3, c4, c5, c6⟩ := plant_list h0 h1 hf l vs F2 b2 t2 ⟨fun k hk => ha.1 k (.inr hk), fun r k hr hk => (b5 r k hr).elim (fun q => ha.2 r k q (.inr hk)) (fun q => t3 k q hk)⟩ b1
      refine ⟨_, h2', G2, F4, c1, c2, fun i g hi => c3 i g (b3 i g hi), by simp [c4], fun j z hj => ?_, fun r k hk => ?_⟩
      · cases j with
        | zero => simp at hj; subst hj; simpa using b4.pre c3
        | succ j => simpa using c5 j z (by simpa using hj)
      · rcases c6 r k hk with q | q
        · exact (b5 r k q).imp id .inl
        · exact .inr (.inr q)

/-- A struct, or one cell. -/
def Tree2 (w : World) (S : BS) (a : AV) (x : Value) (F : BS) : Prop :=
  TreeR w S a x F ∨ ∃ l vs, a = .agg l ∧ x = .agg vs.toArray ∧ (∀ v ∈ vs, v.oneCell' = true) ∧ TreesR w S (TreeR w S) l vs F
def Tree3 (w : World) (S : BS) (a : AV) (x : Value) (F : BS) : Prop :=
  Tree2 w S a x F ∨ ∃ l vs, a = .tup l ∧ x = .tuple vs.toArray ∧ TreesR w S (Tree2 w S) l vs F

theorem fold2_spec {G hc F} (hg : Good E G hc w S F) {x : AV} {v : Value} (hv : VR G w E.Ro S x v) {k : AV → HP → Prop} (hp : fold2 x hc k) :
    ∃ y hc' F' Fy, k y hc' ∧ Good E G hc' w S F' ∧ Tree2 w S y v Fy ∧ Apart E w S F' Fy ∧ (∀ r k, F' r k → F r k) ∧ (∀ k, Fy k → ∃ r, F r k) := by
  unfold fold2 at hp
  split at hp
  · rename_i l
    obtain ⟨vs, rfl, h1, h2, h3⟩ := hv.agg_inv
    obtain ⟨ys, hc', F', Fy, c1, c2, c3, c4, c5, c6⟩ := fold_list (E := E) (w := w) (S := S) (R := TreeR w S) (f := fold1) (fl := foldC) (fun _ _ h => h) (fun _ _ _ _ h => h) (fun hg _ _ hv _ hp => fold1_spec hg hv hp) l vs hg h1 h3 hp
    exact ⟨_, hc', F', Fy, c1, c2, .inr ⟨ys, vs, rfl, rfl, h2, c3⟩, c4, c5, c6⟩
  · obtain ⟨y, hc', F', Fy, c1, c2, c3, c4⟩ := fold1_spec hg hv hp
    exact ⟨y, hc', F', Fy, c1, c2, .inl c3, c4⟩
theorem fold3_spec {G hc F} (hg : Good E G hc w S F) {x : AV} {v : Value} (hv : VR G w E.Ro S x v) {k : AV → HP → Prop} (hp : fold3 x hc k) :
    ∃ y hc' F' Fy, k y hc' ∧ Good E G hc' w S F' ∧ Tree3 w S y v Fy ∧ Apart E w S F' Fy ∧ (∀ r k, F' r k → F r k) ∧ (∀ k, Fy k → ∃ r, F r k) := by
  unfold fold3 at hp
  split at hp
  · rename_i l
    obtain ⟨vs, rfl, h1, h3⟩ := hv.tup_inv
    obtain ⟨ys, hc', F', Fy, c1, c2, c3, c4, c5, c6⟩ := fold_list (E := E) (w := w) (S := S) (R := Tree2 w S) (f := fold2) (fl := foldM) (fun _ _ h => h) (fun _ _ _ _ h => h) (fun hg _ _ hv _ hp => fold2_spec hg hv hp) l vs hg h1 h3 hp
    exact ⟨_, hc', F', Fy, c1, c2, .inr ⟨ys, vs, rfl, rfl, c3⟩, c4, c5, c6⟩
  · obtain ⟨y, hc', F', Fy, c1, c2, c3, c4⟩ := fold2_spec hg hv hp
    exact ⟨y, hc', F', Fy, c1, c2, .inl c3, c4⟩
theorem plant2_spec {G h F} (hg : Good E G h w S F) {y : AV} {v : Value} {Fy : BS} (hy : Tree2 w S y v Fy) (ha : Apart E w S F Fy) {k : AV → HP → Prop} (hp : plant2 y h k) :
    ∃ x h' G2 F2, k x h' ∧ Good E G2 h' w S F2 ∧ (∀ (i : Nat) (g : Gh), G[i]? = some g → G2[i]? = some g) ∧ VR G2 w E.Ro S x v ∧ ∀ r k, F2 r k → F r k ∨ Fy k := by
  rcases hy with hy | ⟨l, vs, rfl, rfl, hone, ht⟩
  · unfold plant2 at hp
    split at hp
    · rcases hy with ⟨_, h2, _⟩ | hy
      · simp [AV.shut] at h2
      · cases hy with
        | leaf _ _ _ h => cases h
    · exact plant1_spec hg hy ha hp
  · obtain ⟨x, h', G2, F2, c1, c2, c3, c4, c5, c6⟩ := plant_list (E := E) (w := w) (S := S) (R := TreeR w S) (f := plant1) (fl := plantC) (fun _ _ h => h) (fun _ _ _ _ h => h) (fun hg _ _ _ hy ha _ hp => plant1_spec hg hy ha hp) l vs Fy hg ht ha hp
    exact ⟨_, h', G2, F2, c1, c2, c3, .agg x vs c4 hone c5, c6⟩
theorem plant3_spec {G h F} (hg : Good E G h w S F) {y : AV} {v : Value} {Fy : BS} (hy : Tree3 w S y v Fy) (ha : Apart E w S F Fy) {k : AV → HP → Prop} (hp : plant3 y h k) :
    ∃ x h' G2 F2, k x h' ∧ Good E G2 h' w S F2 ∧ (∀ (i : Nat) (g : Gh), G[i]? = some g → G2[i]? = some g) ∧ VR G2 w E.Ro S x v ∧ ∀ r k, F2 r k → F r k ∨ Fy k := by
  rcases hy with hy | ⟨l, vs, rfl, rfl, ht⟩
  · unfold plant3 at hp
    split at hp
    · rcases hy with (⟨_, h2, _⟩ | hy) | ⟨_, _, h, _⟩
      · simp [AV.shut] at h2
      · cases hy with
        | leaf _ _ _ h => cases h
      · cases h
    · exact plant2_spec hg hy ha hp
  · obtain ⟨x, h', G2, F2, c1, c2, c3, c4, c5, c6⟩ := plant_list (E := E) (w := w) (S := S) (R := Tree2 w S) (f := plant2) (fl := plantM) (fun _ _ h => h) (fun _ _ _ _ h => h) (fun hg _ _ _ hy ha _ hp => plant2_spec hg hy ha hp) l vs Fy hg ht ha hp
    exact ⟨_, h', G2, F2, c1, c2, c3, .tup x vs c4 c5, c6⟩
end

/-! ### A call by its contract over trees -/

/-- A contract: what the arguments must be, and what tree comes. -/
abbrev PH := List AV → (AV → Prop) → Prop
def isoP (C : Ctx) (n : Nat) (rs : List ResultVar) (c : Code) : PH := fun args K =>
  args.all AV.pureA = true ∧ topsK (n - args.length) fun ts => appK args ts fun t => AWP C c (retP C rs fun x hc => fold3 x hc fun y _ => K y) t []
def callP (H : PH) : Handler := fun args h K => lendL args h fun args => H args fun y => plant3 y h fun x h => K x h

theorem callP_sound {P : Program} {C : Ctx} (hC : CtxOk P C) (hm : P.follows .mixedOrders = true) {f : FuncId} {fn : Func} (hf : P.funcs[f]? = some fn) (hb : fn.body.isSome = true) {H : PH}
    (hH : ∀ args K, H args K → isoP C fn.ntmps fn.results.toList (fn.body.getD .skip) args K) : HSound P f (callP H) := by
  intro E G S F h w args0 vs K hg hl0 hv0 hp0
  obtain ⟨args, hp1, hpure, hlen, hv⟩ := lendL_spec hg args0 vs hv0 hp0
  obtain ⟨_, hp⟩ := hH _ _ hp1
  have hl : args.length = vs.length := hlen.trans hl0
  have hb' : fn.body = some (fn.body.getD .skip) := by cases h : fn.body with | none => simp [h] at hb | some c => rfl
  generalize fn.body.getD .skip = c at hb' hp
  rw [topsK_eq, appK_eq] at hp
  refine calls_of_wp hf hb' ?_
  have hRo : (Env.mk w (fun _ => False) S).Ro = fun k => k < w.heap.size := by funext k; simp [Env.Ro]
  have g0 : Good ⟨w, fun _ => False, S⟩ [] [] w S (fun _ _ => False) :=
    ⟨rfl, by simp, by simp, by simp, by simp, hg.sb, fun _ h => h, fun _ h => .inl h, Nat.le_refl _, rfl, rfl, rfl, fun _ _ => rfl⟩
  refine awp_sound (D := ([], (vs.toArray ++ Array.replicate (fn.ntmps - vs.toArray.size) undef).size)) hC hm c _ _ [] _ w _ hp ⟨[], S, fun _ _ => False, g0, ⟨?_, fun i => ?_⟩, rfl, rfl⟩ ?_
  · simp [hl]
  · rw [List.getD_eq_getElem?_getD, List.getElem?_append]
    split
    · rename_i hi
      have hiv : i < vs.length := by omega
      have := hv i args[i] (List.getElem?_eq_getElem hi)
      rw [List.getElem?_eq_getElem hi, hRo]
      simpa [Array.getD_eq_getD_getElem?, List.getD_eq_getElem?_getD, Array.getElem?_append, hiv] using this
    · rw [List.getElem?_replicate]
      split <;> exact .top _
  · intro e t' hc a' w' hk ⟨G', S', F', hg', ht', hd'⟩
    have fin : (resL C t' fn.results.toList hc fun l h_1 => oneK l fun x => fold3 x h_1 fun y _ => plant3 y h fun x h => K x h) → ∃ v, (results fn a'.tmps).run P w' = .ok v w' ∧ ∃ x h' v' G' S' F', Ending.returned v = .returned v' ∧ K x h' ∧ Good E G' h' w' S' F' ∧ Ext E G w S G' w' S' ∧ VR G' w' E.Ro S' x v' := by
      intro hk
      obtain ⟨x, hc1, G1, F1, v, b1, b2, b3, b4, b5⟩ := results_spec (K := fun x h_1 => fold3 x h_1 fun y _ => plant3 y h fun x h => K x h) hC rfl hg' ht' hk
      obtain ⟨y, hc2, F2, Fy, d1, d2, d3, d4, d5, d6⟩ := fold3_spec b2 b5 b1
      have hsame : ∀ k, k < w.heap.size → w'.heap[k]? = w.heap[k]? := fun k hk => b2.fr k ⟨hk, fun h => h⟩
      have e0 : Ext E G w S G w' S' := ⟨fun _ _ h => h, b2.s0, fun k hk => hsame k (hg.sb k hk), fun k hk => hsame k (hg.ro_lt hk)⟩
      have gc : Good E G h w' S' F := by
        constructor
        · exact hg.len
        · exact fun i rt g h1 h2 => (hg.root i rt g h1 h2).ext e0 (fun k hk => hsame k (hg.own i k hk).1)
        · exact hg.dis
        · exact hg.out
        · intro r k hk
          have := hg.own r k hk
          refine ⟨Nat.lt_of_lt_of_le this.1 b2.size, this.2.1, fun hs => ?_⟩
          rcases b2.sn k hs with q | q | q
          · exact this.2.2 q
          · exact q
          · simp only at q; omega
        · exact b2.sb
        · exact fun k hk => b2.s0 k (hg.s0 k hk)
        · intro k hk
          rcases b2.sn k hk with q | q | q
          · exact hg.sn k q
          · exact q.elim
          · exact .inr (.inr (Nat.le_trans hg.size q))
        · exact Nat.le_trans hg.size b2.size
        · exact b2.os.trans hg.os
        · exact b2.tape.trans hg.tape
        · exact b2.output.trans hg.output
        · exact fun k hk => (hsame k (hg.ro_lt hk)).trans (hg.fr k hk)
      have hap : Apart E w' S' F Fy := by
        refine ⟨fun k hk => ?_, fun r k hr hk => ?_⟩
        · have q := d4.1 k hk
          refine ⟨q.1, .inr ?_, q.2.2⟩
          rcases q.2.1 with q | q
          · exact q.elim
          · exact Nat.le_trans hg.size q
        · have q1 := (hg.own r k hr).1
          rcases (d4.1 k hk).2.1 with q | q
          · exact q
          · simp only at q; omega
      obtain ⟨z, h2, G2, F3, c1, c2, c3, c4, _⟩ := plant3_spec gc d3 hap d1
      exact ⟨v, b4, z, h2, v, G2, S', F3, rfl, c1, c2, ⟨c3, e0.s, e0.ss, e0.ro⟩, c4⟩
    cases e <;> simp only [retP] at hk
    · obtain ⟨v, q1, q2⟩ := fin hk
      exact ⟨hd'.1, v, q1, q2⟩
    all_goals first
      | exact hk.elim
      | (obtain ⟨v, q1, q2⟩ := fin hk; exact ⟨hd'.1, v, q1, q2⟩)

end Go.Proofs.Ytkbdjhhnpajidaa.Ab
