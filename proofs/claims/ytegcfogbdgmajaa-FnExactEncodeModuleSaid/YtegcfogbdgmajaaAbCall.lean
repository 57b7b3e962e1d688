/- A call by its contract is sound. No condition. -/
import Derived.Test.YtegcfogbdgmajaaAbFn
namespace Go.Proofs.Ytegcfogbdgmajaa.Ab
set_option linter.unusedVariables false
set_option linter.unusedSimpArgs false

/-! ### Lending -/

section
variable {E : Env} {G : List Gh} {w : World}

/-- Values of which some are named anew (those that are lent to be written). -/
def LentR (E : Env) (G : List Gh) (w : World) (S : BS) (ρ : List Nat) (md : Md) (x : AV) (v : Value) : Prop := match md with
  | .rw => ∀ G2, Mt ρ G G2 → VR G2 w E.Ro S x v
  | _ => True

theorem lendWs_spec : ∀ (l : List AV) (ms : List Md) (vs : List Value) {ρ : List Nat} {hs h : HP} {S : BS} {F Ft : Nat → BS} {k : List AV → List Nat → HP → HP → Prop}, Good E G h w S F → Tk E false G w S F ρ hs Ft → (∀ (j : Nat) x, l[j]? = some x → VR G w E.Ro S x (vs.getD j undef)) → lendWs ms l ρ hs h k →
    ∃ y ρ' hs' h' S' F' Ft', k y (ρ ++ ρ') hs' h' ∧ Stp E G w h S F h' S' F' ∧ Tk E false G w S' F' (ρ ++ ρ') hs' Ft' ∧ y.length = l.length ∧
      ∀ (j : Nat) x, y[j]? = some x → (ms[j]? = some .rw → ∀ G2, Mt (ρ ++ ρ') G G2 → VR G2 w E.Ro S' x (vs.getD j undef)) ∧ (ms[j]? ≠ some .rw → VR G w E.Ro S' x (vs.getD j undef))
  | [], ms, vs, ρ, hs, h, S, F, Ft, k, hg, T, hv, hp => ⟨[], [], hs, h, S, F, Ft, by simpa [lendWs] using hp, .refl hg, by simpa using T, rfl, by simp⟩
  | x :: l, ms, vs, ρ, hs, h, S, F, Ft, k, hg, T, hv, hp => by
    have tl : ∀ {S' : BS}, (∀ k, S k → S' k) → ∀ (j : Nat) z, l[j]? = some z → VR G w E.Ro S' z (vs.tail.getD j undef) := fun hs j z hj => by
      have := (hv (j + 1) z (by simpa using hj)).ext (E := E) ⟨fun _ _ h => h, hs, fun _ _ => rfl, fun _ _ => rfl⟩
      cases vs <;> simpa using this
    have tld : ∀ j, vs.tail.getD j undef = vs.getD (j + 1) undef := fun j => by cases vs <;> simp
    have keep : ∀ (m : Option Md) (ms' : List Md), m ≠ some .rw → ms[0]? = m → (∀ j, ms[j + 1]? = ms'[j]?) → (lendWs ms' l ρ hs h fun l ρ hs h => k (x :: l) ρ hs h) → ∃ y ρ' hs' h' S' F' Ft', k y (ρ ++ ρ') hs' h' ∧ Stp E G w h S F h' S' F' ∧ Tk E false G w S' F' (ρ ++ ρ') hs' Ft' ∧ y.length = (x :: l).length ∧
        ∀ (j : Nat) z, y[j]? = some z → (ms[j]? = some .rw → ∀ G2, Mt (ρ ++ ρ') G G2 → VR G2 w E.Ro S' z (vs.getD j undef)) ∧ (ms[j]? ≠ some .rw → VR G w E.Ro S' z (vs.getD j undef)) := by
      intro m ms' hm h0 hms hp
      obtain ⟨y, ρ', hs', h', S', F', Ft', a1, a2, a3, a4, a5⟩ := lendWs_spec l ms' vs.tail hg T (tl fun _ h => h) hp
      refine ⟨x :: y, ρ', hs', h', S', F', Ft', a1, a2, a3, by simp [a4], fun j z hj => ?_⟩
      cases j with
      | zero => simp at hj; subst hj; exact ⟨fun he => absurd (h0.symm.trans he) hm, fun _ => (hv 0 x rfl).ext a2.ext⟩
      | succ j => have := a5 j z (by simpa using hj); rwa [tld, ← hms] at this
    simp only [lendWs] at hp
    split at hp
    · rename_i ms'
      obtain ⟨y0, ρ1, hs1, h1, S1, F1, Ft1, a1, a2, a3, a4⟩ := can1 (st := false) hg T (hv 0 x rfl) hp
      obtain ⟨y, ρ2, hs2, h2, S2, F2, Ft2, b1, b2, b3, b4, b5⟩ := lendWs_spec l ms' vs.tail a2.good a3 (tl a2.s) a1
      rw [List.append_assoc] at b1 b3 b5
      refine ⟨y0 :: y, ρ1 ++ ρ2, hs2, h2, S2, F2, Ft2, b1, a2.trans b2, b3, by simp [b4], fun j z hj => ?_⟩
      cases j with
      | zero =>
        simp at hj; subst hj
        exact ⟨fun _ G2 hM => (a4 G2 (by rw [← List.append_assoc] at hM; exact hM.pre)).1.ext (E := E) ⟨fun _ _ h => h, b2.s, fun _ _ => rfl, fun _ _ => rfl⟩, fun h => absurd rfl h⟩
      | succ j => have := b5 j z (by simpa using hj); rwa [tld] at this
    · rename_i m ms' hne
      exact keep (some m) ms' (fun h => by cases h; exact hne rfl) rfl (fun j => rfl) hp
    · exact keep none [] (by simp) rfl (fun j => by simp) hp

/-- What an argument is behind the first pass. -/
def LA (E : Env) (G : List Gh) (w : World) (S : BS) (ρ : List Nat) (m : Md) (y : AV) (v : Value) : Prop := match m, y with
  | .rw, y => ∀ G2, Mt ρ G G2 → VR G2 w E.Ro S y v
  | .ag ms, .agg l => ∃ vs : List Value, v = .agg vs.toArray ∧ l.length = vs.length ∧ (∀ u ∈ vs, u.oneCell' = true) ∧ ∀ (j : Nat) x, l[j]? = some x → (ms[j]? = some .rw → ∀ G2, Mt ρ G G2 → VR G2 w E.Ro S x (vs.getD j undef)) ∧ (ms[j]? ≠ some .rw → VR G w E.Ro S x (vs.getD j undef))
  | _, y => VR G w E.Ro S y v
theorem LA.later {S S' : BS} {ρ ρ' : List Nat} {m : Md} {y : AV} {v : Value} (h : LA E G w S ρ m y v) (hs : ∀ k, S k → S' k) : LA E G w S' (ρ ++ ρ') m y v := by
  have e : ∀ {G2 : List Gh}, Ext E G2 w S G2 w S' := ⟨fun _ _ h => h, hs, fun _ _ => rfl, fun _ _ => rfl⟩
  cases m with
  | ro => exact VR.ext e h
  | rw => exact fun G2 hM => (h G2 hM.pre).ext e
  | ag ms =>
    cases y
    case agg l =>
      obtain ⟨vs, h1, h2, h3, h4⟩ := h
      exact ⟨vs, h1, h2, h3, fun j x hj => ⟨fun hm G2 hM => ((h4 j x hj).1 hm G2 hM.pre).ext e, fun hm => ((h4 j x hj).2 hm).ext e⟩⟩
    all_goals exact VR.ext e h

theorem lendW_spec {m : Md} {x : AV} {v : Value} {ρ : List Nat} {hs h : HP} {S : BS} {F Ft : Nat → BS} {k : CK} (hg : Good E G h w S F) (T : Tk E false G w S F ρ hs Ft) (hv : VR G w E.Ro S x v) (hp : lendW m x ρ hs h k) :
    ∃ y ρ' hs' h' S' F' Ft', k y (ρ ++ ρ') hs' h' ∧ Stp E G w h S F h' S' F' ∧ Tk E false G w S' F' (ρ ++ ρ') hs' Ft' ∧ LA E G w S' (ρ ++ ρ') m y v := by
  have stay : k x ρ hs h → LA E G w S ρ m x v → ∃ y ρ' hs' h' S' F' Ft', k y (ρ ++ ρ') hs' h' ∧ Stp E G w h S F h' S' F' ∧ Tk E false G w S' F' (ρ ++ ρ') hs' Ft' ∧ LA E G w S' (ρ ++ ρ') m y v := fun h1 h2 =>
    ⟨x, [], hs, h, S, F, Ft, by simpa using h1, .refl hg, by simpa using T, by simpa using h2⟩
  cases m with
  | ro => exact stay hp hv
  | rw =>
    obtain ⟨y, ρ', hs', h', S', F', Ft', a1, a2, a3, a4⟩ := can2 (st := false) hg T hv hp
    exact ⟨y, ρ', hs', h', S', F', Ft', a1, a2, a3, fun G2 hM => (a4 G2 hM).1⟩
  | ag ms =>
    cases x
    case agg l =>
      obtain ⟨vs, rfl, h1, h2, h3⟩ := hv.agg_inv
      obtain ⟨y, ρ', hs', h', S', F', Ft', a1, a2, a3, a4, a5⟩ := lendWs_spec l ms vs hg T h3 hp
      exact ⟨_, ρ', hs', h', S', F', Ft', a1, a2, a3, vs, rfl, a4.trans h1, h2, a5⟩
    all_goals exact stay hp hv

theorem lendWL_spec : ∀ (l : List AV) (ms : List Md) (vs : List Value) {ρ : List Nat} {hs h : HP} {S : BS} {F Ft : Nat → BS} {k : List AV → List Nat → HP → HP → Prop}, Good E G h w S F → Tk E false G w S F ρ hs Ft → (∀ (j : Nat) x, l[j]? = some x → VR G w E.Ro S x (vs.getD j undef)) → lendWL ms l ρ hs h k →
    ∃ y ρ' hs' h' S' F' Ft', k y (ρ ++ ρ') hs' h' ∧ Stp E G w h S F h' S' F' ∧ Tk E false G w S' F' (ρ ++ ρ') hs' Ft' ∧ y.length = l.length ∧ ∀ (j : Nat) x, y[j]? = some x → LA E G w S' (ρ ++ ρ') (ms.getD j .ro) x (vs.getD j undef)
  | [], ms, vs, ρ, hs, h, S, F, Ft, k, hg, T, hv, hp => ⟨[], [], hs, h, S, F, Ft, by simpa [lendWL] using hp, .refl hg, by simpa using T, rfl, by simp⟩
  | x :: l, ms, vs, ρ, hs, h, S, F, Ft, k, hg, T, hv, hp => by
    have tl : ∀ {S' : BS}, (∀ k, S k → S' k) → ∀ (j : Nat) z, l[j]? = some z → VR G w E.Ro S' z (vs.tail.getD j undef) := fun hs j z hj => by
      have := (hv (j + 1) z (by simpa using hj)).ext (E := E) ⟨fun _ _ h => h, hs, fun _ _ => rfl, fun _ _ => rfl⟩
      cases vs <;> simpa using this
    have tld : ∀ j, vs.tail.getD j undef = vs.getD (j + 1) undef := fun j => by cases vs <;> simp
    cases ms with
    | cons m ms =>
      simp only [lendWL] at hp
      obtain ⟨y0, ρ1, hs1, h1, S1, F1, Ft1, a1, a2, a3, a4⟩ := lendW_spec hg T (hv 0 x rfl) hp
      obtain ⟨y, ρ2, hs2, h2, S2, F2, Ft2, b1, b2, b3, b4, b5⟩ := lendWL_spec l ms vs.tail a2.good a3 (tl a2.s) a1
      rw [List.append_assoc] at b1 b3 b5
      refine ⟨y0 :: y, ρ1 ++ ρ2, hs2, h2, S2, F2, Ft2, b1, a2.trans b2, b3, by simp [b4], fun j z hj => ?_⟩
      cases j with
      | zero =>
        simp at hj; subst hj
        have := a4.later (ρ' := ρ2) b2.s
        rwa [List.append_assoc] at this
      | succ j => have := b5 j z (by simpa using hj); rw [tld] at this; simpa using this
    | nil =>
      simp only [lendWL] at hp
      obtain ⟨y, ρ', hs', h', S', F', Ft', a1, a2, a3, a4, a5⟩ := lendWL_spec l [] vs.tail hg T (tl fun _ h => h) hp
      refine ⟨x :: y, ρ', hs', h', S', F', Ft', a1, a2, a3, by simp [a4], fun j z hj => ?_⟩
      cases j with
      | zero => simp at hj; subst hj; exact (hv 0 x rfl).ext a2.ext
      | succ j => have := a5 j z (by simpa using hj); rw [tld] at this; simpa using this

/-! ### To be read -/

/-- The memory that a call may read: what its caller may, and the roots that are lent to it. -/
def RoL (E : Env) (F : Nat → BS) (R : List Nat) : BS := fun k => E.Ro k ∨ ∃ r ∈ R, F r k
theorem RoL.mono {F : Nat → BS} {R R' : List Nat} (h : ∀ r ∈ R, r ∈ R') : ∀ k, RoL E F R k → RoL E F R' k := fun k hk => hk.imp id fun ⟨r, h1, h2⟩ => ⟨r, h r h1, h2⟩

theorem OR.ir {Ro S : BS} {a x F} (h : OR w (fun _ => False) S a x F) : (∀ k, F k → Ro k) → IR w Ro S false a x := by
  induction h with
  | leaf a x h1 h2 => exact fun _ => (h2.true_ro rfl).weak
  | sl0 s a => exact fun _ => .sl0 _ s a 0
  | sl s l b c cs T cv Fc h1 h2 h3 h4 h5 _ h7 h8 ih =>
    exact fun hF => .sl _ s l b 0 c cs T (0, 0) cv (.inl (hF b (.inl rfl))) h1 h2 h3 (fun j hj => by rw [Nat.zero_add]; exact h5 j hj) (fun j x hj => ih j x hj (fun k hk => hF k (.inr ⟨j, (List.getElem?_eq_some_iff.1 hj).1, hk⟩)))

theorem lendR1_spec {h : HP} {S : BS} {F : Nat → BS} (hg : Good E G h w S F) {x : AV} {v : Value} {R : List Nat} {k : AV → List Nat → Prop} (hv : VR G w E.Ro S x v) (hp : lendR1 x R h k) :
    ∃ y R', k y R' ∧ (∀ r ∈ R, r ∈ R') ∧ ∀ G2, VR G2 w (RoL E F R') S y v := by
  unfold lendR1 at hp
  split at hp
  · rename_i r o n z
    obtain ⟨rt, hr, hp2⟩ := rootK_spec hp
    cases rt with
    | lst s l =>
      obtain ⟨L, hL, hn, hs, hp3⟩ := hp2
      obtain ⟨g, ad, c, p1, p2, p3, p4, p5⟩ := hv.slc_inv
      subst p2
      refine ⟨_, r :: R, hp3, fun _ h => List.mem_cons_of_mem _ h, fun G2 => .ir _ _ rfl (.imm _ _ _ _ _ ad n c (by simp) ?_ p4)⟩
      by_cases h0 : L = []
      · subst h0
        have : n = 0 := by simpa using hn.symm
        subst this
        exact .sl0 _ _ _ _
      · have hn0 : 0 < n := by
          rw [← hn]
          exact List.length_pos_iff.2 h0
        obtain ⟨q1, q2, q3⟩ := hg.root r _ g hr p1
        rcases p5 with p5 | ⟨b, p5, p6, p7⟩
        · omega
        subst p6
        have hmem : ∀ e ∈ L, e ∈ l := fun e he => by rw [← hL] at he; exact List.mem_of_mem_drop (List.mem_of_mem_take he)
        have hlen : ∀ e ∈ L, e.length = s := fun e he => q2 e (hmem e he)
        rcases q3 with ⟨q3, q4, _⟩ | ⟨b', cs, T, u1, u2, u3, u4, u5⟩
        · rw [q3] at p5; cases p5
        rw [p5] at u1
        cases u1
        obtain ⟨cv, Fc, w1, w2, w3, w4, w5⟩ := u5
        have hln : o + n ≤ l.length := by
          have := congrArg List.length hL
          rw [hn] at this
          simp only [List.length_take, List.length_drop] at this
          omega
        have hfl : ∀ j, j < L.flatten.length → L.flatten[j]? = l.flatten[o * s + j]? := by
          intro j hj
          rw [flat_length _ _ hlen, hn] at hj
          have hsp : 0 < s := by
            rcases Nat.eq_zero_or_pos s with h | h
            · subst h; simp at hj
            · exact h
          have hdiv : j / s < n := by rw [Nat.div_lt_iff_lt_mul hsp]; exact hj
          have hmod := Nat.mod_lt j hsp
          have e1 : L[j / s]? = l[o + j / s]? := by rw [← hL, List.getElem?_take, if_pos hdiv, List.getElem?_drop]
          have e2 : l[o + j / s]? = some l[o + j / s] := List.getElem?_eq_getElem (by omega)
          have f1 := flat_get _ _ hlen _ _ (e1.trans e2) _ hmod
          have f2 := flat_get _ _ q2 _ _ e2 _ hmod
          rw [Nat.div_add_mod'] at f1
          rw [f1, ← f2]
          congr 1
          rw [Nat.add_mul, Nat.add_assoc, Nat.div_add_mod']
        have hfll : ∀ j, j < L.flatten.length → o * s + j < l.flatten.length := by
          intro j hj
          rw [flat_length _ _ hlen, hn] at hj
          rw [flat_length _ _ q2]
          calc o * s + j < o * s + n * s := by omega
            _ = (o + n) * s := by rw [Nat.add_mul]
            _ ≤ l.length * s := Nat.mul_le_mul_right _ hln
        rw [← hn]
        refine .sl _ s L b (o * g.s) c cs T (0, 0) (fun j => cv (o * s + j)) (.inl (.inr ⟨r, List.mem_cons_self, (w5 b).2 (.inl rfl)⟩)) u2 hlen (by omega) (fun j hj => by rw [q1]; exact w1 _ (hfll j hj)) (fun j y hj => ?_)
        have hjl := (List.getElem?_eq_some_iff.1 hj).1
        have hjl2 := hfll j hjl
        obtain ⟨e, he, hy⟩ := List.mem_flatten.1 (List.mem_of_getElem? hj)
        rw [hfl j hjl] at hj
        exact ((w2 _ _ hj).or (Ro2 := fun _ => False) (hs e he y hy)).ir (fun k hk => .inr ⟨r, List.mem_cons_self, (w5 k).2 (.inr ⟨_, hjl2, hk⟩)⟩)
    | _ => exact hp2.elim
  · rename_i r o n
    obtain ⟨rt, hr, hp2⟩ := rootK_spec hp
    cases rt with
    | box cells =>
      obtain ⟨hle, hp3⟩ := cutK_spec _ _ _ _ hp2
      split at hp3
      · rename_i hs
        have hs := List.all_eq_true.1 hs
        obtain ⟨b, g, c, p1, p2, p3, p4⟩ := hv.bsl_inv
        subst p4
        obtain ⟨b', cs, T, u1, u2, u3, cv, Fc, w1, w2, w3, w4, w5⟩ := hg.root r _ g hr p1
        rw [p2] at u1; cases u1
        have hnl : ((cells.drop o).take n).length = n := by simp; omega
        have hflat : (((cells.drop o).take n).map fun c => [c]).flatten = (cells.drop o).take n := by
          generalize (cells.drop o).take n = q
          induction q with
          | nil => rfl
          | cons a q ih => simp [ih]
        refine ⟨_, r :: R, hp3, fun _ h => List.mem_cons_of_mem _ h, fun G2 => .ir _ _ rfl (.imm _ _ _ _ _ _ n c (by simp) ?_ (by simp))⟩
        have := IR.sl (w := w) (Ro := RoL E F (r :: R)) (S := S) false 1 (((cells.drop o).take n).map fun c => [c]) b o c cs T (0, 0) (fun j => cv (o + j)) (.inl (.inr ⟨r, List.mem_cons_self, (w5 b).2 (.inl rfl)⟩)) u2 (fun e he => by obtain ⟨c, _, rfl⟩ := List.mem_map.1 he; rfl)
          (by rw [List.length_map, hnl]; exact p3) (fun j hj => by rw [hflat, hnl] at hj; exact w1 _ (by omega)) (fun j y hj => by
            rw [hflat] at hj
            have hjl := (List.getElem?_eq_some_iff.1 hj).1
            have hm := List.mem_of_getElem? hj
            rw [hnl] at hjl
            rw [List.getElem?_take, if_pos hjl, List.getElem?_drop] at hj
            exact ((w2 _ _ hj).or (Ro2 := fun _ => False) (hs y hm)).ir (fun k hk => .inr ⟨r, List.mem_cons_self, (w5 k).2 (.inr ⟨_, by omega, hk⟩)⟩))
        rwa [List.length_map, hnl] at this
      · exact hp3.elim
    | _ => exact hp2.elim
  · rename_i r n
    obtain ⟨rt, hr, hp2⟩ := rootK_spec hp
    cases rt with
    | box cells =>
      simp only at hp2
      split at hp2
      · rename_i hs
        have hs := List.all_eq_true.1 hs
        obtain ⟨b, g, p1, p2, p3⟩ := hv.ptr_inv
        subst p3
        obtain ⟨b', cs, T, u1, u2, u3, cv, Fc, w1, w2, w3, w4, w5⟩ := hg.root r _ g hr p1
        rw [p2] at u1; cases u1
        refine ⟨_, r :: R, hp2, fun _ h => List.mem_cons_of_mem _ h, fun G2 => .ir _ _ rfl ?_⟩
        rw [Nat.zero_mul, Nat.zero_add]
        exact .iptr _ _ cells b 0 cs T (0, 0) cv (by simp) (.inl (.inr ⟨r, List.mem_cons_self, (w5 b).2 (.inl rfl)⟩)) u2 (fun j hj => by rw [Nat.zero_add]; exact w1 j hj) (fun j y hj =>
          ((w2 _ _ hj).or (Ro2 := fun _ => False) (hs y (List.mem_of_getElem? hj))).ir (fun k hk => .inr ⟨r, List.mem_cons_self, (w5 k).2 (.inr ⟨_, (List.getElem?_eq_some_iff.1 hj).1, hk⟩)⟩))
      · exact hp2.elim
    | _ => exact hp2.elim
  · split at hp
    · rename_i hs
      exact ⟨x, R, hp, fun _ h => h, fun G2 => hv.pure1 (fun _ h => .inl h) hs⟩
    · exact hp.elim

theorem lendRs_spec {h : HP} {S : BS} {F : Nat → BS} (hg : Good E G h w S F) (all : Bool) {G2 : List Gh} : ∀ (l : List AV) (ms : List Md) (vs : List Value) {R : List Nat} {k : List AV → List Nat → Prop},
    (∀ (j : Nat) x, l[j]? = some x → (all = false → ms[j]? = some .rw → VR G2 w E.Ro S x (vs.getD j undef)) ∧ (all = true ∨ ms[j]? ≠ some .rw → VR G w E.Ro S x (vs.getD j undef))) → lendRs ms all l R h k →
    ∃ y R', k y R' ∧ (∀ r ∈ R, r ∈ R') ∧ y.length = l.length ∧ ∀ (j : Nat) x, y[j]? = some x → VR G2 w (RoL E F R') S x (vs.getD j undef)
  | [], ms, vs, R, k, hv, hp => ⟨[], R, hp, fun _ h => h, rfl, by simp⟩
  | x :: l, ms, vs, R, k, hv, hp => by
    have tld : ∀ j, vs.tail.getD j undef = vs.getD (j + 1) undef := fun j => by cases vs <;> simp
    have read : ∀ ms' : List Md, (∀ j, ms[j + 1]? = ms'[j]?) → VR G w E.Ro S x (vs.getD 0 undef) → (lendR1 x R h fun y R => lendRs ms' all l R h fun l R => k (y :: l) R) → ∃ y R', k y R' ∧ (∀ r ∈ R, r ∈ R') ∧ y.length = (x :: l).length ∧ ∀ (j : Nat) x, y[j]? = some x → VR G2 w (RoL E F R') S x (vs.getD j undef) := by
      intro ms' hms hx hp
      obtain ⟨y0, R1, a1, a2, a3⟩ := lendR1_spec hg hx hp
      obtain ⟨y, R2, b1, b2, b3, b4⟩ := lendRs_spec hg all l ms' vs.tail (fun j z hj => by have := hv (j + 1) z (by simpa using hj); rwa [hms, ← tld] at this) a1
      refine ⟨y0 :: y, R2, b1, fun r hr => b2 r (a2 r hr), by simp [b3], fun j z hj => ?_⟩
      cases j with
      | zero => simp at hj; subst hj; exact (a3 G2).ro (RoL.mono b2)
      | succ j => have := b4 j z (by simpa using hj); rwa [tld] at this
    simp only [lendRs] at hp
    split at hp
    · rename_i ms'
      have hx := (hv 0 x rfl).1 rfl rfl
      obtain ⟨y, R2, b1, b2, b3, b4⟩ := lendRs_spec hg false l ms' vs.tail (fun j z hj => by have := hv (j + 1) z (by simpa using hj); rw [tld]; simpa using this) hp
      refine ⟨x :: y, R2, b1, b2, by simp [b3], fun j z hj => ?_⟩
      cases j with
      | zero => simp at hj; subst hj; exact hx.ro (fun _ h => .inl h)
      | succ j => have := b4 j z (by simpa using hj); rwa [tld] at this
    · rename_i hne
      refine read ms.tail (fun j => by cases ms <;> simp) ((hv 0 x rfl).2 ?_) hp
      cases all with
      | true => exact .inl rfl
      | false =>
        refine .inr fun h0 => ?_
        cases ms with
        | nil => simp at h0
        | cons m ms => simp at h0; subst h0; exact hne ms rfl rfl

theorem lendR_spec {h : HP} {S : BS} {F : Nat → BS} (hg : Good E G h w S F) {ρ : List Nat} {m : Md} {x : AV} {v : Value} {R : List Nat} {k : AV → List Nat → Prop} (hv : LA E G w S ρ m x v) (hp : lendR m x R h k) :
    ∃ y R', k y R' ∧ (∀ r ∈ R, r ∈ R') ∧ VR (ghs G ρ) w (RoL E F R') S y v := by
  have one : VR G w E.Ro S x v → lendR1 x R h k → ∃ y R', k y R' ∧ (∀ r ∈ R, r ∈ R') ∧ VR (ghs G ρ) w (RoL E F R') S y v := fun h1 h2 => by
    obtain ⟨y, R', a1, a2, a3⟩ := lendR1_spec hg h1 h2
    exact ⟨y, R', a1, a2, a3 _⟩
  cases m with
  | rw => exact ⟨x, R, hp, fun _ h => h, (hv _ (mt_ghs G ρ)).ro (fun _ h => .inl h)⟩
  | ro =>
    cases x
    case agg l =>
      obtain ⟨vs, rfl, h1, h2, h3⟩ := VR.agg_inv hv
      obtain ⟨y, R', b1, b2, b3, b4⟩ := lendRs_spec hg true (G2 := ghs G ρ) l [] vs (fun j z hj => ⟨fun h => (by cases h), fun _ => h3 j z hj⟩) hp
      exact ⟨_, R', b1, b2, .agg y vs (b3.trans h1) h2 b4⟩
    all_goals exact one hv hp
  | ag ms =>
    cases x
    case agg l =>
      obtain ⟨vs, rfl, h1, h2, h3⟩ := hv
      obtain ⟨y, R', b1, b2, b3, b4⟩ := lendRs_spec hg false (G2 := ghs G ρ) l ms vs (fun j z hj => ⟨fun _ hm => (h3 j z hj).1 hm _ (mt_ghs G ρ), fun hm => (h3 j z hj).2 (hm.elim (fun h => (by cases h)) id)⟩) hp
      exact ⟨_, R', b1, b2, .agg y vs (b3.trans h1) h2 b4⟩
    all_goals exact one hv hp

theorem lendRL_spec {h : HP} {S : BS} {F : Nat → BS} (hg : Good E G h w S F) {ρ : List Nat} : ∀ (l : List AV) (ms : List Md) (vs : List Value) {R : List Nat} {k : List AV → List Nat → Prop},
    (∀ (j : Nat) x, l[j]? = some x → LA E G w S ρ (ms.getD j .ro) x (vs.getD j undef)) → lendRL ms l R h k →
    ∃ y R', k y R' ∧ (∀ r ∈ R, r ∈ R') ∧ y.length = l.length ∧ ∀ (j : Nat) x, y[j]? = some x → VR (ghs G ρ) w (RoL E F R') S x (vs.getD j undef)
  | [], ms, vs, R, k, hv, hp => ⟨[], R, hp, fun _ h => h, rfl, by simp⟩
  | x :: l, ms, vs, R, k, hv, hp => by
    have tld : ∀ j, vs.tail.getD j undef = vs.getD (j + 1) undef := fun j => by cases vs <;> simp
    have go : ∀ (m : Md) (ms' : List Md), ms.getD 0 .ro = m → (∀ j, ms.getD (j + 1) .ro = ms'.getD j .ro) → (lendR m x R h fun y R => lendRL ms' l R h fun l R => k (y :: l) R) → ∃ y R', k y R' ∧ (∀ r ∈ R, r ∈ R') ∧ y.length = (x :: l).length ∧ ∀ (j : Nat) x, y[j]? = some x → VR (ghs G ρ) w (RoL E F R') S x (vs.getD j undef) := by
      intro m ms' hm hms hp
      have hx := hv 0 x rfl
      rw [hm] at hx
      obtain ⟨y0, R1, a1, a2, a3⟩ := lendR_spec hg hx hp
      obtain ⟨y, R2, b1, b2, b3, b4⟩ := lendRL_spec hg l ms' vs.tail (fun j z hj => by have := hv (j + 1) z (by simpa using hj); rwa [hms, ← tld] at this) a1
      refine ⟨y0 :: y, R2, b1, fun r hr => b2 r (a2 r hr), by simp [b3], fun j z hj => ?_⟩
      cases j with
      | zero => simp at hj; subst hj; exact a3.ro (RoL.mono b2)
      | succ j => have := b4 j z (by simpa using hj); rwa [tld] at this
    cases ms with
    | cons m ms => exact go m ms rfl (fun j => rfl) hp
    | nil => exact go .ro [] rfl (fun j => rfl) hp

/-! ### Giving back -/

/-- Roots that are to be put back, or are new. -/
structure Pend (E : Env) (w : World) (S : BS) (F : Nat → BS) (hs : HP) (gs : List Gh) (Ft : Nat → BS) : Prop where
  root : ∀ (j : Nat) rt, hs[j]? = some rt → ∃ g, gs[j]? = some g ∧ ∀ G2, RootR G2 w E.Ro S rt g (Ft j)
  dis : ∀ i j k, Ft i k → Ft j k → i = j
  ap : ∀ j, Apart E w S F (Ft j)
theorem Pend.tail {S F rt hs g gs Ft} (p : Pend E w S F (rt :: hs) (g :: gs) Ft) {F' : Nat → BS} (hF : ∀ r k, F' r k → F r k ∨ Ft 0 k) : Pend E w S F' hs gs (fun j => Ft (j + 1)) :=
  ⟨fun j rt hj => by simpa using p.root (j + 1) rt (by simpa using hj), fun i j k h1 h2 => by have := p.dis _ _ k h1 h2; omega,
    fun j => ⟨(p.ap (j + 1)).1, fun r k hr hk => (hF r k hr).elim (fun h => (p.ap (j + 1)).2 r k h hk) (fun h => by have := p.dis _ _ k h hk; omega)⟩⟩

theorem putB_spec : ∀ (ρ : List Nat) (hs h : HP) (gs : List Gh) {S : BS} {F Ft : Nat → BS} {k : HP → HP → Prop}, Good E G h w S F → Pend E w S F hs gs Ft → (∀ (j r : Nat) g, ρ[j]? = some r → gs[j]? = some g → G[r]? = some g) → putB ρ hs h k →
    ∃ hs' h' F' Ft', k hs' h' ∧ hs = hs.take ρ.length ++ hs' ∧ ρ.length ≤ hs.length ∧ Good E G h' w S F' ∧ Pend E w S F' hs' (gs.drop ρ.length) Ft'
  | [], hs, h, gs, S, F, Ft, k, hg, hP, hG, hp => ⟨hs, h, F, Ft, hp, by simp, by simp, hg, by simpa using hP⟩
  | r :: ρ, [], h, gs, S, F, Ft, k, hg, hP, hG, hp => hp.elim
  | r :: ρ, rt :: hs, h, gs, S, F, Ft, k, hg, hP, hG, hp => by
    simp only [putB, setK_eq] at hp
    obtain ⟨g, hg0, hroot⟩ := hP.root 0 rt rfl
    cases gs with
    | nil => simp at hg0
    | cons g' gs =>
      simp at hg0
      subst hg0
      have hgr := hG 0 r g' rfl rfl
      have hrl : r < h.length := by rw [← hg.len]; exact (List.getElem?_eq_some_iff.1 hgr).1
      have hg2 := hg.setRoot' hrl hgr (Chg.refl w _) (hroot G) (fun i k hi h1 h2 => (hP.ap 0).2 i k h1 h2) (fun k hk => (hP.ap 0).1 k hk)
      obtain ⟨hs', h', F', Ft', a1, a2, a3, a4, a5⟩ := putB_spec ρ hs _ gs hg2 (hP.tail (fun i k hk => by
        by_cases hi : i = r
        · simp only [hi, if_true] at hk; exact .inr hk
        · simp only [hi, if_false] at hk; exact .inl hk)) (fun j r g h1 h2 => hG (j + 1) r g (by simpa using h1) (by simpa using h2)) hp
      exact ⟨hs', h', F', Ft', a1, by simp only [List.length_cons, List.take_succ_cons, List.cons_append]; rw [← a2], by simp; omega, a4, by simpa using a5⟩

theorem newsK_spec : ∀ (hs : HP) (μ : List Nat) (h : HP) (gs G : List Gh) {S : BS} {F Ft : Nat → BS} {k : List Nat → HP → Prop}, Good E G h w S F → Pend E w S F hs gs Ft → newsK hs μ h k →
    ∃ μ' h' G' F', k (μ ++ μ') h' ∧ Good E G' h' w S F' ∧ (∀ (r : Nat) g, G[r]? = some g → G'[r]? = some g) ∧ μ'.length = hs.length ∧ ∀ (j : Nat) g, j < hs.length → gs[j]? = some g → ∃ r, μ'[j]? = some r ∧ G'[r]? = some g
  | [], μ, h, gs, G, S, F, Ft, k, hg, hP, hp => ⟨[], h, G, F, by simpa [newsK] using hp, hg, fun _ _ h => h, rfl, by simp⟩
  | rt :: hs, μ, h, gs, G, S, F, Ft, k, hg, hP, hp => by
    simp only [newsK] at hp
    have hp1 := newK_spec hp
    rw [snocK_eq] at hp1
    obtain ⟨g, hg0, hroot⟩ := hP.root 0 rt rfl
    cases gs with
    | nil => simp at hg0
    | cons g' gs =>
      simp at hg0
      subst hg0
      have hg2 := hg.addRoot g' rt (Ft 0) (hroot _) (fun r k hr hk => (hP.ap 0).2 r k hr hk) (fun k hk => (hP.ap 0).1 k hk)
      obtain ⟨μ', h', G', F', a1, a2, a3, a4, a5⟩ := newsK_spec hs (μ ++ [h.length]) _ gs _ hg2 (hP.tail (fun i k hk => by
        by_cases hi : i = h.length
        · simp only [hi, if_true] at hk; exact .inr hk
        · simp only [hi, if_false] at hk; exact .inl hk)) hp1
      refine ⟨h.length :: μ', h', G', F', by simpa using a1, a2, fun r g hr => a3 r g (pre_append G g' r g hr), by simp [a4], fun j q hj hq => ?_⟩
      cases j with
      | zero => simp at hq; subst hq; exact ⟨h.length, rfl, a3 _ _ (by rw [List.getElem?_append_right (by rw [hg.len]; exact Nat.le_refl _)]; simp [hg.len])⟩
      | succ j => simpa using a5 j q (by simpa using hj) (by simpa using hq)

/-- Roots' numbers turned into others. -/
def Rn (μ : List Nat) (G2 G3 : List Gh) : Prop := ∀ (j : Nat) g, G2[j]? = some g → ∃ r, μ[j]? = some r ∧ G3[r]? = some g
theorem getN_spec : ∀ (μ : List Nat) (j : Nat) (k : Nat → Prop), getN μ j k → ∃ r, μ[j]? = some r ∧ k r
  | [], j, k, h => by simp [getN] at h
  | a :: l, 0, k, h => ⟨a, rfl, h⟩
  | a :: l, j + 1, k, h => by simpa using getN_spec l j k (by simpa [getN] using h)

theorem ren0_spec {μ : List Nat} {G2 G3 : List Gh} {Ro S : BS} (hR : Rn μ G2 G3) {x : AV} {v : Value} {k : AV → Prop} (hv : VR G2 w Ro S x v) (hp : ren0 μ x k) : ∃ y, k y ∧ VR G3 w Ro S y v := by
  have pure : x.pure1 = true → k x → ∃ y, k y ∧ VR G3 w Ro S y v := fun h1 h2 => ⟨x, h2, hv.pure1 (fun _ h => h) h1⟩
  have get : ∀ (j : Nat) g, G2[j]? = some g → ∀ f : Nat → AV, (getN μ j fun r => k (f r)) → ∃ r, k (f r) ∧ G3[r]? = some g := fun j g hj f h => by
    obtain ⟨r, h1, h2⟩ := getN_spec _ _ _ h
    obtain ⟨r', h3, h4⟩ := hR j g hj
    rw [h1] at h3; cases h3
    exact ⟨r, h2, h4⟩
  cases x <;> simp only [ren0] at hp
  case ptr j i o n =>
    obtain ⟨b, g, h1, h2, rfl⟩ := hv.ptr_inv
    obtain ⟨r, h3, h4⟩ := get j g h1 (fun r => .ptr r i o n) hp
    exact ⟨_, h3, .ptr r i o n b g h4 h2⟩
  case aptr j o q =>
    obtain ⟨b, g, h1, h2, rfl⟩ := hv.aptr_inv
    obtain ⟨r, h3, h4⟩ := get j g h1 (fun r => .aptr r o q) hp
    exact ⟨_, h3, .aptr r o q b g h4 h2⟩
  case slc j o n z =>
    obtain ⟨g, a, c, h1, rfl, h5, h6, h7⟩ := hv.slc_inv
    obtain ⟨r, h3, h4⟩ := get j g h1 (fun r => .slc r o n z) hp
    exact ⟨_, h3, .slc r o n z g a c h4 h5 h6 h7⟩
  case bsl j o n =>
    obtain ⟨b, g, c, h1, h2, h5, rfl⟩ := hv.bsl_inv
    obtain ⟨r, h3, h4⟩ := get j g h1 (fun r => .bsl r o n) hp
    exact ⟨_, h3, .bsl r o n b c g h4 h2 h5⟩
  case mapr j =>
    obtain ⟨b, g, h1, h2, rfl⟩ := hv.mapr_inv
    obtain ⟨r, h3, h4⟩ := get j g h1 (fun r => .mapr r) hp
    exact ⟨_, h3, .mapr r b g h4 h2⟩
  case pan x => exact hv.pan_inv.elim
  all_goals
    split at hp
    · exact pure (by assumption) hp
    · exact hp.elim
theorem renL_spec {G2 G3 : List Gh} {Ro S : BS} {f : AV → (AV → Prop) → Prop} (hf : ∀ {x : AV} {v : Value} {k : AV → Prop}, VR G2 w Ro S x v → f x k → ∃ y, k y ∧ VR G3 w Ro S y v) : ∀ (l : List AV) (vs : List Value) {k : List AV → Prop},
    (∀ (j : Nat) x, l[j]? = some x → VR G2 w Ro S x (vs.getD j undef)) → mapK f l k → ∃ y, k y ∧ y.length = l.length ∧ ∀ (j : Nat) x, y[j]? = some x → VR G3 w Ro S x (vs.getD j undef)
  | [], vs, k, hv, hp => ⟨[], hp, rfl, by simp⟩
  | x :: l, vs, k, hv, hp => by
    obtain ⟨y0, a1, a2⟩ := hf (hv 0 x rfl) hp
    obtain ⟨y, b1, b2, b3⟩ := renL_spec hf l vs.tail (fun j z hj => by
      have := hv (j + 1) z (by simpa using hj)
      cases vs <;> simpa using this) a1
    refine ⟨y0 :: y, b1, by simp [b2], fun j z hj => ?_⟩
    cases j with
    | zero => simp at hj; subst hj; exact a2
    | succ j =>
      have := b3 j z (by simpa using hj)
      cases vs <;> simpa using this
theorem ren1_spec {μ : List Nat} {G2 G3 : List Gh} {Ro S : BS} (hR : Rn μ G2 G3) {x : AV} {v : Value} {k : AV → Prop} (hv : VR G2 w Ro S x v) (hp : ren1 μ x k) : ∃ y, k y ∧ VR G3 w Ro S y v := by
  cases x
  case fn f caps =>
    obtain ⟨vs, rfl, h1, h2⟩ := hv.fn_inv
    obtain ⟨y, a1, a2, a3⟩ := renL_spec (f := ren0 μ) (fun hv hp => ren0_spec hR hv hp) caps vs h2 hp
    exact ⟨_, a1, .fn f y vs (a2.trans h1) a3⟩
  all_goals exact ren0_spec hR hv hp
theorem ren2_spec {μ : List Nat} {G2 G3 : List Gh} {Ro S : BS} (hR : Rn μ G2 G3) {x : AV} {v : Value} {k : AV → Prop} (hv : VR G2 w Ro S x v) (hp : ren2 μ x k) : ∃ y, k y ∧ VR G3 w Ro S y v := by
  cases x
  case agg l =>
    obtain ⟨vs, rfl, h1, h2, h3⟩ := hv.agg_inv
    obtain ⟨y, a1, a2, a3⟩ := renL_spec (f := ren1 μ) (fun hv hp => ren1_spec hR hv hp) l vs h3 hp
    exact ⟨_, a1, .agg y vs (a2.trans h1) h2 a3⟩
  all_goals exact ren1_spec hR hv hp
theorem ren3_spec {μ : List Nat} {G2 G3 : List Gh} {Ro S : BS} (hR : Rn μ G2 G3) {x : AV} {v : Value} {k : AV → Prop} (hv : VR G2 w Ro S x v) (hp : ren3 μ x k) : ∃ y, k y ∧ VR G3 w Ro S y v := by
  cases x
  case tup l =>
    obtain ⟨vs, rfl, h1, h3⟩ := hv.tup_inv
    obtain ⟨y, a1, a2, a3⟩ := renL_spec (f := ren2 μ) (fun hv hp => ren2_spec hR hv hp) l vs h3 hp
    exact ⟨_, a1, .tup y vs (a2.trans h1) a3⟩
  all_goals exact ren2_spec hR hv hp
end

theorem RootR.roMono {G : List Gh} {w : World} {Ro Ro2 S : BS} (hr : ∀ k, Ro k → Ro2 k) {rt g F} (h : RootR G w Ro S rt g F) : RootR G w Ro2 S rt g F := by
  have hc : ∀ {x v F}, CR G w Ro S x v F → CR G w Ro2 S x v F := fun h => h.imp (fun ⟨h1, h2, h3⟩ => ⟨h1, h2.ro hr, h3⟩) (fun h => h.ro)
  cases rt with
  | box cells =>
    obtain ⟨b, cs, T, h1, h2, h3, h4⟩ := h
    exact ⟨b, cs, T, h1, h2, h3, h4.map fun x hx v F h => hc h⟩
  | lst s l =>
    obtain ⟨h1, h2, h3⟩ := h
    exact ⟨h1, h2, h3.imp id fun ⟨b, cs, T, q1, q2, q3, q4, q5⟩ => ⟨b, cs, T, q1, q2, q3, q4, q5.map fun x hx v F h => hc h⟩⟩
  | mp t l => exact h
  | dead => exact h

/-! ### The call -/

theorem callM_sound {P : Program} {C : Ctx} (hC : CtxOk P C) (hm : P.follows .mixedOrders = true) {f : FuncId} {fn : Func} (hf : P.funcs[f]? = some fn) (hb : fn.body.isSome = true) {ms : List Md} {st : Bool} {H : CH}
    (hH : ∀ args hl K, H args hl K → bodyM C st fn.ntmps fn.results.toList (fn.body.getD .skip) args hl K) : HSound P f (callM ms st H) := by
  intro E G S F h w args0 vs K hg hl0 hv0 hp0
  obtain ⟨args1, ρ, hs, h1, S1, F1, Ft, hp1, st1, T1, hl1, hv1⟩ := lendWL_spec args0 ms vs hg Tk.nil hv0 hp0
  rw [List.nil_append] at hp1 T1 hv1
  obtain ⟨args, R, hp2, _, hl2, hv2⟩ := lendRL_spec st1.good args1 ms vs hv1 hp1
  have hRst : (R = [] ∨ st = true) ∧ H args hs fun y hs => giveR y ρ hs h1 K := by
    cases st with
    | true => exact ⟨.inr rfl, hp2⟩
    | false =>
      cases R with
      | nil => exact ⟨.inl rfl, hp2⟩
      | cons _ _ => exact hp2.elim
  clear hp2
  obtain ⟨hRs, hHK⟩ := hRst
  have hp := hH _ _ _ hHK
  have hl : args.length = vs.length := (hl2.trans hl1).trans hl0
  have hb' : fn.body = some (fn.body.getD .skip) := by cases h : fn.body with | none => simp [h] at hb | some c => rfl
  generalize fn.body.getD .skip = c at hb' hp
  unfold bodyM at hp
  rw [topsK_eq, appK_eq] at hp
  have hg1 := st1.good
  refine calls_of_wp hf hb' ?_
  -- the callee's surroundings
  let E' : Env := ⟨w, fun k => ∃ j, Ft j k, S1, RoL E F1 R, w, ghs G ρ⟩
  have hO : ∀ k, (∃ j, Ft j k) → k < w.heap.size ∧ (E.O k ∨ E.w0.heap.size ≤ k) ∧ ¬ S1 k := fun k ⟨j, hj⟩ => (T1.ap j).1 k hj
  have hRo : ∀ k, RoL E F1 R k → k < w.heap.size ∧ ¬ ∃ j, Ft j k := by
    rintro k (hk | ⟨r, hr, hk⟩)
    · refine ⟨hg1.ro_lt hk, fun ⟨j, hj⟩ => ?_⟩
      rcases ((T1.ap j).1 k hj).2.1 with h | h
      · exact (hg1.rok k hk).2 h
      · have := (hg1.rok k hk).1; omega
    · exact ⟨(hg1.own r k hk).1, fun ⟨j, hj⟩ => (T1.ap j).2 r k hk hj⟩
  have g0 : Good E' (ghs G ρ) hs w S1 Ft := by
    refine ⟨by simp [ghs, T1.len], fun r rt g q1 q2 => ?_, T1.dis, T1.out, fun r k hk => ⟨((T1.ap r).1 k hk).1, .inl ⟨r, hk⟩, ((T1.ap r).1 k hk).2.2⟩, hg1.sb, fun _ h => h, fun _ h => .inl h, Nat.le_refl _, rfl, rfl, rfl, fun _ _ _ => rfl, hRo, fun _ _ h => h, fun _ _ => rfl⟩
    have hr : r < ρ.length := by rw [T1.len]; exact (List.getElem?_eq_some_iff.1 q1).1
    obtain ⟨g', p1, p2⟩ := T1.root r ρ[r] rt (List.getElem?_eq_getElem hr) q1
    have := mt_ghs G ρ r ρ[r] g' (List.getElem?_eq_getElem hr) p1
    rw [q2] at this; cases this
    exact (p2.1 _).roMono (fun _ h => .inl h)
  have fin0 : ∀ {G3 S5 F5 h5 w' y ρ' hs5 Ft5}, Good E' G3 h5 w' S5 F5 → Tk E' st G3 w' S5 F5 (List.range' 0 hs.length ++ ρ') hs5 Ft5 → giveR y ρ hs5 h1 K →
      ∃ G7 F7 h7 μ, (ren3 μ y fun y => K y h7) ∧ Good E G7 h7 w' S5 F7 ∧ Ext E G w S G7 w' S5 ∧ Rn μ (ghs G3 (List.range' 0 hs.length ++ ρ')) G7 := by
    intro G3 S5 F5 h5 w' y ρ' hs5 Ft5 b T5 hgive
    have same : ∀ k, k < w.heap.size → (¬ ∃ j, Ft j k) → w'.heap[k]? = w.heap[k]? := fun k h1 h2 => b.fr k h1 h2
    have hsn : ∀ k, S5 k → S1 k ∨ (∃ j, Ft j k) ∨ w.heap.size ≤ k := b.sn
    have hF1 : ∀ r k, F1 r k → k < w.heap.size ∧ ¬ ∃ j, Ft j k := fun r k hk => ⟨(hg1.own r k hk).1, fun ⟨j, hj⟩ => (T1.ap j).2 r k hk hj⟩
    have hsz : w.heap.size ≤ w'.heap.size := b.size
    have hss : ∀ k, S1 k → w'.heap[k]? = w.heap[k]? := b.sf
    have hro : ∀ k, E.Ro k → w'.heap[k]? = w.heap[k]? := fun k hk => same k (hRo k (.inl hk)).1 (hRo k (.inl hk)).2
    have e1 : Ext E G w S1 G w' S5 := ⟨fun _ _ h => h, b.s0, hss, hro⟩
    have gc : Good E G h1 w' S5 F1 := by
      constructor
      · exact hg1.len
      · exact fun i rt g h1 h2 => (hg1.root i rt g h1 h2).ext e1 (fun k hk => same k (hF1 i k hk).1 (hF1 i k hk).2)
      · exact hg1.dis
      · exact hg1.out
      · intro r k hk
        have := hg1.own r k hk
        refine ⟨Nat.lt_of_lt_of_le this.1 hsz, this.2.1, fun hs => ?_⟩
        rcases hsn k hs with q | q | q
        · exact this.2.2 q
        · exact (hF1 r k hk).2 q
        · have := (hF1 r k hk).1; omega
      · exact b.sb
      · exact fun k hk => b.s0 k (hg1.s0 k hk)
      · intro k hk
        rcases hsn k hk with q | q | q
        · exact hg1.sn k q
        · exact .inr (hO k q).2.1
        · exact .inr (.inr (Nat.le_trans hg1.size q))
      · exact Nat.le_trans hg1.size hsz
      · exact b.os.trans hg1.os
      · exact b.tape.trans hg1.tape
      · exact b.output.trans hg1.output
      · intro k h1 h2
        refine (same k (Nat.lt_of_lt_of_le h1 hg1.size) (fun hj => ?_)).trans (hg1.fr k h1 h2)
        rcases (hO k hj).2.1 with q | q
        · exact h2 q
        · omega
      · exact hg1.rok
      · exact hg1.gp
      · exact fun k hk => (hss k (hg1.s0 k hk)).trans (hg1.sf k hk)
    have hP : Pend E w' S5 F1 hs5 (ghs G3 (List.range' 0 hs.length ++ ρ')) Ft5 := by
      refine ⟨fun j rt hj => ?_, T5.dis, fun j => ⟨fun k hk => ?_, fun r k hr hk => ?_⟩⟩
      · have hjl : j < (List.range' 0 hs.length ++ ρ').length := by rw [T5.len]; exact (List.getElem?_eq_some_iff.1 hj).1
        obtain ⟨g, q1, q2⟩ := T5.root j _ rt (List.getElem?_eq_getElem hjl) hj
        refine ⟨g, mt_ghs G3 _ j _ g (List.getElem?_eq_getElem hjl) q1, fun G2 => ?_⟩
        rcases hRs with rfl | hst
        · exact (q2.1 G2).roMono (fun k hk => hk.elim id fun ⟨r, hr, _⟩ => by cases hr)
        · exact q2.2 hst G2 _
      · have q := (T5.ap j).1 k hk
        refine ⟨q.1, ?_, q.2.2⟩
        rcases q.2.1 with q | q
        · exact (hO k q).2.1
        · exact .inr (Nat.le_trans hg1.size q)
      · rcases ((T5.ap j).1 k hk).2.1 with q | q
        · exact (hF1 r k hr).2 q
        · have := (hF1 r k hr).1
          have q : w.heap.size ≤ k := q
          omega
    have hgh : ∀ (j r : Nat) g, ρ[j]? = some r → (ghs G3 (List.range' 0 hs.length ++ ρ'))[j]? = some g → G[r]? = some g := by
      intro j r g hj hg'
      have hjl : j < hs.length := by rw [← T1.len]; exact (List.getElem?_eq_some_iff.1 hj).1
      obtain ⟨g0, q1, _⟩ := T1.root j r hs[j] hj (List.getElem?_eq_getElem hjl)
      have h3 : G3[j]? = some g0 := b.gp j g0 (mt_ghs G ρ j r g0 hj q1)
      have h4 := mt_ghs G3 (List.range' 0 hs.length ++ ρ') j j g0 (by rw [List.getElem?_append_left (by simpa using hjl), List.getElem?_range' hjl]; simp) h3
      rw [hg'] at h4
      cases h4
      exact q1
    unfold giveR at hgive
    obtain ⟨hs6, h6, F6, Ft6, a1, a2, a3, a4, a5⟩ := putB_spec ρ hs5 h1 _ gc hP hgh hgive
    obtain ⟨μ', h7, G7, F7, c1, c2, c3, c4, c5⟩ := newsK_spec hs6 ρ h6 _ G a4 a5 a1
    refine ⟨G7, F7, h7, ρ ++ μ', c1, c2, ⟨c3, fun k hk => b.s0 k (st1.s k hk), fun k hk => hss k (st1.s k hk), hro⟩, fun j g hj => ?_⟩
    by_cases hjm : j < ρ.length
    · refine ⟨ρ[j], by rw [List.getElem?_append_left hjm]; exact List.getElem?_eq_getElem hjm, c3 _ _ (hgh j _ g (List.getElem?_eq_getElem hjm) hj)⟩
    · have hjl : j < hs5.length := by
        have := (List.getElem?_eq_some_iff.1 hj).1
        simp only [ghs, List.length_map] at this
        rw [T5.len] at this; exact this
      have h6l : hs5.length = ρ.length + hs6.length := by
        have := congrArg List.length a2
        rw [List.length_append, List.length_take, Nat.min_eq_left a3] at this
        exact this
      obtain ⟨r, q1, q2⟩ := c5 (j - ρ.length) g (by omega) (by rw [List.getElem?_drop]; rwa [show ρ.length + (j - ρ.length) = j by omega])
      exact ⟨r, by rw [List.getElem?_append_right (by omega)]; exact q1, q2⟩
  refine awp_sound (E := E') (D := ([], (vs.toArray ++ Array.replicate (fn.ntmps - vs.toArray.size) undef).size)) (ctx_of hC _ _) hm (Nat.le_of_eq (by simp [E', ghs, T1.len])) c _ _ hs _ w _ hp ⟨ghs G ρ, S1, Ft, g0, tr_args (P := P) hl hv2 rfl, rfl, rfl⟩ ?_ (fun c a x v w h => by cases x <;> exact h) ?_
  · rintro v t' h' a' w' hk ⟨G3, S3, F3, hg3, ht3, hd3⟩
    obtain ⟨hs4, h4, S4, F4, Ft4, q1, q2, q3⟩ := takeN_spec (st := st) hs.length nums [] (fun j i hj => by simpa using nums_get j i hj) hg3 Tk.nil hk
    obtain ⟨G7, F7, h7, μ, r1, r2, r3, r4⟩ := fin0 (ρ' := []) q2.good (by simpa using q3) q1
    exact ⟨hd3.1, _, h7, G7, S4, F7, r1, r2, r3, .inr ⟨v, rfl, rfl⟩⟩
  · intro e t' h' a' w' hk ⟨G3, S3, F3, hg3, ht3, hd3⟩
    have fin : (resL C t' fn.results.toList h' fun l h_1 => oneK l fun x => canRet st hs.length x h_1 fun y hs => giveR y ρ hs h1 K) → ∃ v, (results fn a'.tmps).run P w' = .ok v w' ∧ ∃ x h' G' S' F', K x h' ∧ Good E G' h' w' S' F' ∧ Ext E G w S G' w' S' ∧ ((∃ v', Ending.returned v = .returned v' ∧ VR G' w' E.Ro S' x v') ∨ ∃ v', Ending.returned v = .panicked [{ v := v', recovered := false }] ∧ x = .pan v') := by
      intro hk
      obtain ⟨x, h2, G2, F2, v, b1, b2, b3, b4, b5⟩ := results_spec (K := fun x h_1 => canRet st hs.length x h_1 fun y hs => giveR y ρ hs h1 K) hC rfl hg3 ht3 hk
      obtain ⟨hs4, h4, S4, F4, Ft4, q1, q2, q3⟩ := takeN_spec (st := st) hs.length nums [] (fun j i hj => by simpa using nums_get j i hj) b2 Tk.nil b1
      obtain ⟨y, ρ', hs5, h5, S5, F5, Ft5, c1, c2, c3, c4⟩ := can3 (st := st) q2.good q3 (b5.ext q2.ext) q1
      rw [List.nil_append, List.length_nil] at c3 c4
      obtain ⟨d1, d2⟩ := c4 _ (mt_ghs G2 _)
      obtain ⟨G7, F7, h7, μ, r1, r2, r3, r4⟩ := fin0 c2.good c3 c1
      have hvy : VR (ghs G2 (List.range' 0 hs.length ++ ρ')) w' E.Ro S5 y v := by
        rcases hRs with rfl | hst
        · exact d1.ro (fun k hk => hk.elim id fun ⟨r, hr, _⟩ => by cases hr)
        · exact d2 hst _
      obtain ⟨z, e1, e2⟩ := ren3_spec r4 hvy r1
      exact ⟨v, b4, z, h7, G7, S5, F7, e1, r2, r3, .inl ⟨v, rfl, e2⟩⟩
    cases e <;> simp only [retP] at hk
    · obtain ⟨v, q1, q2⟩ := fin hk
      exact ⟨hd3.1, v, q1, q2⟩
    all_goals first
      | exact hk.elim
      | (obtain ⟨v, q1, q2⟩ := fin hk; exact ⟨hd3.1, v, q1, q2⟩)

end Go.Proofs.Ytegcfogbdgmajaa.Ab
