/- Slices folded into the cells that hold them, variables frozen that function values hold, and the roots that are reached taken out in order. No condition. -/
import Derived.Test.YtegcfogbdgmajaaAbOps2
namespace Go.Proofs.Ytegcfogbdgmajaa.Ab
set_option linter.unusedVariables false
set_option linter.unusedSimpArgs false

/-! ### What asks no root -/

theorem IR.ro {w : World} {Ro Ro2 S : BS} (hr : ∀ k, Ro k → Ro2 k) {t a x} (h : IR w Ro S t a x) : IR w Ro2 S t a x := by
  have hsel : ∀ {t : Bool} {b : Nat}, sel Ro S t b → sel Ro2 S t b := fun {t b} q => by
    cases t
    · exact q.imp (hr b) id
    · exact q
  induction h with
  | top t x h => exact .top t x h
  | v t x h => exact .v t x h
  | sl0 t s a c => exact .sl0 t s a c
  | sl t s l b off c cs T fz cv h1 h2 h3 h0 h4 _ ih => exact .sl t s l b off c cs T fz cv (hsel h1) h2 h3 h0 h4 ih
  | imm t t' z s l a n c h1 _ h3 ih => exact .imm t t' z s l a n c h1 ih h3
  | iptr t t' l b off cs T fz cv h0 h1 h2 h4 _ ih => exact .iptr t t' l b off cs T fz cv h0 (hsel h1) h2 h4 ih
  | fn t f caps vs h1 h2 _ ih => exact .fn t f caps vs h1 h2 ih

theorem IR.true_ro {w : World} {Ro Ro2 S : BS} {t a x} (h : IR w Ro S t a x) : t = true → IR w Ro2 S t a x := by
  induction h with
  | top t x h => exact fun _ => .top t x h
  | v t x h => exact fun _ => .v t x h
  | sl0 t s a c => exact fun _ => .sl0 t s a c
  | sl t s l b off c cs T fz cv h1 h2 h3 h0 h4 _ ih => exact fun ht => .sl t s l b off c cs T fz cv (by subst ht; exact h1) h2 h3 h0 h4 (fun j x hj => ih j x hj ht)
  | imm t t' z s l a n c h1 _ h3 ih => exact fun ht => .imm t t' z s l a n c h1 (ih (h1 ht)) h3
  | iptr t t' l b off cs T fz cv h0 h1 h2 h4 _ ih => exact fun ht => .iptr t t' l b off cs T fz cv h0 (by have := h0 ht; subst this; exact h1) h2 h4 (fun j x hj => ih j x hj (h0 ht))
  | fn t f caps vs h1 h2 _ ih => exact fun ht => .fn t f caps vs h1 h2 (fun j x hj => ih j x hj ht)

theorem OR.ro {w : World} {Ro Ro2 S : BS} {a x F} (h : OR w Ro S a x F) : OR w Ro2 S a x F := by
  induction h with
  | leaf a x h1 h2 => exact .leaf a x h1 (h2.true_ro rfl)
  | sl0 s a => exact .sl0 s a
  | sl s l b c cs T cv Fc h1 h2 h3 h4 h5 _ h7 h8 ih => exact .sl s l b c cs T cv Fc h1 h2 h3 h4 h5 ih h7 h8

/-- A leaf of a function value's, closed. -/
theorem VR.shut1 {G G2 : List Gh} {w : World} {Ro Ro2 S : BS} {a x} (h : VR G w Ro S a x) (hs : a.shut1 = true) : VR G2 w Ro2 S a x := by
  cases h with
  | top x => exact .top x
  | nils => exact .nils
  | fn f caps vs h1 h2 =>
    cases caps with
    | nil => exact .fn f [] vs h1 (by simp)
    | cons _ _ => simp [AV.shut1] at hs
  | ir _ _ h1 h2 =>
    refine .ir _ _ h1 ?_
    cases h2 with
    | top _ _ h => exact .top _ _ h
    | v _ _ h => exact .v _ _ h
    | sl0 => simp [AV.isSl] at h1
    | sl => simp [AV.isSl] at h1
    | imm _ t' z s l a n c q1 q2 q3 =>
      cases t' with
      | true => exact .imm _ _ _ _ _ _ _ _ q1 (q2.true_ro rfl) q3
      | false => simp [AV.shut1] at hs
    | iptr _ t' l b off cs T fz cv q0 q1 q2 q4 q5 =>
      cases t' with
      | true => exact .iptr _ _ l b off cs T fz cv q0 q1 q2 q4 (fun j x hj => (q5 j x hj).true_ro rfl)
      | false => simp [AV.shut1] at hs
    | fn _ f caps vs q1 q2 q3 =>
      cases caps with
      | nil => exact .fn _ f [] vs q1 q2 (by simp)
      | cons _ _ => simp [AV.shut1] at hs
  | _ => simp [AV.shut1] at hs

/-- The same in memory that stays as it is, for ever. -/
theorem VR.shut1I {G : List Gh} {w : World} {Ro Ro2 S : BS} {a x} (h : VR G w Ro S a x) (hs : a.shut1 = true) (hn : a ≠ .nils) (h1 : a = .top → x.oneCell' = true) : IR w Ro2 S true a x := by
  cases h with
  | top x => exact .top _ _ (h1 rfl)
  | nils => exact absurd rfl hn
  | fn f caps vs q1 q2 =>
    cases caps with
    | nil => exact .fn _ f [] vs q1 (by simp) (by simp)
    | cons _ _ => simp [AV.shut1] at hs
  | ir _ _ h1 h2 =>
    cases h2 with
    | top _ _ h => exact .top _ _ h
    | v _ _ h => exact .v _ _ h
    | sl0 => simp [AV.shut1] at hs
    | sl => simp [AV.shut1] at hs
    | imm _ t' z s l a n c q1 q2 q3 =>
      cases t' with
      | true => exact .imm _ _ _ _ _ _ _ _ (by simp) (q2.true_ro rfl) q3
      | false => simp [AV.shut1] at hs
    | iptr _ t' l b off cs T fz cv q0 q1 q2 q4 q5 =>
      cases t' with
      | true => exact .iptr _ _ l b off cs T fz cv (by simp) q1 q2 q4 (fun j x hj => (q5 j x hj).true_ro rfl)
      | false => simp [AV.shut1] at hs
    | fn _ f caps vs q1 q2 q3 =>
      cases caps with
      | nil => exact .fn _ f [] vs q1 q2 (by simp)
      | cons _ _ => simp [AV.shut1] at hs
  | _ => simp [AV.shut1] at hs

theorem VR.pure1 {G G2 : List Gh} {w : World} {Ro Ro2 S : BS} (hr : ∀ k, Ro k → Ro2 k) {a x} (h : VR G w Ro S a x) (hs : a.pure1 = true) : VR G2 w Ro2 S a x := by
  cases h with
  | top x => exact .top x
  | nils => exact .nils
  | fn f caps vs h1 h2 =>
    cases caps with
    | nil => exact .fn f [] vs h1 (by simp)
    | cons _ _ => simp [AV.pure1] at hs
  | ir _ _ h1 h2 => exact .ir _ _ h1 (h2.ro hr)
  | _ => simp [AV.pure1] at hs

theorem VR.pureA {G G2 : List Gh} {w : World} {Ro Ro2 S : BS} (hr : ∀ k, Ro k → Ro2 k) {a x} (h : VR G w Ro S a x) (hs : a.pureA = true) : VR G2 w Ro2 S a x := by
  cases a with
  | agg l =>
    obtain ⟨vs, rfl, h1, h2, h3⟩ := h.agg_inv
    simp only [AV.pureA, List.all_eq_true] at hs
    exact .agg l vs h1 h2 (fun j x hj => (h3 j x hj).pure1 hr (hs x (List.mem_of_getElem? hj)))
  | _ => exact h.pure1 hr hs

/-- A cell that asks no root. -/
theorem VR.wk {G G2 : List Gh} {w : World} {Ro Ro2 S : BS} (hr : ∀ k, Ro k → Ro2 k) {a x} (h : VR G w Ro S a x) (hs : a.wkC = true) : VR G2 w Ro2 S a x := by
  cases h with
  | top x => exact .top x
  | nils => simp [AV.wkC] at hs
  | fn f caps vs h1 h2 =>
    simp only [AV.wkC, List.all_eq_true] at hs
    exact .fn f caps vs h1 (fun j y hj => (h2 j y hj).pure1 hr (hs y (List.mem_of_getElem? hj)))
  | ir _ _ h1 h2 => exact .ir _ _ h1 (h2.ro hr)
  | _ => simp [AV.wkC] at hs
theorem CR.wk {G G2 : List Gh} {w : World} {Ro Ro2 S : BS} (hr : ∀ k, Ro k → Ro2 k) {a x F} (h : CR G w Ro S a x F) (hs : a.wkC = true) : CR G2 w Ro2 S a x F :=
  h.imp (fun ⟨h1, h2, h3⟩ => ⟨h1, h2.wk hr hs, h3⟩) (fun h => h.ro)

theorem VR.shut {G G2 : List Gh} {w : World} {Ro Ro2 S : BS} {a x} (h : VR G w Ro S a x) (hs : a.shut = true) : VR G2 w Ro2 S a x := by
  cases a with
  | fn f caps =>
    obtain ⟨vs, rfl, h1, h2⟩ := h.fn_inv
    simp only [AV.shut, List.all_eq_true] at hs
    exact .fn f caps vs h1 (fun j y hj => (h2 j y hj).shut1 (hs y (List.mem_of_getElem? hj)))
  | sl s l => have := h.notSl; simp [AV.isSl] at this
  | top => exact h.shut1 rfl
  | v x => exact h.shut1 rfl
  | nils => exact h.shut1 rfl
  | imm t z s l => cases t <;> first | exact h.shut1 rfl | simp [AV.shut] at hs
  | iptr t l => cases t <;> first | exact h.shut1 rfl | simp [AV.shut] at hs
  | _ => simp [AV.shut] at hs
theorem shut_of_shutC {a : AV} (h : a.shutC = true) : a.shut = true := by cases a <;> first | exact h | simp [AV.shutC] at h
theorem CR.shut {G G2 : List Gh} {w : World} {Ro Ro2 S : BS} {a x F} (h : CR G w Ro S a x F) (hs : a.shutC = true) : CR G2 w Ro2 S a x F :=
  h.imp (fun ⟨h1, h2, h3⟩ => ⟨h1, h2.shut (shut_of_shutC hs), h3⟩) (fun h => h.ro)

theorem VR.ro {G : List Gh} {w : World} {Ro Ro2 S : BS} (hr : ∀ k, Ro k → Ro2 k) {a x} (h : VR G w Ro S a x) : VR G w Ro2 S a x := by
  induction h with
  | top x => exact .top x
  | ir a x h1 h2 => exact .ir a x h1 (h2.ro hr)
  | nils => exact .nils
  | ptr r i o k b g h1 h2 => exact .ptr r i o k b g h1 h2
  | aptr r o j b g h1 h2 => exact .aptr r o j b g h1 h2
  | bsl r o n b c g h1 h2 h3 => exact .bsl r o n b c g h1 h2 h3
  | mapr r b g h1 h2 => exact .mapr r b g h1 h2
  | slc r o n z g a c h1 h2 h3 h4 => exact .slc r o n z g a c h1 h2 h3 h4
  | fn f caps vs h1 _ ih => exact .fn f caps vs h1 ih
  | agg l vs h1 h2 _ ih => exact .agg l vs h1 h2 ih
  | tup l vs h1 _ ih => exact .tup l vs h1 ih
theorem CR.ror {G : List Gh} {w : World} {Ro S : BS} {a x F} (h : CR G w (fun _ => False) S a x F) : CR G w Ro S a x F :=
  h.imp (fun ⟨h1, h2, h3⟩ => ⟨h1, h2.ro (fun _ h => h.elim), h3⟩) (fun h => h.ro)
/-- A cell of a slice that stands by itself. -/
theorem shutC_of_shutF {a : AV} (h : a.shutF = true) : a.shutC = true := by
  cases a with
  | fn f caps => cases caps <;> first | rfl | simp [AV.shutF, AV.shut1] at h
  | imm t z s l => cases t <;> first | rfl | simp [AV.shutF, AV.shut1] at h
  | iptr t l => cases t <;> first | rfl | simp [AV.shutF, AV.shut1] at h
  | _ => first | rfl | simp [AV.shutF, AV.shut1] at h
theorem CR.or {G : List Gh} {w : World} {Ro Ro2 S : BS} {a x F} (h : CR G w Ro S a x F) (hs : a.shutF = true) : OR w Ro2 S a x F := by
  rcases h with ⟨h1, h2, h3, h4⟩ | h
  · have e : F = fun _ => False := by funext k; simpa using h4 k
    rw [e]
    refine .leaf _ _ h1 (h2.shut1I ?_ (fun h => by subst h; simp [AV.shutF] at hs) (fun _ => h3))
    cases a <;> first | simp [AV.isSl] at h1; done | simp [AV.shutF] at hs; done | exact hs
  · exact h.ro

/-- What a cell owns is frozen. -/
theorem OR.frz {w : World} {Ro Ro2 S S' : BS} {a x F} (hs : ∀ k, S k → S' k) (h : OR w Ro S a x F) : (∀ k, F k → S' k) → IR w Ro2 S' true a x := by
  induction h with
  | leaf a x h1 h2 => exact fun _ => (h2.true_ro (Ro2 := fun _ => False) rfl |>.ext hs (fun _ _ => rfl)).true_ro rfl
  | sl0 s a => exact fun _ => .sl0 _ s a 0
  | sl s l b c cs T cv Fc h1 h2 h3 h4 h5 _ h7 h8 ih =>
    intro hF
    exact .sl _ s l b 0 c cs T (0, 0) cv (hF b (.inl rfl)) h1 h2 h3 (fun j hj => by rw [Nat.zero_add]; exact h5 j hj) (fun j x hj => ih j x hj (fun k hk => hF k (.inr ⟨j, (List.getElem?_eq_some_iff.1 hj).1, hk⟩)))

/-! ### Cells with what they own -/

def CsR (G : List Gh) (w : World) (Ro S : BS) (l : List AV) (vs : List Value) (Fy : BS) : Prop :=
  ∃ Fc : Nat → BS, l.length = vs.length ∧ (∀ j x, l[j]? = some x → CR G w Ro S x (vs.getD j undef) (Fc j)) ∧
    (∀ j j' k, j < l.length → j' < l.length → Fc j k → Fc j' k → j = j') ∧ ∀ k, Fy k ↔ ∃ j, j < l.length ∧ Fc j k

section
variable {G : List Gh} {w : World} {Ro S : BS}

theorem CsR.nil : CsR G w Ro S [] [] (fun _ => False) := ⟨fun _ _ => False, rfl, by simp, by simp, by simp⟩
theorem CsR.append {l1 l2 : List AV} {v1 v2 : List Value} {F1 F2 : BS} (h1 : CsR G w Ro S l1 v1 F1) (h2 : CsR G w Ro S l2 v2 F2) (hd : ∀ k, F1 k → ¬ F2 k) : CsR G w Ro S (l1 ++ l2) (v1 ++ v2) (fun k => F1 k ∨ F2 k) := by
  obtain ⟨C1, a1, a2, a3, a4⟩ := h1
  obtain ⟨C2, b1, b2, b3, b4⟩ := h2
  refine ⟨fun j => if j < l1.length then C1 j else C2 (j - l1.length), by simp [a1, b1], fun j x hj => ?_, fun j j' k hj hj' hk hk' => ?_, fun k => ?_⟩
  · rw [List.getElem?_append] at hj
    simp only []
    rw [List.getD_eq_getElem?_getD, List.getElem?_append]
    split at hj
    · rename_i hlt
      rw [if_pos (by omega), if_pos hlt]
      have := a2 j x hj
      rwa [List.getD_eq_getElem?_getD] at this
    · rename_i hlt
      rw [if_neg (by omega), if_neg hlt, ← a1]
      have := b2 _ x hj
      rwa [List.getD_eq_getElem?_getD] at this
  · simp only [List.length_append] at hj hj' hk hk'
    split at hk <;> split at hk'
    · exact a3 j j' k (by assumption) (by assumption) hk hk'
    · exact absurd ((b4 k).2 ⟨_, by omega, hk'⟩) (hd k ((a4 k).2 ⟨_, by assumption, hk⟩))
    · exact absurd ((b4 k).2 ⟨_, by omega, hk⟩) (hd k ((a4 k).2 ⟨_, by assumption, hk'⟩))
    · have := b3 _ _ k (by omega) (by omega) hk hk'
      omega
  · constructor
    · rintro (h | h)
      · obtain ⟨j, hj, hk⟩ := (a4 k).1 h
        exact ⟨j, by simp; omega, by simp only []; rw [if_pos hj]; exact hk⟩
      · obtain ⟨j, hj, hk⟩ := (b4 k).1 h
        exact ⟨l1.length + j, by simp; omega, by simp only []; rw [if_neg (by omega), Nat.add_sub_cancel_left]; exact hk⟩
    · rintro ⟨j, hj, hk⟩
      simp only [List.length_append] at hj hk
      split at hk
      · exact .inl ((a4 k).2 ⟨j, by assumption, hk⟩)
      · exact .inr ((b4 k).2 ⟨_, by omega, hk⟩)
theorem CsR.one {x : AV} {v : Value} {F : BS} (h : CR G w Ro S x v F) : CsR G w Ro S [x] [v] F :=
  ⟨fun _ => F, rfl, fun j y hj => by cases j with | zero => simp at hj; subst hj; exact h | succ j => simp at hj, fun j j' k h1 h2 _ _ => by simp at h1 h2; omega, fun k => ⟨fun h => ⟨0, by simp, h⟩, fun ⟨_, _, h⟩ => h⟩⟩
theorem CsR.cons {x : AV} {l : List AV} {v : Value} {vs : List Value} {F1 F2 : BS} (h1 : CR G w Ro S x v F1) (h2 : CsR G w Ro S l vs F2) (hd : ∀ k, F1 k → ¬ F2 k) : CsR G w Ro S (x :: l) (v :: vs) (fun k => F1 k ∨ F2 k) :=
  CsR.append (CsR.one h1) h2 hd
theorem CsR.of0 {l : List AV} {vs : List Value} (hl : l.length = vs.length) (h : ∀ j x, l[j]? = some x → C0 G w Ro S x (vs.getD j undef)) : CsR G w Ro S l vs (fun _ => False) :=
  ⟨fun _ _ => False, hl, fun j x hj => (h j x hj).cr, fun _ _ _ _ _ h => h.elim, fun k => ⟨fun h => h.elim, fun ⟨_, _, h⟩ => h⟩⟩
theorem CsR.ext {E : Env} {G' w' S' l vs Fy} (e : Ext E G w S G' w' S') (h : CsR G w E.Ro S l vs Fy) (hF : ∀ k, Fy k → w'.heap[k]? = w.heap[k]?) : CsR G' w' E.Ro S' l vs Fy := by
  obtain ⟨Fc, h1, h2, h3, h4⟩ := h
  exact ⟨Fc, h1, fun j x hj => (h2 j x hj).ext e (fun k hk => hF k ((h4 k).2 ⟨j, (List.getElem?_eq_some_iff.1 hj).1, hk⟩)), h3, h4⟩
theorem CsR.ones {l vs Fy} (h : CsR G w Ro S l vs Fy) : ∀ u ∈ vs, u.oneCell' = true := by
  obtain ⟨Fc, h1, h2, _⟩ := h
  intro u hu
  obtain ⟨j, hj, rfl⟩ := List.mem_iff_getElem.1 hu
  have := (h2 j l[j] (List.getElem?_eq_getElem (by omega))).one
  simpa [List.getD_eq_getElem?_getD, hj] using this
theorem CsR.congr {l vs Fy Fy'} (h : CsR G w Ro S l vs Fy) (e : ∀ k, Fy' k ↔ Fy k) : CsR G w Ro S l vs Fy' := by
  obtain ⟨Fc, h1, h2, h3, h4⟩ := h
  exact ⟨Fc, h1, h2, h3, fun k => (e k).trans (h4 k)⟩
/-- A block of such cells. -/
theorem CsR.blk {l vs Fy} (h : CsR G w Ro S l vs Fy) {b : Nat} {cs : Array Value} (hc : ∀ j, j < l.length → cs[j]? = vs[j]?) (hb : ¬ Fy b) : BlkR G w Ro S l b cs (fun k => k = b ∨ Fy k) := by
  obtain ⟨Fc, h1, h2, h3, h4⟩ := h
  refine ⟨fun j => vs.getD j undef, Fc, fun j hj => ?_, h2, h3, fun j k hj hk hkb => hb (hkb ▸ (h4 k).2 ⟨j, hj, hk⟩), fun k => by simp only [h4 k]⟩
  rw [hc j hj]
  simp [List.getD_eq_getElem?_getD, show j < vs.length by omega]
theorem blk_csR {l b cs F} (h : BlkR G w Ro S l b cs F) : ∃ Fy, CsR G w Ro S l (segV cs 0 l.length) Fy ∧ (∀ k, F k ↔ (k = b ∨ Fy k)) ∧ ¬ Fy b := by
  obtain ⟨cv, Fc, h1, h2, h3, h4, h5⟩ := h
  refine ⟨fun k => ∃ j, j < l.length ∧ Fc j k, ⟨Fc, (segV_length _ _ _).symm, fun j x hj => ?_, h3, fun _ => Iff.rfl⟩, h5, fun ⟨j, hj, hk⟩ => h4 j b hj hk rfl⟩
  have hj' := (List.getElem?_eq_some_iff.1 hj).1
  rw [segV_getD _ _ _ _ hj', Nat.zero_add, Array.getD_eq_getD_getElem?, h1 j hj']
  exact h2 j x hj
/-- Some of the cells. -/
theorem CsR.take {l vs Fy} (h : CsR G w Ro S l vs Fy) (n : Nat) : ∃ Fz, CsR G w Ro S (l.take n) (vs.take n) Fz ∧ ∀ k, Fz k → Fy k := by
  obtain ⟨Fc, h1, h2, h3, h4⟩ := h
  refine ⟨fun k => ∃ j, j < (l.take n).length ∧ Fc j k, ⟨Fc, by simp [h1], fun j x hj => ?_, fun j j' k hj hj' => h3 j j' k (by simp at hj; omega) (by simp at hj'; omega), fun _ => Iff.rfl⟩, fun k ⟨j, hj, hk⟩ => (h4 k).2 ⟨j, by simp at hj; omega, hk⟩⟩
  rw [List.getElem?_take] at hj
  split at hj
  · rename_i hlt
    have := h2 j x hj
    rwa [List.getD_eq_getElem?_getD, List.getElem?_take, if_pos hlt, ← List.getD_eq_getElem?_getD]
  · cases hj
end

section
variable {E : Env} {G : List Gh} {w : World}

/-- A block set that a call may own, apart from its roots. -/
def Apart (E : Env) (w : World) (S : BS) (F : Nat → BS) (Fy : BS) : Prop := (∀ k, Fy k → k < w.heap.size ∧ (E.O k ∨ E.w0.heap.size ≤ k) ∧ ¬ S k) ∧ ∀ r k, F r k → ¬ Fy k

/-- A step of what is known alone: roots give up blocks, some for ever. -/
structure Stp (E : Env) (G : List Gh) (w : World) (h : HP) (S : BS) (F : Nat → BS) (h' : HP) (S' : BS) (F' : Nat → BS) : Prop where
  good : Good E G h' w S' F'
  s : ∀ k, S k → S' k
  n : ∀ k, S' k → S k ∨ ∃ r, F r k
  sub : ∀ r k, F' r k → F r k
  len : h'.length = h.length
theorem Stp.refl {h S F} (hg : Good E G h w S F) : Stp E G w h S F h S F := ⟨hg, fun _ h => h, fun _ h => .inl h, fun _ _ h => h, rfl⟩
theorem Stp.trans {h S F h1 S1 F1 h2 S2 F2} (a : Stp E G w h S F h1 S1 F1) (b : Stp E G w h1 S1 F1 h2 S2 F2) : Stp E G w h S F h2 S2 F2 :=
  ⟨b.good, fun k h => b.s k (a.s k h), fun k h => (b.n k h).elim (fun h => a.n k h) (fun ⟨r, h⟩ => .inr ⟨r, a.sub r k h⟩), fun r k h => a.sub r k (b.sub r k h), b.len.trans a.len⟩
theorem Stp.ext {h S F h' S' F'} (a : Stp E G w h S F h' S' F') : Ext E G w S G w S' := ⟨fun _ _ h => h, a.s, fun _ _ => rfl, fun _ _ => rfl⟩
/-- What stood apart from the roots still does. -/
theorem Stp.apart {h S F h' S' F' Fy} (a : Stp E G w h S F h' S' F') (hy : Apart E w S F Fy) : Apart E w S' F' Fy :=
  ⟨fun k hk => ⟨(hy.1 k hk).1, (hy.1 k hk).2.1, fun hs => (a.n k hs).elim (hy.1 k hk).2.2 (fun ⟨r, h⟩ => hy.2 r k h hk)⟩, fun r k h => hy.2 r k (a.sub r k h)⟩

theorem Good.addS {h S F} (hg : Good E G h w S F) (Z : BS) (hz : ∀ k, Z k → k < w.heap.size ∧ (E.O k ∨ E.w0.heap.size ≤ k)) (hd : ∀ r k, F r k → ¬ Z k) : Good E G h w (fun k => S k ∨ Z k) F := by
  have e : Ext E G w S G w (fun k => S k ∨ Z k) := ⟨fun _ _ h => h, fun _ h => .inl h, fun _ _ => rfl, fun _ _ => rfl⟩
  constructor
  · exact hg.len
  · exact fun i rt g h1 h2 => (hg.root i rt g h1 h2).ext e (fun _ _ => rfl)
  · exact hg.dis
  · exact hg.out
  · exact fun r k hk => ⟨(hg.own r k hk).1, (hg.own r k hk).2.1, fun h => h.elim (hg.own r k hk).2.2 (hd r k hk)⟩
  · exact fun k hk => hk.elim (hg.sb k) (fun h => (hz k h).1)
  · exact fun k hk => .inl (hg.s0 k hk)
  · exact fun k hk => hk.elim (hg.sn k) (fun h => .inr (hz k h).2)
  · exact hg.size
  · exact hg.os
  · exact hg.tape
  · exact hg.output
  · exact hg.fr
  · exact hg.rok
  · exact hg.gp
  · exact hg.sf

/-- Root r is given up. -/
theorem Good.kill {h S F} (hg : Good E G h w S F) {r : Nat} {rt : Root} (hr : h[r]? = some rt) : ∃ g, G[r]? = some g ∧ RootR G w E.Ro S rt g (F r) ∧ Stp E G w h S F (h.set r .dead) S (fun i => if i = r then fun _ => False else F i) ∧ Apart E w S (fun i => if i = r then fun _ => False else F i) (F r) := by
  have hrl : r < h.length := (List.getElem?_eq_some_iff.1 hr).1
  have hgl : r < G.length := by rw [hg.len]; exact hrl
  refine ⟨G[r], List.getElem?_eq_getElem hgl, hg.root r rt _ hr (List.getElem?_eq_getElem hgl), ⟨hg.setRoot hrl (List.getElem?_eq_getElem hgl) (Chg.refl w _) (fun _ h => h) (fun _ h => h.elim), fun _ h => h, fun _ h => .inl h, fun i k hk => ?_, by simp⟩, fun k hk => hg.own r k hk, fun i k hi hk => ?_⟩
  · by_cases hi : i = r
    · simp [hi] at hk
    · simpa [hi] using hk
  · by_cases hir : i = r
    · simp [hir] at hi
    · simp only [hir, if_false] at hi
      exact hir (hg.dis i r k hi hk)

/-- A variable is frozen. -/
theorem Good.freeze {h S F} (hg : Good E G h w S F) {r : Nat} {cells : List AV} (hr : h[r]? = some (.box cells)) (hs : cells.all AV.shutF = true) :
    ∃ g b S' F', G[r]? = some g ∧ g.ob = some b ∧ Stp E G w h S F (h.set r .dead) S' F' ∧ IR w E.Ro S' true (.iptr true cells) (.pointer (some ⟨b, 0, none⟩)) := by
  obtain ⟨g, hgr, ⟨b, cs, T, h1, h2, h3, h4⟩, hstp, hap⟩ := hg.kill hr
  obtain ⟨cv, Fc, q1, q2, q3, q4, q5⟩ := h4
  have hg2 := hstp.good.addS (F r) (fun k hk => ⟨(hap.1 k hk).1, (hap.1 k hk).2.1⟩) (fun i k hi => hap.2 i k hi)
  refine ⟨g, b, _, _, hgr, h1, ⟨hg2, fun _ h => .inl h, fun k hk => hk.elim .inl (fun h => .inr ⟨r, h⟩), hstp.sub, hstp.len⟩, .iptr _ _ cells b 0 cs T (0, 0) cv (by simp) (.inr ((q5 b).2 (.inl rfl))) h2 (fun j hj => by rw [Nat.zero_add]; exact q1 j hj) (fun j x hj => ?_)⟩
  have hm := List.mem_of_getElem? hj
  exact ((q2 j x hj).or (Ro2 := fun _ => False) (List.all_eq_true.1 hs x hm)).frz (fun _ h => .inl h) (fun k hk => .inr ((q5 k).2 (.inr ⟨j, (List.getElem?_eq_some_iff.1 hj).1, hk⟩)))
end

section
variable {E : Env} {G : List Gh} {w : World}

theorem frzL_spec : ∀ (l : List AV) (vs : List Value) {h S F} (hg : Good E G h w S F) (hl : l.length = vs.length) (hv : ∀ (j : Nat) x, l[j]? = some x → VR G w E.Ro S x (vs.getD j undef)) {K : List AV → HP → Prop} (hp : frzL l h K),
    ∃ l' h' S' F', K l' h' ∧ Stp E G w h S F h' S' F' ∧ l'.length = vs.length ∧ ∀ (j : Nat) x, l'[j]? = some x → VR G w E.Ro S' x (vs.getD j undef)
  | [], vs, h, S, F, hg, hl, hv, K, hp => ⟨[], h, S, F, hp, .refl hg, hl, by simp⟩
  | x :: l, [], h, S, F, hg, hl, hv, K, hp => by simp at hl
  | x :: l, v :: vs, h, S, F, hg, hl, hv, K, hp => by
    have hx : VR G w E.Ro S x v := by simpa using hv 0 x rfl
    have rest : ∀ {h1 S1 F1} (a : Stp E G w h S F h1 S1 F1) (y : AV), VR G w E.Ro S1 y v → (frzL l h1 fun l h => K (y :: l) h) →
        ∃ l' h' S' F', K l' h' ∧ Stp E G w h S F h' S' F' ∧ l'.length = (v :: vs).length ∧ ∀ (j : Nat) x, l'[j]? = some x → VR G w E.Ro S' x ((v :: vs).getD j undef) := by
      intro h1 S1 F1 a y hy hp
      obtain ⟨l', h', S', F', q1, q2, q3, q4⟩ := frzL_spec l vs a.good (by simpa using hl) (fun j z hz => (by simpa using hv (j + 1) z (by simpa using hz) : VR G w E.Ro S z (vs.getD j undef)).ext a.ext) hp
      refine ⟨_, h', S', F', q1, a.trans q2, by simp [q3], fun j z hz => ?_⟩
      cases j with
      | zero => simp at hz; subst hz; simpa using hy.ext q2.ext
      | succ j => simpa using q4 j z (by simpa using hz)
    have keep : (frzL l h fun l h => K (x :: l) h) → _ := fun hp => rest (.refl hg) x hx hp
    cases x with
    | ptr r i o n =>
      by_cases hio : i = 0 ∧ o = 0
      · obtain ⟨rfl, rfl⟩ := hio
        simp only [frzL] at hp
        obtain ⟨rt, hr, hp⟩ := rootK_spec hp
        cases rt with
        | box cells =>
          simp only at hp
          split at hp
          · rename_i hs
            rw [setK_eq] at hp
            obtain ⟨g, b, S1, F1, q1, q2, q3, q4⟩ := hg.freeze hr hs
            obtain ⟨b', g', r1, r2, r3⟩ := hx.ptr_inv
            rw [q1] at r1; cases r1
            rw [q2] at r2; cases r2
            subst r3
            refine rest q3 _ (.ir _ _ rfl ?_) hp
            simpa using q4.weak
          · exact hp.elim
        | _ => exact hp.elim
      · refine keep ?_
        unfold frzL at hp
        split at hp
        · rename_i heq; cases heq
        · rename_i heq; cases heq; exact absurd ⟨rfl, rfl⟩ hio
        · rename_i heq; cases heq; exact hp
    | _ => exact keep (by simpa only [frzL] using hp)

theorem CR.vr {G Ro S x v F} (h : CR G w Ro S x v F) (hx : x.isSl = false) : VR G w Ro S x v ∧ v.oneCell' = true ∧ ∀ k, ¬ F k := by
  rcases h with ⟨_, h2, h3, h4⟩ | h
  · exact ⟨h2, h3, h4⟩
  · cases h with
    | leaf _ _ h1 h2 => exact ⟨.ir _ _ h1 h2.weak, h2.one, fun _ h => h⟩
    | sl0 => simp [AV.isSl] at hx
    | sl => simp [AV.isSl] at hx
theorem CsR.uncons {Ro S x l v vs Fy} (h : CsR G w Ro S (x :: l) (v :: vs) Fy) : ∃ F0 F1, CR G w Ro S x v F0 ∧ CsR G w Ro S l vs F1 ∧ (∀ k, F0 k → ¬ F1 k) ∧ ∀ k, Fy k ↔ F0 k ∨ F1 k := by
  obtain ⟨Fc, h1, h2, h3, h4⟩ := h
  refine ⟨Fc 0, fun k => ∃ j, j < l.length ∧ Fc (j + 1) k, by simpa using h2 0 x rfl, ⟨fun j => Fc (j + 1), by simpa using h1, fun j y hj => by simpa using h2 (j + 1) y (by simpa using hj), fun j j' k hj hj' hk hk' => ?_, fun _ => Iff.rfl⟩, fun k h0 ⟨j, hj, hk⟩ => ?_, fun k => ?_⟩
  · have := h3 (j + 1) (j' + 1) k (by simp; omega) (by simp; omega) hk hk'; omega
  · have := h3 0 (j + 1) k (by simp) (by simp; omega) h0 hk; omega
  · rw [h4]
    constructor
    · rintro ⟨j, hj, hk⟩
      cases j with
      | zero => exact .inl hk
      | succ j => exact .inr ⟨j, by simp at hj; omega, hk⟩
    · rintro (h | ⟨j, hj, hk⟩)
      · exact ⟨0, by simp, h⟩
      · exact ⟨j + 1, by simp; omega, hk⟩
theorem Apart.sub {S F Fy Fy'} (h : Apart E w S F Fy) (hs : ∀ k, Fy' k → Fy k) : Apart E w S F Fy' := ⟨fun k hk => h.1 k (hs k hk), fun r k hr hk => h.2 r k hr (hs k hk)⟩

theorem foldCs_specG : ∀ (l : List AV) (vs : List Value) {h S F Fi} (hg : Good E G h w S F) (hv : CsR G w E.Ro S l vs Fi) (hi : Apart E w S F Fi) {K : List AV → HP → Prop} (hp : foldCs l h K),
    ∃ l' h' S' F' Fy, K l' h' ∧ Stp E G w h S F h' S' F' ∧ CsR G w E.Ro S' l' vs Fy ∧ Apart E w S' F' Fy ∧ ∀ k, Fy k → Fi k ∨ ∃ r, F r k
  | [], vs, h, S, F, Fi, hg, hv, hi, K, hp => ⟨[], h, S, F, Fi, hp, .refl hg, hv, hi, fun _ h => .inl h⟩
  | x :: l, [], h, S, F, Fi, hg, hv, hi, K, hp => by have := hv.choose_spec.1; simp at this
  | x :: l, v :: vs, h, S, F, Fi, hg, hv, hi, K, hp => by
    obtain ⟨F0, Ft, hx, htl, hdt, hFi⟩ := hv.uncons
    have hit : Apart E w S F Ft := hi.sub fun k hk => (hFi k).2 (.inr hk)
    have rest : ∀ {h1 S1 F1 F2} (a : Stp E G w h S F h1 S1 F1) (y : AV), CR G w E.Ro S1 y v F2 → Apart E w S1 F1 F2 → (∀ k, F2 k → F0 k ∨ ∃ r, F r k) → (foldCs l h1 fun l h => K (y :: l) h) →
        ∃ l' h' S' F' Fy, K l' h' ∧ Stp E G w h S F h' S' F' ∧ CsR G w E.Ro S' l' (v :: vs) Fy ∧ Apart E w S' F' Fy ∧ ∀ k, Fy k → Fi k ∨ ∃ r, F r k := by
      intro h1 S1 F1 F2 a y hy ha hF hp
      obtain ⟨l', h', S', F', Fy, q1, q2, q3, q4, q5⟩ := foldCs_specG l vs a.good (htl.ext a.ext (fun _ _ => rfl)) (a.apart hit) hp
      have ha2 := q2.apart ha
      refine ⟨_, h', S', F', _, q1, a.trans q2, CsR.cons (hy.ext q2.ext (fun _ _ => rfl)) q3 (fun k h1 h2 => ?_), ⟨fun k hk => hk.elim (ha2.1 k) (q4.1 k), fun r k hr hk => hk.elim (ha2.2 r k hr) (q4.2 r k hr)⟩,
        fun k hk => hk.elim (fun h => (hF k h).imp (fun h => (hFi k).2 (.inl h)) id) (fun h => (q5 k h).imp (fun h => (hFi k).2 (.inr h)) (fun ⟨r, h⟩ => ⟨r, a.sub r k h⟩))⟩
      rcases q5 k h2 with h3 | ⟨r, hr⟩
      · rcases hF k h1 with h4 | ⟨r, h4⟩
        · exact hdt k h4 h3
        · exact hit.2 r k h4 h3
      · exact ha.2 r k hr h1
    have keep : (foldCs l h fun l h => K (x :: l) h) → _ := fun hp => rest (.refl hg) x hx (hi.sub fun k hk => (hFi k).2 (.inl hk)) (fun _ h => .inl h) hp
    cases x with
    | fn f caps =>
      simp only [foldCs] at hp
      obtain ⟨h2, h3, _⟩ := hx.vr rfl
      obtain ⟨us, rfl, u1, u2⟩ := h2.fn_inv
      obtain ⟨caps', h', S', F', q1, q2, q3, q4⟩ := frzL_spec caps us hg u1 u2 hp
      exact rest (F2 := fun _ => False) q2 (.fn f caps') (.inl ⟨rfl, .fn f caps' us q3 q4, rfl, fun _ h => h⟩) ⟨fun _ h => h.elim, fun _ _ _ h => h⟩ (fun _ h => h.elim) q1
    | slc r o n z =>
      by_cases ho : o = 0
      · subst ho
        simp only [foldCs] at hp
        obtain ⟨rt, hr, hp⟩ := rootK_spec hp
        cases rt with
        | lst s L =>
          obtain ⟨L', hL, hn, hs, hp2⟩ := hp
          rw [setK_eq] at hp2
          obtain ⟨g, hgr, hroot, hstp, hap⟩ := hg.kill hr
          obtain ⟨h2, h3, _⟩ := hx.vr rfl
          · obtain ⟨g', ad, c, p1, p2, p3, p4, p5⟩ := h2.slc_inv
            rw [hgr] at p1; cases p1
            subst p2
            obtain ⟨q1, q2, q3⟩ := hroot
            rcases p5 with p5 | ⟨b, p5, p6, p7⟩
            · have e1 : n = 0 := by omega
              subst p5; subst e1
              have : L' = [] := by cases L' with | nil => rfl | cons _ _ => simp at hn
              subst this
              exact rest (F2 := fun _ => False) hstp (.sl s []) (.inr (.sl0 s ad)) ⟨fun _ h => h.elim, fun _ _ _ h => h⟩ (fun _ h => h.elim) hp2
            subst p6
            rcases q3 with ⟨q3, _⟩ | ⟨b', cs, T, u1, u2, u3, u4, u5⟩
            · rw [q3] at p5; cases p5
            rw [p5] at u1; cases u1
            have q2' : ∀ e ∈ L', e.length = s := fun e he => q2 e (by rw [← hL] at he; exact List.mem_of_mem_take he)
            obtain ⟨Fy, c1, c2, c3⟩ := blk_csR u5
            have hpre : L'.flatten = L.flatten.take (n * s) := by
              have h1 := congrArg List.flatten (List.take_append_drop n L)
              rw [List.flatten_append, hL] at h1
              rw [← h1, List.take_append_of_le_length (by rw [flat_length _ _ q2', hn]; exact Nat.le_refl _), List.take_of_length_le (by rw [flat_length _ _ q2', hn]; exact Nat.le_refl _)]
            obtain ⟨Fz, d1, d2⟩ := c1.take (n * s)
            rw [← hpre] at d1
            obtain ⟨Fc, e1, e2, e3, e4⟩ := d1
            have hlen := flat_length _ _ q2'
            rw [hn] at hlen
            have hcs : ∀ j, j < L'.flatten.length → cs[j]? = some (cs.getD j undef) := fun j hj => by
              have : j < cs.size := by
                have : L'.flatten.length ≤ L.flatten.length := by rw [hpre]; simp; omega
                omega
              simp [Array.getD_eq_getD_getElem?, this]
            refine rest (F2 := fun k => k = b ∨ ∃ j, j < L'.flatten.length ∧ Fc j k) hstp (.sl s L') (.inr ?_) ⟨fun k hk => hap.1 k ?_, fun i k hi hk => hap.2 i k hi ?_⟩ (fun k hk => .inr ⟨r, ?_⟩) hp2
            · rw [Nat.zero_mul, ← hn]
              refine .sl s L' b c cs T (fun j => cs.getD j undef) Fc u2 q2' (by omega) (by rw [← q1, u3]; simpa using p7) hcs (fun j x hj => ?_) e3 (fun j k hj hk hkb => c3 (d2 b (hkb ▸ (e4 k).2 ⟨j, hj, hk⟩)))
              have hj' := (List.getElem?_eq_some_iff.1 hj).1
              have := e2 j x hj
              have hval : (segV cs 0 L.flatten.length |>.take (n * s)).getD j undef = cs.getD j undef := by
                have hjl : j < L.flatten.length := by
                  have : L'.flatten.length ≤ L.flatten.length := by rw [hpre]; simp; omega
                  omega
                rw [List.getD_eq_getElem?_getD, List.getElem?_take, if_pos (by omega), ← List.getD_eq_getElem?_getD, segV_getD _ _ _ _ hjl, Nat.zero_add]
              rw [hval] at this
              obtain ⟨e, he, hxe⟩ := List.mem_flatten.1 (List.mem_of_getElem? hj)
              exact this.or (hs e he x hxe)
            all_goals
              refine (c2 k).2 ?_
              exact hk.imp id fun ⟨j, hj, hk⟩ => d2 k ((e4 k).2 ⟨j, hj, hk⟩)
        | _ => exact hp.elim
      · refine keep ?_
        unfold foldCs at hp
        split at hp
        · rename_i heq; cases heq
        · rename_i heq; cases heq; exact absurd rfl ho
        · rename_i heq; cases heq
        · rename_i heq; cases heq; exact hp
    | _ => exact keep (by simpa only [foldCs] using hp)

theorem foldCs_spec (l : List AV) (vs : List Value) {h S F} (hg : Good E G h w S F) (hl : l.length = vs.length) (hv : ∀ (j : Nat) x, l[j]? = some x → C0 G w E.Ro S x (vs.getD j undef)) {K : List AV → HP → Prop} (hp : foldCs l h K) :
    ∃ l' h' S' F' Fy, K l' h' ∧ Stp E G w h S F h' S' F' ∧ CsR G w E.Ro S' l' vs Fy ∧ Apart E w S' F' Fy ∧ ∀ k, Fy k → ∃ r, F r k := by
  obtain ⟨l', h', S', F', Fy, h1, h2, h3, h4, h5⟩ := foldCs_specG l vs hg (CsR.of0 hl hv) ⟨fun _ h => h.elim, fun _ _ _ h => h⟩ hp
  exact ⟨l', h', S', F', Fy, h1, h2, h3, h4, fun k hk => (h5 k hk).elim (fun h => h.elim) id⟩
end

end Go.Proofs.Ytegcfogbdgmajaa.Ab
