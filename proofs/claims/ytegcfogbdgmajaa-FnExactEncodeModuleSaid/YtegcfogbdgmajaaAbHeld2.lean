/- What an operation that leaves memory alone answers is one value. No condition. -/
import Derived.Test.YtegcfogbdgmajaaAbHeld1
namespace Go.Proofs.Ytegcfogbdgmajaa.Ab
set_option linter.unusedVariables false
set_option linter.unusedSimpArgs false

/-- A word that hands on one value. -/
def Fnl {α : Type} (W : (α → Prop) → Prop) : Prop := ∀ k, W k → ∃ x, k x ∧ ∀ k' : α → Prop, k' x → W k'
section
variable {α β γ : Type}
theorem Fnl.pure (x : α) : Fnl (fun k => k x) := fun k h => ⟨x, h, fun _ h => h⟩
theorem Fnl.none : Fnl (fun _ : α → Prop => False) := fun k h => h.elim
theorem Fnl.and {P : Prop} {W : (α → Prop) → Prop} (h : Fnl W) : Fnl (fun k => P ∧ W k) := fun k hk => by
  obtain ⟨x, h1, h2⟩ := h k hk.2
  exact ⟨x, h1, fun k' h => ⟨hk.1, h2 k' h⟩⟩
theorem Fnl.ex {W : β → (α → Prop) → Prop} (h : ∀ b, Fnl (W b)) : Fnl (fun k => ∃ b, W b k) := fun k ⟨b, hk⟩ => by
  obtain ⟨x, h1, h2⟩ := h b k hk
  exact ⟨x, h1, fun k' h => ⟨b, h2 k' h⟩⟩
theorem Fnl.bind {V : (β → Prop) → Prop} {W : β → (α → Prop) → Prop} (hv : Fnl V) (h : ∀ b, Fnl (W b)) : Fnl (fun k => V fun b => W b k) := fun k hk => by
  obtain ⟨b, h1, h2⟩ := hv _ hk
  obtain ⟨x, h3, h4⟩ := h b k h1
  exact ⟨x, h3, fun k' h => h2 _ (h4 k' h)⟩
theorem Fnl.on {o : Option β} {W : β → (α → Prop) → Prop} (h : ∀ b, Fnl (W b)) : Fnl (fun k => on o fun b => W b k) := by
  cases o with
  | none => exact .none
  | some b => exact h b
theorem Fnl.ite {p : Prop} [Decidable p] {V W : (α → Prop) → Prop} (hv : Fnl V) (hw : Fnl W) : Fnl (fun k => if p then V k else W k) := by
  by_cases hp : p
  · simp only [hp, if_true]; exact hv
  · simp only [hp, if_false]; exact hw
theorem Fnl.bool {c : Bool} {V W : (α → Prop) → Prop} (hv : Fnl V) (hw : Fnl W) : Fnl (fun k => (c = true → V k) ∧ (c = false → W k)) := by
  cases c with
  | true => exact fun k h => (by obtain ⟨x, h1, h2⟩ := hv k (h.1 rfl); exact ⟨x, h1, fun k' h => ⟨fun _ => h2 k' h, fun h => (by cases h)⟩⟩)
  | false => exact fun k h => (by obtain ⟨x, h1, h2⟩ := hw k (h.2 rfl); exact ⟨x, h1, fun k' h => ⟨fun h => (by cases h), fun _ => h2 k' h⟩⟩)
end

theorem cutK_eq (l : List AV) (o n : Nat) (k : List AV → Prop) : cutK l o n k = (o + n ≤ l.length ∧ k ((l.drop o).take n)) := by
  induction l generalizing o n k with
  | nil => cases o <;> cases n <;> simp [cutK]
  | cons a l ih =>
    cases o with
    | zero =>
      cases n with
      | zero => simp [cutK]
      | succ n => simp [cutK, ih]
    | succ o => simp [cutK, ih]; intro _; omega
theorem layK_eq (l : List AV) (o : Nat) (cs : List AV) (k : List AV → Prop) : layK l o cs k = (o + cs.length ≤ l.length ∧ k (lay l o cs)) := by
  induction l generalizing o cs k with
  | nil => cases o <;> cases cs <;> simp [layK, lay]
  | cons a l ih =>
    cases o with
    | zero =>
      cases cs with
      | nil => simp [layK, lay]
      | cons c cs => simp [layK, ih, lay]
    | succ o => simp [layK, ih, lay, Nat.add_right_comm]
theorem Fnl.cut (l : List AV) (o n : Nat) : Fnl (cutK l o n) := fun k h => by
  rw [cutK_eq] at h
  exact ⟨_, h.2, fun k' h' => by rw [cutK_eq]; exact ⟨h.1, h'⟩⟩
theorem Fnl.lay (l : List AV) (o : Nat) (cs : List AV) : Fnl (layK l o cs) := fun k h => by
  rw [layK_eq] at h
  exact ⟨_, h.2, fun k' h' => by rw [layK_eq]; exact ⟨h.1, h'⟩⟩
theorem Fnl.fill (place : Nat → Option (Nat × Nat)) : ∀ (ps : List (Nat × AV)) (cells : List AV), Fnl (fillK place ps cells)
  | [], cells => .pure cells
  | (i, x) :: r, cells => by
    show Fnl fun k => fillK place ((i, x) :: r) cells k
    simp only [fillK]
    refine .on fun p => ?_
    cases x <;> first
      | exact .none
      | exact .ite (.bind (.lay _ _ _) fun c => Fnl.fill place r c) .none
theorem Fnl.eqC : ∀ (ks : List Nat) (l r : List AV), Fnl (eqCells ks l r)
  | ks, l, r => fun k h => by
    unfold eqCells at h ⊢
    split at h
    · exact ⟨_, h, fun _ h => h⟩
    · split at h
      · obtain ⟨e, h1, h2⟩ := Fnl.eqC _ _ _ _ h
        rename_i hj
        refine ⟨_, h1, fun k' h' => ?_⟩
        simp only [hj, if_true]
        exact h2 _ h'
      · exact h.elim
    · obtain ⟨e, h1, h2⟩ := Fnl.eqC _ _ _ _ h
      exact ⟨_, h1, fun k' h' => h2 _ h'⟩
    · obtain ⟨e, h1, h2⟩ := Fnl.eqC _ _ _ _ h
      exact ⟨_, h1, fun k' h' => h2 _ h'⟩
    · exact h.elim
theorem Fnl.intO (op : BinOp) (k : IntKind) (a b : Int) : Fnl (intOp op k a b) := by
  intro K h
  unfold intOp at h ⊢
  split at h
  all_goals first
    | exact ⟨_, h, fun _ h' => h'⟩
    | exact ⟨_, h.2, fun _ h' => ⟨h.1, h'⟩⟩
    | exact h.elim
theorem Fnl.bin (op : BinOp) (i : Option TI) (x y : AV) (hy : y ≠ .nils) : Fnl (binP op i x y) := by
  intro K h
  unfold binP at h
  split at h
  · exact ⟨_, h.2, fun _ h' => ⟨h.1, h'⟩⟩
  · exact ⟨_, h.2, fun _ h' => ⟨h.1, h'⟩⟩
  · exact ⟨_, h, fun _ h' => h'⟩
  · exact ⟨_, h, fun _ h' => h'⟩
  · exact ⟨_, h.2, fun _ h' => ⟨h.1, h'⟩⟩
  · cases i with
    | none => exact h.elim
    | some j =>
      simp only [Ab.on] at h
      split at h
      · rename_i hk
        exact ⟨_, h, fun _ h' => by simp only [binP, Ab.on, hk]; exact h'⟩
      · exact h.elim
  · cases i with
    | none => exact h.elim
    | some j =>
      simp only [Ab.on] at h
      split at h
      · rename_i hk
        exact ⟨_, h, fun _ h' => by simp only [binP, Ab.on, hk]; exact h'⟩
      · exact h.elim
  · cases i with
    | none => exact h.elim
    | some j =>
      simp only [Ab.on] at h
      split at h
      · exact h.elim
      · obtain ⟨e, h1, h2⟩ := Fnl.eqC _ _ _ _ h
        exact ⟨_, h1, fun k' h' => by simp only [binP, Ab.on]; exact h2 _ h'⟩
  · cases i with
    | none => exact h.elim
    | some j =>
      simp only [Ab.on] at h
      split at h
      · exact h.elim
      · obtain ⟨e, h1, h2⟩ := Fnl.eqC _ _ _ _ h
        exact ⟨_, h1, fun k' h' => by simp only [binP, Ab.on]; exact h2 _ h'⟩
  · exact absurd rfl hy
  · exact absurd rfl hy
  · split at h
    · rename_i hk
      subst hk
      obtain ⟨e, h1, h2⟩ := Fnl.intO _ _ _ _ _ h
      refine ⟨_, h1, fun K' h' => ?_⟩
      have h3 := h2 _ h'
      cases op <;> first | (simp only [binP, if_true]; exact h3) | (simp only [intOp] at h3)
    · exact h.elim
  · exact h.elim
end Go.Proofs.Ytegcfogbdgmajaa.Ab
