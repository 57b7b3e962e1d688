/- What is known, put into order: the roots that are reached are taken out, their cells folded; values are named anew. No condition. -/
import Derived.Test.YtegcfogbdgmajaaAbOps7
namespace Go.Proofs.Ytegcfogbdgmajaa.Ab
set_option linter.unusedVariables false
set_option linter.unusedSimpArgs false

/-- A root that asks no root; 'st': nor memory that is not for ever as it is. -/
def RootC (st : Bool) (w : World) (Ro S : BS) (rt : Root) (g : Gh) (F : BS) : Prop := (∀ G2, RootR G2 w Ro S rt g F) ∧ (st = true → ∀ G2 Ro2, RootR G2 w Ro2 S rt g F)

theorem BlkR.map {G G2 : List Gh} {w : World} {Ro Ro2 S : BS} {fl b cs F} (h : BlkR G w Ro S fl b cs F) (hm : ∀ x ∈ fl, ∀ v F, CR G w Ro S x v F → CR G2 w Ro2 S x v F) : BlkR G2 w Ro2 S fl b cs F := by
  obtain ⟨cv, Fc, h1, h2, h3, h4, h5⟩ := h
  exact ⟨cv, Fc, h1, fun j a hj => hm a (List.mem_of_getElem? hj) _ _ (h2 j a hj), h3, h4, h5⟩

theorem rootOk_spec {G : List Gh} {w : World} {Ro S : BS} {st : Bool} {rt : Root} {g : Gh} {F : BS} {k : Prop} (h : RootR G w Ro S rt g F) (hp : rootOk st rt k) : k ∧ RootC st w Ro S rt g F := by
  unfold rootOk at hp
  cases rt with
  | box cells =>
    obtain ⟨b, cs, T, h1, h2, h3, h4⟩ := h
    cases st with
    | true =>
      simp only at hp
      split at hp
      · rename_i hs
        have hs := List.all_eq_true.1 hs
        exact ⟨hp, fun G2 => ⟨b, cs, T, h1, h2, h3, h4.map fun x hx v F hc => hc.shut (hs x hx)⟩, fun _ G2 Ro2 => ⟨b, cs, T, h1, h2, h3, h4.map fun x hx v F hc => hc.shut (hs x hx)⟩⟩
      · exact hp.elim
    | false =>
      simp only at hp
      split at hp
      · rename_i hs
        have hs := List.all_eq_true.1 hs
        exact ⟨hp, fun G2 => ⟨b, cs, T, h1, h2, h3, h4.map fun x hx v F hc => hc.wk (fun _ h => h) (hs x hx)⟩, fun h => by cases h⟩
      · exact hp.elim
  | lst s l =>
    obtain ⟨hs, hk⟩ := hp
    obtain ⟨h1, h2, h3⟩ := h
    have key : ∀ G2 Ro2, RootR G2 w Ro2 S (.lst s l) g F := fun G2 Ro2 => ⟨h1, h2, h3.imp id fun ⟨b, cs, T, q1, q2, q3, q4, q5⟩ => ⟨b, cs, T, q1, q2, q3, q4, q5.map fun x hx v F hc => by
      obtain ⟨e, he, hx⟩ := List.mem_flatten.1 hx
      exact hc.shut (shutC_of_shutF (hs e he x hx))⟩⟩
    exact ⟨hk, fun G2 => key G2 Ro, fun _ => key⟩
  | mp tag l => exact ⟨hp, fun _ => h, fun _ _ _ => h⟩
  | dead => exact ⟨hp, fun _ => h, fun _ _ _ => h⟩

theorem RootC.ext {st : Bool} {E : Env} {G : List Gh} {w w' : World} {S S' : BS} {rt g F} (h : RootC st w E.Ro S rt g F) (hs : ∀ k, S k → S' k) (hss : ∀ k, S k → w'.heap[k]? = w.heap[k]?) (hro : ∀ k, E.Ro k → w'.heap[k]? = w.heap[k]?) (hF : ∀ k, F k → w'.heap[k]? = w.heap[k]?) : RootC st w' E.Ro S' rt g F := by
  refine ⟨fun G2 => (h.1 G2).ext (E := E) ⟨fun _ _ h => h, hs, hss, hro⟩ hF, fun hst G2 Ro2 => ?_⟩
  have := (h.2 hst G2 (fun _ => False)).ext (E := ⟨E.w0, E.O, E.S0, fun _ => False, E.ws, E.G0⟩) (G' := G2) ⟨fun _ _ h => h, hs, hss, fun _ h => h.elim⟩ hF
  cases rt with
  | box cells =>
    obtain ⟨b, cs, T, h1, h2, h3, h4⟩ := this
    exact ⟨b, cs, T, h1, h2, h3, h4.map fun x hx v F hc => hc.ror⟩
  | lst s l =>
    obtain ⟨h1, h2, h3⟩ := this
    exact ⟨h1, h2, h3.imp id fun ⟨b, cs, T, q1, q2, q3, q4, q5⟩ => ⟨b, cs, T, q1, q2, q3, q4, q5.map fun x hx v F hc => hc.ror⟩⟩
  | mp tag l => exact this
  | dead => exact this

/-- Roots that are taken out, in their order. -/
structure Tk (E : Env) (st : Bool) (G : List Gh) (w : World) (S : BS) (F : Nat → BS) (ρ : List Nat) (hs : HP) (Ft : Nat → BS) : Prop where
  len : ρ.length = hs.length
  root : ∀ (j r : Nat) rt, ρ[j]? = some r → hs[j]? = some rt → ∃ g, G[r]? = some g ∧ RootC st w E.Ro S rt g (Ft j)
  dis : ∀ i j k, Ft i k → Ft j k → i = j
  out : ∀ j k, hs.length ≤ j → ¬ Ft j k
  ap : ∀ j, Apart E w S F (Ft j)
theorem Tk.nil {E st G w S F} : Tk E st G w S F [] [] (fun _ _ => False) :=
  ⟨rfl, by simp, fun _ _ _ h => h.elim, fun _ _ _ h => h, fun _ => ⟨fun _ h => h.elim, fun _ _ _ h => h⟩⟩
theorem Tk.step {E st G w h S F ρ hs Ft h' S' F'} (T : Tk E st G w S F ρ hs Ft) (a : Stp E G w h S F h' S' F') : Tk E st G w S' F' ρ hs Ft :=
  ⟨T.len, fun j r rt h1 h2 => by obtain ⟨g, q1, q2⟩ := T.root j r rt h1 h2; exact ⟨g, q1, q2.ext (G := G) a.s (fun _ _ => rfl) (fun _ _ => rfl) (fun _ _ => rfl)⟩, T.dis, T.out, fun j => a.apart (T.ap j)⟩

/-- A list of ghosts that has, at the roots' new places, theirs. -/
def Mt (ρ : List Nat) (G G2 : List Gh) : Prop := ∀ (j r : Nat) g, ρ[j]? = some r → G[r]? = some g → G2[j]? = some g
theorem Mt.pre {ρ ρ' : List Nat} {G G2} (h : Mt (ρ ++ ρ') G G2) : Mt ρ G G2 := fun j r g h1 h2 => h j r g (by rw [List.getElem?_append_left (List.getElem?_eq_some_iff.1 h1).1]; exact h1) h2

theorem snocK_eq (ρ : List Nat) (r : Nat) (k : List Nat → Prop) : snocK ρ r k = k (ρ ++ [r]) := by
  induction ρ generalizing k with
  | nil => rfl
  | cons a ρ ih => simp only [snocK, ih, List.cons_append]
theorem idxK_aux (r : Nat) : ∀ (ρ ns : List Nat) (k : Nat → Prop) (no : Prop), idxK r ρ ns k no → (∃ i j : Nat, ρ[i]? = some r ∧ ns[i]? = some j ∧ k j) ∨ no
  | [], _, k, no, h => .inr h
  | a :: l, [], k, no, h => by simp [idxK] at h
  | a :: l, n :: ns, k, no, h => by
    simp only [idxK] at h
    split at h
    · rename_i hb
      exact .inl ⟨0, n, by simpa using Nat.eq_of_beq_eq_true hb, rfl, h⟩
    · rcases idxK_aux r l ns k no h with ⟨i, j, h1, h2, h3⟩ | h
      · exact .inl ⟨i + 1, j, by simpa using h1, by simpa using h2, h3⟩
      · exact .inr h
theorem idxK_spec {r : Nat} {ρ : List Nat} {k : Nat → Prop} {no : Prop} (h : idxK r ρ nums k no) : (∃ j : Nat, ρ[j]? = some r ∧ k j) ∨ no := by
  rcases idxK_aux r ρ nums k no h with ⟨i, j, h1, h2, h3⟩ | h
  · rw [nums_get _ _ h2] at h3; exact .inl ⟨i, h1, h3⟩
  · exact .inr h

section
variable {E : Env} {G : List Gh} {w : World} {st : Bool}

theorem foldRt_spec {h S F Fr} (hg : Good E G h w S F) {rt : Root} {g : Gh} (hr : RootR G w E.Ro S rt g Fr) (ha : Apart E w S F Fr) {k : Root → HP → Prop} (hp : foldRt rt h k) :
    ∃ rt' h' S' F' Fy, k rt' h' ∧ Stp E G w h S F h' S' F' ∧ RootR G w E.Ro S' rt' g Fy ∧ Apart E w S' F' Fy ∧ ∀ k, Fy k → Fr k ∨ ∃ r, F r k := by
  have same : ∀ rt, RootR G w E.Ro S rt g Fr → k rt h → ∃ rt' h' S' F' Fy, k rt' h' ∧ Stp E G w h S F h' S' F' ∧ RootR G w E.Ro S' rt' g Fy ∧ Apart E w S' F' Fy ∧ ∀ k, Fy k → Fr k ∨ ∃ r, F r k := fun rt h1 h2 => ⟨rt, h, S, F, Fr, h2, .refl hg, h1, ha, fun _ h => .inl h⟩
  cases rt with
  | box cells =>
    obtain ⟨b, cs, T, h1, h2, h3, h4⟩ := hr
    obtain ⟨F0, q1, q2, q3⟩ := blk_csR h4
    obtain ⟨l', h', S', F', Fy, r1, r2, r3, r4, r5⟩ := foldCs_specG cells _ hg q1 (ha.sub fun k hk => (q2 k).2 (.inr hk)) hp
    have hFb : Fr b := (q2 b).2 (.inl rfl)
    have hyb : ¬ Fy b := fun hk => by
      rcases r5 b hk with h | ⟨r, h⟩
      · exact q3 h
      · exact ha.2 r b h hFb
    have hl : l'.length = cells.length := by have := r3.choose_spec.1; rw [segV_length] at this; exact this
    have hblk := r3.blk (b := b) (cs := cs) (fun j hj => by
      have hjs : j < cs.size := by omega
      simp [segV, show j < cells.length by omega, Array.getD_eq_getD_getElem?, hjs]) hyb
    have ha2 := r2.apart ha
    refine ⟨.box l', h', S', F', _, r1, r2, ⟨b, cs, T, h1, h2, by omega, hblk⟩, ⟨fun k hk => ?_, fun r k hr hk => ?_⟩, fun k hk => ?_⟩
    · rcases hk with rfl | hk
      · exact ha2.1 _ hFb
      · exact r4.1 k hk
    · rcases hk with rfl | hk
      · exact ha2.2 r _ hr hFb
      · exact r4.2 r k hr hk
    · rcases hk with rfl | hk
      · exact .inl hFb
      · exact (r5 k hk).imp (fun h => (q2 k).2 (.inr h)) id
  | lst s l => exact same _ hr hp
  | mp t l => exact same _ hr hp
  | dead => exact same _ hr hp

theorem grabK_spec {h S F ρ hs Ft} (hg : Good E G h w S F) (T : Tk E st G w S F ρ hs Ft) {r : Nat} {rt : Root} (hr : h[r]? = some rt) {k : Nat → List Nat → HP → HP → Prop} (hp : grabK st r rt ρ hs h k) :
    ∃ rt' h' S' F' Ft', k ρ.length (ρ ++ [r]) (hs ++ [rt']) h' ∧ Stp E G w h S F h' S' F' ∧ Tk E st G w S' F' (ρ ++ [r]) (hs ++ [rt']) Ft' := by
  unfold grabK at hp
  rw [setK_eq] at hp
  obtain ⟨g, hgr, hroot, st1, ap1⟩ := hg.kill hr
  obtain ⟨rt', h', S', F', Fy, hp2, st2, hrt, ap2, hFy⟩ := foldRt_spec st1.good hroot ap1 hp
  obtain ⟨hp3, hC⟩ := rootOk_spec hrt hp2
  have hp4 := newK_spec hp3
  rw [snocK_eq] at hp4
  have T2 := (T.step st1).step st2
  have hl : hs.length = ρ.length := T.len.symm
  have hdis : ∀ j k, Ft j k → ¬ Fy k := by
    intro j k hj hy
    rcases hFy k hy with h | ⟨i, h⟩
    · exact (T.ap j).2 r k h hj
    · exact (T.ap j).2 i k (st1.sub i k h) hj
  refine ⟨rt', h', S', F', fun j => if j = hs.length then Fy else Ft j, by rw [← hl]; exact hp4, st1.trans st2, ?_⟩
  constructor
  · simp [hl]
  · intro j r' rt'' h1 h2
    by_cases hj : j = hs.length
    · subst hj
      rw [List.getElem?_append_right (by omega)] at h1
      rw [List.getElem?_append_right (Nat.le_refl _)] at h2
      simp [hl] at h1 h2
      subst h1; subst h2
      exact ⟨g, hgr, by simpa using hC⟩
    · have hlt : j < hs.length := by have := (List.getElem?_eq_some_iff.1 h2).1; simp at this; omega
      rw [List.getElem?_append_left (by omega)] at h1 h2
      simp only [hj, if_false]
      exact T2.root j r' rt'' h1 h2
  · intro i j k hi hj
    by_cases h1 : i = hs.length <;> by_cases h2 : j = hs.length <;> simp only [h1, h2, if_true, if_false] at hi hj
    · omega
    · exact absurd hi (hdis j k hj)
    · exact absurd hj (hdis i k hi)
    · exact T2.dis i j k hi hj
  · intro j k hj
    simp at hj
    simp only [show ¬ j = hs.length by omega, if_false]
    exact T2.out j k (by omega)
  · intro j
    by_cases hj : j = hs.length
    · simp only [hj, if_true]; exact ap2
    · simp only [hj, if_false]; exact T2.ap j

/-- What putting a value into order gives. -/
def CanS (E : Env) (G : List Gh) (w : World) (st : Bool) (f : AV → List Nat → HP → HP → CK → Prop) : Prop :=
  ∀ {x : AV} {v : Value} {ρ : List Nat} {hs h : HP} {S : BS} {F Ft : Nat → BS} {k : CK}, Good E G h w S F → Tk E st G w S F ρ hs Ft → VR G w E.Ro S x v → f x ρ hs h k →
    ∃ y ρ' hs' h' S' F' Ft', k y (ρ ++ ρ') hs' h' ∧ Stp E G w h S F h' S' F' ∧ Tk E st G w S' F' (ρ ++ ρ') hs' Ft' ∧ ∀ G2, Mt (ρ ++ ρ') G G2 → VR G2 w E.Ro S' y v ∧ (st = true → ∀ Ro2, VR G2 w Ro2 S' y v)

theorem refK_spec {ρ : List Nat} {hs h : HP} {S : BS} {F Ft : Nat → BS} {r : Nat} {k : Nat → List Nat → HP → HP → Prop} {no : Prop} (hg : Good E G h w S F) (T : Tk E st G w S F ρ hs Ft) (hp : refK st r ρ hs h k no) :
    no ∨ ∃ j ρ' hs' h' S' F' Ft', k j (ρ ++ ρ') hs' h' ∧ Stp E G w h S F h' S' F' ∧ Tk E st G w S' F' (ρ ++ ρ') hs' Ft' ∧ (ρ ++ ρ')[j]? = some r := by
  rcases idxK_spec hp with ⟨j, h1, h2⟩ | hp
  · exact .inr ⟨j, [], hs, h, S, F, Ft, by simpa using h2, .refl hg, by simpa using T, by simpa using h1⟩
  · obtain ⟨rt, hr, hp2⟩ := rootK_spec hp
    have go : grabK st r rt ρ hs h k → no ∨ ∃ j ρ' hs' h' S' F' Ft', k j (ρ ++ ρ') hs' h' ∧ Stp E G w h S F h' S' F' ∧ Tk E st G w S' F' (ρ ++ ρ') hs' Ft' ∧ (ρ ++ ρ')[j]? = some r := fun hp => by
      obtain ⟨rt', h', S', F', Ft', q1, q2, q3⟩ := grabK_spec hg T hr hp
      exact .inr ⟨ρ.length, [r], _, h', S', F', Ft', q1, q2, q3, by simp⟩
    cases rt with
    | dead => exact .inl hp2
    | box l => exact go hp2
    | lst s l => exact go hp2
    | mp t l => exact go hp2

theorem can0 : CanS E G w st (canV0 st) := by
  intro x v ρ hs h S F Ft k hg T hv hp
  have stay : ∀ y, k y ρ hs h → (∀ G2, VR G2 w E.Ro S y v) → (st = true → ∀ G2 Ro2, VR G2 w Ro2 S y v) → ∃ y ρ' hs' h' S' F' Ft', k y (ρ ++ ρ') hs' h' ∧ Stp E G w h S F h' S' F' ∧ Tk E st G w S' F' (ρ ++ ρ') hs' Ft' ∧ ∀ G2, Mt (ρ ++ ρ') G G2 → VR G2 w E.Ro S' y v ∧ (st = true → ∀ Ro2, VR G2 w Ro2 S' y v) :=
    fun y h1 h2 h3 => ⟨y, [], hs, h, S, F, Ft, by simpa using h1, .refl hg, by simpa using T, fun G2 _ => ⟨h2 G2, fun hst Ro2 => h3 hst G2 Ro2⟩⟩
  have ref : ∀ (r : Nat) (f : Nat → AV), refK st r ρ hs h (fun j ρ hs h => k (f j) ρ hs h) (k .top ρ hs h) → (∀ j ρ' G2, (ρ ++ ρ')[j]? = some r → Mt (ρ ++ ρ') G G2 → ∀ S' Ro2, VR G2 w Ro2 S' (f j) v) →
      ∃ y ρ' hs' h' S' F' Ft', k y (ρ ++ ρ') hs' h' ∧ Stp E G w h S F h' S' F' ∧ Tk E st G w S' F' (ρ ++ ρ') hs' Ft' ∧ ∀ G2, Mt (ρ ++ ρ') G G2 → VR G2 w E.Ro S' y v ∧ (st = true → ∀ Ro2, VR G2 w Ro2 S' y v) := by
    intro r f hp hf
    rcases refK_spec hg T hp with h | ⟨j, ρ', hs', h', S', F', Ft', q1, q2, q3, q4⟩
    · exact stay .top h (fun _ => .top _) (fun _ _ _ => .top _)
    · exact ⟨_, ρ', hs', h', S', F', Ft', q1, q2, q3, fun G2 hM => ⟨hf j ρ' G2 q4 hM S' _, fun _ Ro2 => hf j ρ' G2 q4 hM S' Ro2⟩⟩
  have pure : ∀ y, y = x → y.pure1 = true → (st = true → y.shut1 = true) → k y ρ hs h → _ := fun y hy h1 h2 hp =>
    stay y hp (fun _ => by subst hy; exact hv.pure1 (fun _ h => h) h1) (fun hst _ _ => by subst hy; exact hv.shut1 (h2 hst))
  cases x <;> simp only [canV0] at hp
  case top => exact stay _ hp (fun _ => .top _) (fun _ _ _ => .top _)
  case v x => exact pure _ rfl rfl (fun _ => rfl) hp
  case nils => exact pure _ rfl rfl (fun _ => rfl) hp
  case ptr r i o n =>
    obtain ⟨b, g, h1, h2, rfl⟩ := hv.ptr_inv
    exact ref r (fun j => .ptr j i o n) hp (fun j ρ' G2 hj hM S' _ => .ptr j i o n b g (hM j r g hj h1) h2)
  case aptr r o q =>
    obtain ⟨b, g, h1, h2, rfl⟩ := hv.aptr_inv
    exact ref r (fun j => .aptr j o q) hp (fun j ρ' G2 hj hM S' _ => .aptr j o q b g (hM j r g hj h1) h2)
  case slc r o n z =>
    obtain ⟨g, a, c, h1, rfl, h3, h4, h5⟩ := hv.slc_inv
    exact ref r (fun j => .slc j o n false) hp (fun j ρ' G2 hj hM S' _ => .slc j o n false g a c (hM j r g hj h1) h3 (by simp) h5)
  case bsl r o n =>
    obtain ⟨b, g, c, h1, h2, h3, rfl⟩ := hv.bsl_inv
    exact ref r (fun j => .bsl j o n) hp (fun j ρ' G2 hj hM S' _ => .bsl j o n b c g (hM j r g hj h1) h2 h3)
  case mapr r =>
    obtain ⟨b, g, h1, h2, rfl⟩ := hv.mapr_inv
    exact ref r (fun j => .mapr j) hp (fun j ρ' G2 hj hM S' _ => .mapr j b g (hM j r g hj h1) h2)
  case pan x => exact hv.pan_inv.elim
  case imm t z s l =>
    split at hp
    · exact hp.elim
    · rename_i hb
      exact pure _ rfl rfl (fun hst => by subst hst; cases t <;> first | rfl | simp at hb) hp
  case iptr t l =>
    split at hp
    · exact hp.elim
    · rename_i hb
      exact pure _ rfl rfl (fun hst => by subst hst; cases t <;> first | rfl | simp at hb) hp
  case fn f caps =>
    cases caps with
    | nil => exact pure _ rfl rfl (fun _ => rfl) hp
    | cons _ _ => exact hp.elim

theorem canL_spec {f : AV → List Nat → HP → HP → CK → Prop} (hf : CanS E G w st f) : ∀ (l : List AV) (vs : List Value) {ρ : List Nat} {hs h : HP} {S : BS} {F Ft : Nat → BS} {k : List AV → List Nat → HP → HP → Prop}, Good E G h w S F → Tk E st G w S F ρ hs Ft → (∀ (j : Nat) x, l[j]? = some x → VR G w E.Ro S x (vs.getD j undef)) → canL f l ρ hs h k →
    ∃ y ρ' hs' h' S' F' Ft', k y (ρ ++ ρ') hs' h' ∧ Stp E G w h S F h' S' F' ∧ Tk E st G w S' F' (ρ ++ ρ') hs' Ft' ∧ y.length = l.length ∧ ∀ G2, Mt (ρ ++ ρ') G G2 → ∀ (j : Nat) x, y[j]? = some x → VR G2 w E.Ro S' x (vs.getD j undef) ∧ (st = true → ∀ Ro2, VR G2 w Ro2 S' x (vs.getD j undef))
  | [], vs, ρ, hs, h, S, F, Ft, k, hg, T, hv, hp => ⟨[], [], hs, h, S, F, Ft, by simpa [canL] using hp, .refl hg, by simpa using T, rfl, by simp⟩
  | x :: l, vs, ρ, hs, h, S, F, Ft, k, hg, T, hv, hp => by
    obtain ⟨y, ρ1, hs1, h1, S1, F1, Ft1, a1, a2, a3, a4⟩ := hf hg T (hv 0 x rfl) hp
    obtain ⟨ys, ρ2, hs2, h2, S2, F2, Ft2, b1, b2, b3, b4, b5⟩ := canL_spec hf l vs.tail a2.good a3 (fun j z hj => by
      have := (hv (j + 1) z (by simpa using hj)).ext a2.ext
      cases vs <;> simpa using this) a1
    rw [List.append_assoc] at b1 b3 b5
    refine ⟨y :: ys, ρ1 ++ ρ2, hs2, h2, S2, F2, Ft2, b1, a2.trans b2, b3, by simp [b4], fun G2 hM j z hj => ?_⟩
    cases j with
    | zero =>
      simp at hj; subst hj
      obtain ⟨q1, q2⟩ := a4 G2 (by rw [← List.append_assoc] at hM; exact hM.pre)
      exact ⟨q1.ext (E := E) ⟨fun _ _ h => h, b2.s, fun _ _ => rfl, fun _ _ => rfl⟩, fun hst Ro2 => (q2 hst Ro2).ext (E := ⟨E.w0, E.O, E.S0, Ro2, E.ws, E.G0⟩) ⟨fun _ _ h => h, b2.s, fun _ _ => rfl, fun _ _ => rfl⟩⟩
    | succ j =>
      have := b5 G2 hM j z (by simpa using hj)
      cases vs <;> simpa using this

theorem can1 : CanS E G w st (canV1 st) := by
  intro x v ρ hs h S F Ft k hg T hv hp
  cases x
  case fn f caps =>
    obtain ⟨vs, rfl, h1, h2⟩ := hv.fn_inv
    obtain ⟨ys, ρ', hs', h', S', F', Ft', b1, b2, b3, b4, b5⟩ := canL_spec (can0 (st := st)) caps vs hg T h2 hp
    exact ⟨_, ρ', hs', h', S', F', Ft', b1, b2, b3, fun G2 hM => ⟨.fn f ys vs (b4.trans h1) (fun j x hj => (b5 G2 hM j x hj).1), fun hst Ro2 => .fn f ys vs (b4.trans h1) (fun j x hj => (b5 G2 hM j x hj).2 hst Ro2)⟩⟩
  all_goals exact can0 hg T hv hp
theorem can2 : CanS E G w st (canV2 st) := by
  intro x v ρ hs h S F Ft k hg T hv hp
  cases x
  case agg l =>
    obtain ⟨vs, rfl, h1, h2, h3⟩ := hv.agg_inv
    obtain ⟨ys, ρ', hs', h', S', F', Ft', b1, b2, b3, b4, b5⟩ := canL_spec (can1 (st := st)) l vs hg T h3 hp
    exact ⟨_, ρ', hs', h', S', F', Ft', b1, b2, b3, fun G2 hM => ⟨.agg ys vs (b4.trans h1) h2 (fun j x hj => (b5 G2 hM j x hj).1), fun hst Ro2 => .agg ys vs (b4.trans h1) h2 (fun j x hj => (b5 G2 hM j x hj).2 hst Ro2)⟩⟩
  all_goals exact can1 hg T hv hp
theorem can3 : CanS E G w st (canV3 st) := by
  intro x v ρ hs h S F Ft k hg T hv hp
  cases x
  case tup l =>
    obtain ⟨vs, rfl, h1, h3⟩ := hv.tup_inv
    obtain ⟨ys, ρ', hs', h', S', F', Ft', b1, b2, b3, b4, b5⟩ := canL_spec (can2 (st := st)) l vs hg T h3 hp
    exact ⟨_, ρ', hs', h', S', F', Ft', b1, b2, b3, fun G2 hM => ⟨.tup ys vs (b4.trans h1) (fun j x hj => (b5 G2 hM j x hj).1), fun hst Ro2 => .tup ys vs (b4.trans h1) (fun j x hj => (b5 G2 hM j x hj).2 hst Ro2)⟩⟩
  all_goals exact can2 hg T hv hp

theorem takeN_spec : ∀ (n : Nat) (is ρ : List Nat) {hs h : HP} {S : BS} {F Ft : Nat → BS} {k : List Nat → HP → HP → Prop}, (∀ (j i : Nat), is[j]? = some i → i = ρ.length + j) → Good E G h w S F → Tk E st G w S F ρ hs Ft → takeN st n is ρ hs h k →
    ∃ hs' h' S' F' Ft', k (ρ ++ List.range' ρ.length n) hs' h' ∧ Stp E G w h S F h' S' F' ∧ Tk E st G w S' F' (ρ ++ List.range' ρ.length n) hs' Ft'
  | 0, is, ρ, hs, h, S, F, Ft, k, _, hg, T, hp => ⟨hs, h, S, F, Ft, by simpa [takeN] using hp, .refl hg, by simpa using T⟩
  | n + 1, [], ρ, hs, h, S, F, Ft, k, _, hg, T, hp => hp.elim
  | n + 1, i :: is, ρ, hs, h, S, F, Ft, k, hi, hg, T, hp => by
    simp only [takeN] at hp
    obtain ⟨rt, hr, hp1⟩ := rootK_spec hp
    obtain ⟨rt', h', S', F', Ft', q1, q2, q3⟩ := grabK_spec hg T hr hp1
    have hi0 : i = ρ.length := by simpa using hi 0 i rfl
    subst hi0
    obtain ⟨hs2, h2, S2, F2, Ft2, r1, r2, r3⟩ := takeN_spec n is (ρ ++ [ρ.length]) (fun j i hj => by have := hi (j + 1) i (by simpa using hj); simp; omega) q2.good q3 q1
    rw [List.append_assoc, List.length_append, List.length_singleton] at r1 r3
    rw [List.range'_succ]
    exact ⟨hs2, h2, S2, F2, Ft2, r1, q2.trans r2, r3⟩

/-- The ghosts of the roots that were taken out. -/
def ghs (G : List Gh) (ρ : List Nat) : List Gh := ρ.map fun r => G.getD r ⟨none, 0, 0⟩
theorem mt_ghs (G : List Gh) (ρ : List Nat) : Mt ρ G (ghs G ρ) := fun j r g h1 h2 => by
  simp only [ghs, List.getElem?_map, h1, Option.map_some, List.getD_eq_getElem?_getD, h2, Option.getD_some]

theorem foldE_spec : ∀ (fs : List (Nat × Nat × Nat)) {h : HP} {S : BS} {F : Nat → BS} {k : HP → Prop}, Good E G h w S F → foldE fs h k → ∃ h' S' F', k h' ∧ Good E G h' w S' F' ∧ ∀ k, S k → S' k
  | [], h, S, F, k, hg, hp => ⟨h, S, F, hp, hg, fun _ h => h⟩
  | (r, e, f) :: fs, h, S, F, k, hg, hp => by
    simp only [foldE] at hp
    obtain ⟨rt, hr, hp1⟩ := rootK_spec hp
    cases rt with
    | lst s l0 =>
      obtain ⟨el, hel, hp2⟩ := hp1
      obtain ⟨c1, hp3⟩ := cutK_spec _ _ _ _ hp2
      split at hp3
      · rename_i r' o n z hcut
        rw [setK_eq] at hp3
        obtain ⟨g, hgr, hroot, st1, ap1⟩ := hg.kill hr
        obtain ⟨q1, q2, q3⟩ := hroot
        have hells : el.length = s := q2 el (List.mem_of_getElem? hel)
        have hfl : f < el.length := by omega
        have helf : el[f]? = some (.slc r' o n z) := by
          have := congrArg (fun l => l[0]?) hcut
          simpa [List.getElem?_take, List.getElem?_drop] using this
        have hpl : l0.flatten[e * s + f]? = some (.slc r' o n z) := (flat_get s l0 q2 e el hel f (by omega)).trans helf
        rcases q3 with ⟨_, q3, _⟩ | ⟨b, cs, T, u1, u2, u3, u4, u5⟩
        · subst q3; simp at hel
        obtain ⟨cv, Fc, w1, w2, w3, w4, w5⟩ := u5
        have hpl' := (List.getElem?_eq_some_iff.1 hpl).1
        obtain ⟨hvr, hone, _⟩ := (w2 _ _ hpl).vr rfl
        have hval := w1 _ hpl'
        obtain ⟨cs', h2, S2, F2, Fy, hp4, st2, hcr, hap, hFy⟩ := foldCs_spec [.slc r' o n z] [cv (e * s + f)] st1.good rfl (fun j x hj => by
          cases j with
          | zero => simp at hj; subst hj; exact .inl ⟨rfl, by simpa using hvr, by simpa using hone⟩
          | succ j => simp at hj) hp3
        obtain ⟨c6, hp5⟩ := layK_spec _ _ _ _ hp4
        rw [setK_eq] at hp5
        have hcl : cs'.length = 1 := hcr.choose_spec.1
        obtain ⟨l1, l2⟩ := lst_lay q2 hel c6
        have hblk : BlkR G w E.Ro S2 l0.flatten b cs (F r) := BlkR.ext (E := E) (G' := G) ⟨fun _ _ h => h, fun k h => st2.s k (st1.s k h), fun _ _ => rfl, fun _ _ => rfl⟩ ⟨cv, Fc, w1, w2, w3, w4, w5⟩ (fun _ _ _ => rfl)
        have ap2 := st2.apart ap1
        have hdis : ∀ k, F r k → ¬ Fy k := fun k h1 h2 => by obtain ⟨i, hi⟩ := hFy k h2; exact ap1.2 i k hi h1
        obtain ⟨F3, hF3, hsub⟩ := blkR_put hblk (cs' := cs) hcr hdis l2 (fun j => by
          simp only [List.length_singleton]
          split
          · rename_i hj
            have : j = e * s + f := by omega
            subst this
            rw [Nat.sub_self, hval]; rfl
          · rfl)
        have hlen : (lay l0.flatten (e * s + f) cs').length = l0.flatten.length := lay_length l2
        have hrt : RootR G w E.Ro S2 (.lst s (l0.set e (lay el f cs'))) g F3 := ⟨q1, l1.2, .inr ⟨b, cs, T, u1, u2, u3, by rw [← l1.1, hlen]; exact u4, by rw [← l1.1]; exact hF3⟩⟩
        have hrl : r < h2.length := by rw [st2.len, st1.len]; exact (List.getElem?_eq_some_iff.1 hr).1
        have hg3 := st2.good.setRoot' hrl hgr (Chg.refl w _) hrt (fun i k hi h1 h2 => ?_) (fun k hk => ?_)
        · obtain ⟨h', S', F', r1, r2, r3⟩ := foldE_spec fs hg3 hp5
          exact ⟨h', S', F', r1, r2, fun k h => r3 k (st2.s k (st1.s k h))⟩
        · rcases hsub k h2 with h | h
          · exact ap2.2 i k h1 h
          · exact hap.2 i k h1 h
        · rcases hsub k hk with h | h
          · exact ap2.1 k h
          · exact hap.1 k h
      · exact hp3.elim
    | _ => exact hp1.elim

/-- What was taken out stands by itself, under its ghosts. -/
theorem Tk.good {ρ hs h S F Ft} (hg : Good E G h w S F) (T : Tk E st G w S F ρ hs Ft) (hgp : ∀ (r : Nat) g, E.G0[r]? = some g → (ghs G ρ)[r]? = some g) : Good E (ghs G ρ) hs w S Ft := by
  constructor
  · simp [ghs, T.len]
  · intro r rt g h1 h2
    have hr : r < ρ.length := by rw [T.len]; exact (List.getElem?_eq_some_iff.1 h1).1
    obtain ⟨g', q1, q2⟩ := T.root r ρ[r] rt (List.getElem?_eq_getElem hr) h1
    have := mt_ghs G ρ r ρ[r] g' (List.getElem?_eq_getElem hr) q1
    rw [h2] at this; cases this
    exact q2.1 _
  · exact T.dis
  · exact T.out
  · exact fun r k hk => (T.ap r).1 k hk
  · exact hg.sb
  · exact hg.s0
  · exact hg.sn
  · exact hg.size
  · exact hg.os
  · exact hg.tape
  · exact hg.output
  · exact hg.fr
  · exact hg.rok
  · exact hgp
  · exact hg.sf

theorem range_pre {n m : Nat} {ρ' : List Nat} (h : m ≤ n) (G : List Gh) (hm : n ≤ G.length) : ∀ (r : Nat) g, r < m → G[r]? = some g → (ghs G (List.range' 0 n ++ ρ'))[r]? = some g := by
  intro r g hr hg
  refine mt_ghs G _ r r g ?_ hg
  rw [List.getElem?_append_left (by simp; omega), List.getElem?_range' (by omega)]
  simp

/-- A loop's head. -/
theorem headK_spec {m : Nat} (hm : E.G0.length ≤ m) {cn : Bool} {vs : List AV} {h : HP} {S : BS} {F : Nat → BS} {k : List AV → HP → Prop} (hg : Good E G h w S F) (us : List Value) (hv : ∀ (j : Nat) x, vs[j]? = some x → VR G w E.Ro S x (us.getD j undef)) (hp : headK m cn vs h k) :
    ∃ vs' h' G' S' F', k vs' h' ∧ Good E G' h' w S' F' ∧ vs'.length = vs.length ∧ ∀ (j : Nat) x, vs'[j]? = some x → VR G' w E.Ro S' x (us.getD j undef) := by
  cases cn with
  | false => exact ⟨vs, h, G, S, F, hp, hg, rfl, hv⟩
  | true =>
    obtain ⟨fs, hp⟩ := hp
    obtain ⟨h1, S1, F1, hp1, hg1, hs1⟩ := foldE_spec fs hg hp
    obtain ⟨hs2, h2, S2, F2, Ft2, hp2, st2, T2⟩ := takeN_spec (st := false) m nums [] (fun j i hj => by simpa using nums_get j i hj) hg1 Tk.nil hp1
    obtain ⟨ys, ρ', hs3, h3, S3, F3, Ft3, hp3, st3, T3, hl, hv3⟩ := canL_spec (can3 (st := false)) vs us st2.good T2 (fun j x hj => (hv j x hj).ext (E := E) ⟨fun _ _ h => h, fun k h => st2.s k (hs1 k h), fun _ _ => rfl, fun _ _ => rfl⟩) hp2
    simp only [List.nil_append, List.length_nil] at T3 hv3
    have hlen : m ≤ G.length := by
      rcases Nat.eq_zero_or_pos m with h0 | h0
      · omega
      · have hT := T2.root (m - 1) (m - 1)
        have : m ≤ hs2.length := by have := T2.len; simp at this; omega
        obtain ⟨g, hg', _⟩ := hT hs2[m - 1] (by rw [List.nil_append, List.length_nil, List.getElem?_range' (by omega)]; simp) (List.getElem?_eq_getElem (by omega))
        have := (List.getElem?_eq_some_iff.1 hg').1
        omega
    have hgood := T3.good st3.good (fun r g hr => by
      have hrl := (List.getElem?_eq_some_iff.1 hr).1
      exact range_pre (Nat.le_refl m) G hlen r g (by omega) (hg1.gp r g hr))
    exact ⟨ys, hs3, _, S3, Ft3, hp3, hgood, hl, fun j x hj => (hv3 _ (mt_ghs G _) j x hj).1⟩
end

end Go.Proofs.Ytegcfogbdgmajaa.Ab
