/- The abstract machine, part 3. No condition. -/
import Derived.Test.YtbfjkjdbdejnmaaGreatPart2
import Derived.OpenShut
import Derived.ChangeArms
import Derived.Below
import Derived.Carry
import Derived.ProofKit
import Derived.SizedLaws
set_option linter.unusedVariables false
set_option linter.unusedSimpArgs false
/- The abstract machine is sound: what it asks of a piece of code makes the model's code run so. No condition. -/
namespace Go.Proofs.YtbfjkjdbdejnmaaGreat.Ab
set_option linter.unusedVariables false
set_option linter.unusedSimpArgs false

section
variable {P : Program} {C : Ctx} {E : Env} {D : List Deferred × Nat} {t : TS} {h : HP} {a : Act} {w : World} {Q : Exit → Act → World → Prop}

theorem allL_mem {α : Type} {k : α → Prop} : ∀ {l : List α}, allL l k → ∀ a ∈ l, k a
  | [], _, a, ha => by simp at ha
  | [x], h, a, ha => by simp at ha; subst ha; exact h
  | x :: y :: l, h, a, ha => by
    rcases List.mem_cons.1 ha with rfl | ha
    · exact h.1
    · exact allL_mem (l := y :: l) h.2 a ha

theorem noSel_mem : ∀ {l : List Oper}, noSel l = true → ∀ o ∈ l, ∀ cs b, o.op ≠ .select cs b
  | [], _, o, ho, _, _ => by cases ho
  | x :: l, h, o, ho, cs, b => by
    unfold noSel at h
    rcases List.mem_cons.1 ho with rfl | ho
    · intro e
      rw [e] at h
      cases h
    · split at h
      · cases h
      · exact noSel_mem h o ho cs b
theorem takeL_spec {ops : Array Oper} {t : TS} {listed : List Bool} : ∀ {rs : List Nat} {i : Nat}, takeL ops t listed rs = some i → i ∈ rs ∧ ∃ o, ops[i]? = some o ∧ (pureO o = true ∨ gOff ops.toList t o = true) ∧ freeL ops listed i o = true
  | [], i, h => by cases h
  | x :: r, i, h => by
    unfold takeL at h
    split at h
    · rename_i o ho
      split at h
      · rename_i hb
        cases h
        simp only [Bool.and_eq_true, Bool.or_eq_true] at hb
        exact ⟨List.mem_cons_self, o, ho, hb⟩
      · obtain ⟨h1, h2⟩ := takeL_spec h
        exact ⟨List.mem_cons_of_mem _ h1, h2⟩
    · obtain ⟨h1, h2⟩ := takeL_spec h
      exact ⟨List.mem_cons_of_mem _ h1, h2⟩
theorem freeL_spec {ops : Array Oper} {listed : List Bool} {i : Nat} {oi : Oper} (h : freeL ops listed i oi = true) (j : Nat) (oj : Oper) (hj : ops[j]? = some oj) (hne : j ≠ i) (hun : listed.toArray.getD j true = false)
    (hno : ∀ e ∈ oj.after, Region.binds .any e = true → e.on ≠ i) : oi.apart ops oj = true := by
  have hun : listed.getD j true = false := by simpa [Array.getD_eq_getD_getElem?, List.getD_eq_getElem?_getD] using hun
  unfold freeL at h
  rw [List.all_eq_true] at h
  have h1 := h j (List.mem_range.2 (Array.getElem?_eq_some_iff.1 hj).1)
  simp only [hj, Bool.or_eq_true, Nat.beq_eq, hne, false_or, hun, Bool.false_eq_true, List.any_eq_true, Bool.and_eq_true] at h1
  rcases h1 with ⟨e, he, hb, hon⟩ | h1
  · exact absurd hon (hno e (Array.mem_toList_iff.1 he) hb)
  · exact h1
theorem opU_sound (hC : CtxOk P C) (o : Oper) (hq : pureO o = true) : OpU P C o := by
  unfold pureO at hq
  cases ho : o.op <;> simp only [ho] at hq
  case move x => exact u_move ho
  case assign x => exact u_assign hC ho
  case pick c x y => exact u_pick ho
  case nilCheck x => exact u_nilCheck ho
  case extract x n => exact u_extract ho
  case fieldAddr ty x n => exact u_fieldAddr hC ho
  case indexAddr ty x n => exact u_indexAddr hC ho
  case binOp op ty x y ty' => exact u_binOp hC ho
  case unOp op ty x => exact u_unOp ho
  all_goals cases hq
theorem opG_yields (hC : CtxOk P C) {ops : Array Oper} {o : Oper} (hq : pureO o = true ∨ gOff ops.toList t o = true) {k : TS → HP → Prop} (hp : opG C ops.toList o t h k) (hr : Rel E D t h a w) :
    ∃ v t' h', k t' h' ∧ Yields P ops o v a ∧ Rel E D t' h' (a.put o.dst v) w := by
  have go (hq : pureO o = true) : (opP C o t h fun t h => splitG ops.toList o.dst t fun t => k t h) → ∃ v t' h', k t' h' ∧ (∀ w2, (execOp a.eval o).run P w2 = .ok (.value v) w2) ∧ Rel E D t' h' (a.put o.dst v) w := fun hp => by
    obtain ⟨v, t', h', h1, h2, h3⟩ := opU_sound hC o hq E D t h a w _ hp hr
    obtain ⟨t'', h4, h5⟩ := splitG_spec h3 h1
    exact ⟨v, t'', h', h4, h2, h5⟩
  unfold opG at hp
  split at hp
  · rename_i hgd
    obtain ⟨v, t', h', h1, h2, h3⟩ := go (hq.resolve_right (by simp [gOff, hgd])) hp
    exact ⟨v, t', h', h1, .inl ⟨by simp [Region.wanted, hgd], h2⟩, h3⟩
  · rename_i j want hgd
    obtain ⟨d, hd, hp⟩ := on_spec hp
    simp only [getK_eq] at hp
    split at hp
    · rename_i b hb
      have hr0 := hr
      obtain ⟨G, S, F, hg, ht, hdf⟩ := hr
      have hv := ht.2 d
      rw [hb] at hv
      have hv := hv.v_inv.1
      have hy : yielded ops a.tmps j = some b := by
        unfold yielded
        rw [← Array.getElem?_toList, hd]
        rw [Array.getD_eq_getD_getElem?] at hv
        cases hq : a.tmps[d]? with
        | none => rw [hq] at hv; simp [undef] at hv
        | some q => rw [hq] at hv; simp at hv; subst hv; simp [hq]
      split at hp
      · rename_i hbw
        have hbw : b = want := by simpa using hbw
        have hq1 : pureO o = true := hq.resolve_right (by
          simp only [gOff, hgd, hd]
          rw [hb]
          simp [hbw])
        obtain ⟨v, t', h', h1, h2, h3⟩ := go hq1 hp
        exact ⟨v, t', h', h1, .inl ⟨by simp [Region.wanted, hgd, hy, hbw], h2⟩, h3⟩
      · rename_i hbw
        have hbw : ¬ b = want := by simpa using hbw
        obtain ⟨t', h1, h2⟩ := putK_spec ht (VR.tup [] [] rfl (by simp)) hp
        exact ⟨undef, t', _, h1, .inr ⟨by simp [Region.wanted, hgd, hy, hbw], rfl⟩, ⟨G, S, F, hg, h2, hdf.put _ _⟩⟩
    · rename_i l hb
      obtain ⟨G, S, F, hg, ht, hdf⟩ := hr
      have hv := ht.2 d
      rw [hb] at hv
      obtain ⟨vs, hv, _⟩ := hv.tup_inv
      have hy : yielded ops a.tmps j = none := by
        unfold yielded
        rw [← Array.getElem?_toList, hd]
        rw [Array.getD_eq_getD_getElem?] at hv
        cases hq : a.tmps[d]? with
        | none => simp [hq]
        | some q => rw [hq] at hv; simp at hv; subst hv; simp [hq]
      obtain ⟨t', h1, h2⟩ := putK_spec ht (VR.tup [] [] rfl (by simp)) hp
      exact ⟨undef, t', _, h1, .inr ⟨by simp [Region.wanted, hgd, hy], rfl⟩, ⟨G, S, F, hg, h2, hdf.put _ _⟩⟩
    · exact hp.elim
/-- A panic's end does not look at the temporaries. -/
def PutOk (Q : Exit → Act → World → Prop) : Prop := ∀ c a x v w, Q (.panic c) (Act.put a x v) w → Q (.panic c) a w
theorem allP_sound (hC : CtxOk P C) (hpan : PanOk E D C Q) (hput : PutOk Q) {ops : Array Oper} {sel : Bool} (hsel : sel = true → noSel ops.toList = true) {k : TS → HP → Prop} (hQ : ∀ t h a w, k t h → Rel E D t h a w → Q .normal a w) : ∀ (f : Nat) (listed : List Bool) (t : TS) (h : HP) (a : Act) (w : World),
    allP C ops sel f listed t h k → Rel E D t h a w → wpAny P .any ops Q f listed.toArray a w
  | 0, listed, t, h, a, w, hp, hr => by
    simp only [wpAny, readyL_eq]
    exact ⟨hp.1, hQ _ _ _ _ hp.2 hr⟩
  | f + 1, listed, t, h, a, w, hp, hr => by
    simp only [allP] at hp
    split at hp
    · rename_i hn
      simp only [wpAny, readyL_eq]
      rw [hn]
      exact ⟨fun _ => hQ _ _ _ _ hp hr, by simp⟩
    · rename_i rs hne
      split at hp
      · rename_i i htk
        obtain ⟨hi, o, ho, hq, hf⟩ := takeL_spec htk
        obtain ⟨o', ho', hp⟩ := on_spec hp
        cases ho.symm.trans ho'
        obtain ⟨v, t', h', h1, h2, h3⟩ := opG_yields hC hq hp hr
        have hns := noSel_mem (hsel rfl)
        refine wpAny_first ho (fun j o cs b hj => hns o (Array.mem_toList_iff.2 (Array.mem_of_getElem? hj)) cs b) (fun c a w => hput c a _ _ w) f _ a w (freeL_spec hf) (by rw [readyL_eq]; exact hi) h2 ?_
        have := allP_sound hC hpan hput hsel hQ f _ t' h' _ w h1 h3
        simpa using this
      · simp only [wpAny, readyL_eq]
        refine ⟨fun hn => (hne hn).elim, fun i hi => ?_⟩
        obtain ⟨o, ho, hp⟩ := on_spec (allL_mem hp i hi)
        refine opG_sound hC hpan (by simpa using ho) hp hr (fun t h a w hk hr => ?_)
        have := allP_sound hC hpan hput hsel hQ f _ t h a w hk hr
        simpa using this

theorem opQ_sound (hC : CtxOk P C) (o : Oper) (hq : quietO C o = true) : OpQ P C o := by
  unfold quietO at hq
  cases ho : o.op <;> simp only [ho] at hq
  case move x => exact q_move ho
  case assign x => exact q_assign hC ho
  case pick c x y => exact q_pick ho
  case nilCheck x => exact q_nilCheck ho
  case extract x n => exact q_extract ho
  case convert s d x =>
    refine q_convert hC ho (fun i e es hi hk => ?_)
    rw [hi] at hq
    simp only [hk] at hq
    cases hq
  case fieldAddr ty x n => exact q_fieldAddr hC ho
  case indexAddr ty x y => exact q_indexAddr hC ho
  case load ty x => exact q_load hC ho
  case binOp op ty x y ty' => exact q_binOp hC ho
  case unOp op ty x => exact q_unOp ho
  case build ty ps => exact q_build hC ho
  case index ty x y => exact q_index hC ho
  case slice ty x lo hi mx => exact q_slice hC ho
  case lookup ty x y b => exact q_lookup hC ho
  case makeFunc f x y => exact q_makeFunc ho
  case sliceToArrayPointer ty x => exact q_s2ap hC ho
  case call c =>
    split at hq
    · rename_i hcal; exact q_len hC ho hcal
    · rename_i hcal; exact q_minmax ho (.inl hcal)
    · rename_i hcal; exact q_minmax ho (.inr hcal)
    · cases hq
  all_goals cases hq

theorem allQ_mem : ∀ {l : List Oper}, allQ C l = true → ∀ o ∈ l, quietO C o = true
  | [], _, o, ho => by cases ho
  | x :: l, h, o, ho => by
    simp only [allQ] at h
    split at h
    · rename_i hx
      rcases List.mem_cons.1 ho with rfl | ho
      · exact hx
      · exact allQ_mem h o ho
    · cases h

theorem Rel.chg {w2 : World} (hr : Rel E D t h a w) (hw : Chg w w2 (fun _ => False)) : Rel E D t h a w2 := by
  obtain ⟨G, S, F, hg, ht, hd⟩ := hr
  exact ⟨G, S, F, hg.chg hw, ht.ext (hg.ext_none hw (fun _ _ h => h)), hd⟩

theorem opsQ_sound (hC : CtxOk P C) {ops : Array Oper} (hq : allQ C ops.toList = true) {k : TS → HP → Prop} (hQ : ∀ t h a w, k t h → Rel E D t h a w → Q .normal a w) (w : World) : ∀ (r : List Oper) (i : Nat) (t : TS) (h : HP) (a : Act), ops.toList.drop i = r →
    opsP C ops.toList r t h k → Rel E D t h a w → wpQuiet P ops (fun w2 => Chg w w2 (fun _ => False)) (fun a => ∀ w2, Chg w w2 (fun _ => False) → Q .normal a w2) r a
  | [], i, t, h, a, _, hp, hr => fun w2 hw => hQ _ _ _ _ hp (hr.chg hw)
  | o :: r, i, t, h, a, hd, hp, hr => by
    have ho : o ∈ ops.toList := by
      have : ops.toList[i]? = some o := by
        have h1 := List.getElem?_drop (xs := ops.toList) (i := i) (j := 0)
        rw [hd] at h1
        simpa using h1.symm
      exact List.mem_of_getElem? this
    have hd' : ops.toList.drop (i + 1) = r := by
      rw [← List.drop_drop, hd]; rfl
    have go : ∀ {t a}, Rel E D t h a w → (opP C o t h fun t h => splitG ops.toList o.dst t fun t => opsP C ops.toList r t h k) →
        o.quiet P a (fun w2 => Chg w w2 (fun _ => False)) (wpQuiet P ops (fun w2 => Chg w w2 (fun _ => False)) (fun a => ∀ w2, Chg w w2 (fun _ => False) → Q .normal a w2) r) := fun {t a} hr hp => by
      obtain ⟨v, t', h', h1, h2⟩ := opQ_sound hC o (allQ_mem hq o ho) E D t h a w _ hp hr
      obtain ⟨t'', h3, h4⟩ := splitG_spec (h2 w (Chg.refl w _)).2 h1
      refine ⟨v, fun w2 hw => ?_, opsQ_sound hC hq hQ w r (i + 1) t'' h' _ hd' h3 h4⟩
      unfold Oper.quietAt
      rw [(h2 w2 hw).1]
      exact ⟨rfl, rfl⟩
    simp only [wpQuiet]
    simp only [opsP] at hp
    unfold opG at hp
    split at hp
    · rename_i hgd
      rw [if_pos (by simp [Region.wanted, hgd])]
      exact go hr hp
    · rename_i j want hgd
      obtain ⟨d, hdd, hp⟩ := on_spec hp
      simp only [getK_eq] at hp
      split at hp
      · rename_i b hb
        obtain ⟨G, S, F, hg, ht, hdf⟩ := hr
        have hv := ht.2 d
        rw [hb] at hv
        have hv := hv.v_inv.1
        have hy : yielded ops a.tmps j = some b := by
          unfold yielded
          rw [← Array.getElem?_toList, hdd]
          rw [Array.getD_eq_getD_getElem?] at hv
          cases hq : a.tmps[d]? with
          | none => rw [hq] at hv; simp [undef] at hv
          | some q => rw [hq] at hv; simp at hv; subst hv; simp [hq]
        split at hp
        · rename_i hbw
          have hbw : b = want := by simpa using hbw
          rw [if_pos (by simp [Region.wanted, hgd, hy, hbw])]
          exact go ⟨G, S, F, hg, ht, hdf⟩ hp
        · rename_i hbw
          have hbw : ¬ b = want := by simpa using hbw
          rw [if_neg (by simp [Region.wanted, hgd, hy, hbw])]
          obtain ⟨t', h1, h2⟩ := putK_spec ht (VR.tup [] [] rfl (by simp)) hp
          exact opsQ_sound hC hq hQ w r (i + 1) t' h _ hd' h1 ⟨G, S, F, hg, h2, hdf.put _ _⟩
      · rename_i l hb
        obtain ⟨G, S, F, hg, ht, hdf⟩ := hr
        have hv := ht.2 d
        rw [hb] at hv
        obtain ⟨vs, hv, _⟩ := hv.tup_inv
        have hy : yielded ops a.tmps j = none := by
          unfold yielded
          rw [← Array.getElem?_toList, hdd]
          rw [Array.getD_eq_getD_getElem?] at hv
          cases hq : a.tmps[d]? with
          | none => simp [hq]
          | some q => rw [hq] at hv; simp at hv; subst hv; simp [hq]
        rw [if_neg (by simp [Region.wanted, hgd, hy])]
        obtain ⟨t', h1, h2⟩ := putK_spec ht (VR.tup [] [] rfl (by simp)) hp
        exact opsQ_sound hC hq hQ w r (i + 1) t' h _ hd' h1 ⟨G, S, F, hg, h2, hdf.put _ _⟩
      · exact hp.elim

theorem wp_loopN {c : Code} (I : Nat → Act → World → Prop) {n : Nat} (h₀ : I n a w)
    (round : ∀ n a w, I n a w → c.wp P (Exit.then (fun a' w' => ∃ n', n' < n ∧ I n' a' w') Q) a w) : (Code.loop c).wp P Q a w := by
  intro b k cs
  have key : ∀ n a w, I n a w → ∃ e a' w', Q e a' w' ∧ Arrives P (lone (b.at a (.code c :: .inLoop c :: k)) cs w) b k cs e a' w' := by
    intro n
    induction n using Nat.strongRecOn with
    | _ n ih =>
      intro a w hI
      obtain ⟨e, a₁, w₁, hq, harr⟩ := round n a w hI b (.inLoop c :: k) cs
      cases e with
      | normal =>
        obtain ⟨n', hlt, hI₁⟩ := hq
        obtain ⟨e₂, a₂, w₂, hq₂, harr₂⟩ := ih n' hlt a₁ w₁ hI₁
        exact ⟨e₂, a₂, w₂, hq₂, .of_steps (Steps.trans harr (.one step_inLoop)) harr₂⟩
      | exit id => exact ⟨_, a₁, w₁, hq, .pass (x := .inLoop c) rfl (fun _ _ => .inl (by simp)) harr⟩
      | goto l => exact ⟨_, a₁, w₁, hq, .pass (x := .inLoop c) rfl (fun _ _ => .inl (by simp)) harr⟩
      | ret => exact ⟨_, a₁, w₁, hq, .pass (x := .inLoop c) rfl (fun _ _ => .inl (by simp)) harr⟩
      | panic ch => exact ⟨_, a₁, w₁, hq, .pass (x := .inLoop c) rfl (fun _ _ => .inl (by simp)) harr⟩
      | outgrown => exact ⟨_, a₁, w₁, hq, .pass (x := .inLoop c) rfl (fun _ _ => .inl (by simp)) harr⟩
  obtain ⟨e, a', w', hq, harr⟩ := key _ a w h₀
  exact ⟨e, a', w', hq, .of_steps (.one step_loop) harr⟩

/-! ### Loops -/

theorem mapK_get (t : TS) (ks : List Nat) (k : List AV → Prop) : mapK (getK t) ks k = k (ks.map fun i => t.getD i .top) := by
  induction ks generalizing k with
  | nil => rfl
  | cons a l ih => simp only [mapK, getK_eq, List.map_cons]; exact ih _
theorem topsK_eq (n : Nat) (k : TS → Prop) : topsK n k = k (List.replicate n .top) := by
  induction n generalizing k with
  | zero => rfl
  | succ n ih => simp only [topsK, ih, List.replicate_succ]
def laysF : List Nat → List AV → TS → TS
  | i :: is, x :: xs, t => laysF is xs (t.set i x)
  | _, _, t => t
theorem laysK_eq (ks : List Nat) (vs : List AV) (t : TS) (k : TS → Prop) : laysK ks vs t k = k (laysF ks vs t) := by
  induction ks generalizing vs t with
  | nil => cases vs <;> rfl
  | cons i is ih =>
    cases vs with
    | nil => rfl
    | cons x xs => simp only [laysK, laysF, setK_eq]; exact ih _ _
theorem TR.lays {G w Ro S} : ∀ (ks : List Nat) (vs : List AV) (t : TS), TR G w Ro S t a → (∀ (j : Nat) x i, vs[j]? = some x → ks[j]? = some i → VR G w Ro S x (a.tmps.getD i undef)) → TR G w Ro S (laysF ks vs t) a
  | [], vs, t, ht, _ => by cases vs <;> exact ht
  | i :: is, [], t, ht, _ => ht
  | i :: is, x :: xs, t, ht, hv => TR.lays is xs _ (ht.set (hv 0 x i rfl rfl)) (fun j y k h1 h2 => hv (j + 1) y k h1 h2)
theorem TR.tops {G w Ro S} {n : Nat} (hn : n = a.tmps.size) : TR G w Ro S (List.replicate n .top) a := by
  refine ⟨by simpa using hn, fun i => ?_⟩
  rw [List.getD_eq_getElem?_getD, List.getElem?_replicate]
  split <;> exact .top _

/-- A loop's head: of the temporaries only those of the list are kept. -/
theorem loop_head {m : Nat} (hm : E.G0.length ≤ m) {cn : Bool} {ks : List Nat} {k : List AV → HP → Prop} (hr : Rel E D t h a w) (hp : headK m cn (ks.map fun i => t.getD i .top) h k) :
    ∃ vs' h', k vs' h' ∧ Rel E D (laysF ks vs' (List.replicate t.length .top)) h' a w := by
  obtain ⟨G, S, F, hg, ht, hd⟩ := hr
  obtain ⟨vs', h', G', S', F', h0, h1, h2, h3⟩ := headK_spec hm hg (ks.map fun i => a.tmps.getD i undef) (fun j x hj => by
    rw [List.getElem?_map] at hj
    cases hk : ks[j]? with
    | none => simp [hk] at hj
    | some i =>
      simp [hk] at hj
      subst hj
      rw [List.getD_eq_getElem?_getD, List.getElem?_map, hk]
      exact ht.2 i) hp
  refine ⟨vs', h', h0, G', S', F', h1, TR.lays _ _ _ (TR.tops ht.1) (fun j x i hx hi => ?_), hd⟩
  have := h3 j x hx
  rw [List.getD_eq_getElem?_getD, List.getElem?_map, hi] at this
  exact this

theorem Rel.length (hr : Rel E D t h a w) : t.length = D.2 := by
  obtain ⟨_, _, _, _, ht, hd⟩ := hr
  exact ht.1.trans hd.2

theorem awp_sound (hC : CtxOk P C) (hm : P.follows .mixedOrders = true) (hG0 : E.G0.length ≤ C.m) (c : Code) : ∀ (k : Post) (t : TS) (h : HP) (a : Act) (w : World) (Q : Exit → Act → World → Prop), AWP C c k t h → Rel E D t h a w → PanOk E D C Q → PutOk Q →
    (∀ e t h a w, k e t h → Rel E D t h a w → Q e a w) → c.wp P Q a w := by
  induction c with
  | skip => exact fun k t h a w Q hp hr hpan hput hQ => wp_skip (hQ _ _ _ _ _ hp hr)
  | label l => exact fun k t h a w Q hp hr hpan hput hQ => wp_label (hQ _ _ _ _ _ hp hr)
  | exit id => exact fun k t h a w Q hp hr hpan hput hQ => wp_exit (hQ _ _ _ _ _ hp hr)
  | ret => exact fun k t h a w Q hp hr hpan hput hQ => wp_ret (hQ _ _ _ _ _ hp hr)
  | region id ops draw =>
    intro k t h a w Q hp hr hpan hput hQ
    simp only [AWP] at hp
    cases draw with
    | true =>
      simp only [if_true] at hp
      have hc : Chg w { w with drawn := w.drawn + 1 } (fun _ => False) := ⟨rfl, rfl, rfl, Nat.le_refl _, fun _ _ _ => rfl⟩
      unfold drawnP at hp
      split at hp
      · rename_i hq
        refine wp_region_quiet (C := fun w2 => Chg w w2 (fun _ => False)) hm hp.1 hc ?_
        exact opsQ_sound (Q := Q) hC hq (fun t h a w hk hr => hQ .normal t h a w hk hr) w ops.toList 0 t h a rfl hp.2 hr
      · refine wp_region_any hm ?_
        rcases hp with hp | hp
        · have := heldP_sound (P := P) (E := E) (D := D) hC (Q := Q) hpan (fun t h a w hk hr => hQ .normal t h a w hk hr) hp (hr.chg hc)
          simpa using this
        have := allP_sound (P := P) (E := E) (D := D) hC (Q := Q) hpan hput (fun h => h) (fun t h a w hk hr => hQ .normal t h a w hk hr) _ _ t h a { w with drawn := w.drawn + 1 } hp (hr.chg hc)
        simpa using this
    | false =>
      simp only [Bool.false_eq_true, if_false] at hp
      have := opsP_sound (P := P) (E := E) (D := D) hC (Q := Q) hpan (fun t h a w hk hr => hQ .normal t h a w hk hr) ops.toList 0 t h a w rfl hp hr
      refine wp_region ?_
      rw [List.range_eq_range']
      simpa using this
  | seq x y ihx ihy =>
    intro k t h a w Q hp hr hpan hput hQ
    have plain (hp : AWP C x (Post.seq k (AWP C y k)) t h) : (Code.seq x y).wp P Q a w := by
      refine wp_seq (ihx _ t h a w _ hp hr (fun v t h a w hp hr => hpan v t h a w hp hr) (fun c a x v w h => hput c a x v w h) fun e t h a w hk hr => ?_)
      cases e <;> first | exact ihy _ _ _ _ _ _ hk hr hpan hput hQ | exact hQ _ _ _ _ _ hk hr
    simp only [AWP] at hp
    split at hp
    · rcases hp with hp | ⟨cn, ks, I, h1, h2⟩
      · exact plain hp
      · have hlen := hr.length
        refine wp_seq (ihx _ t h a w _ h1 hr (fun v t h a w hp hr => hpan v t h a w hp hr) (fun c a x v w h => hput c a x v w h) fun e t' h a w hk hr => ?_)
        cases e <;> first | exact hQ _ _ _ _ _ hk hr | skip
        simp only [Post.seq, mapK_get] at hk
        have hl2 : t'.length = t.length := hr.length.trans hlen.symm
        obtain ⟨vs', h', hI, hr'⟩ := loop_head hG0 hr hk
        rw [hl2] at hr'
        have hb := h2 _ _ hI
        rw [topsK_eq, laysK_eq] at hb
        exact ihy _ _ _ _ _ _ hb hr' hpan hput hQ
    · exact plain hp
  | cond c x y ihx ihy =>
    intro k t h a w Q hp hr hpan hput hQ
    simp only [AWP, evK_eq] at hp
    split at hp
    · rename_i b hb
      have hr' := hr
      obtain ⟨G, S, F, hg, ht, hd⟩ := hr'
      have hv := evF_spec ht c
      rw [hb] at hv
      have know : ∀ (k : TS → Prop), knowK c b t k → ∃ t', k t' ∧ Rel E D t' h a w := by
        intro k hk
        unfold knowK at hk
        split at hk
        · rename_i i
          rw [setK_eq] at hk
          exact ⟨_, hk, G, S, F, hg, ht.set (by simpa [evF, Act.eval, hb] using hv), hd⟩
        · exact ⟨t, hk, hr⟩
      refine wp_cond_split hv.v_inv.1 (fun hx => ?_) (fun hx => ?_)
      · obtain ⟨t', h1, h2⟩ := know _ (hx ▸ hp.1 hx)
        exact ihx _ _ _ _ _ _ h1 h2 hpan hput hQ
      · obtain ⟨t', h1, h2⟩ := know _ (hx ▸ hp.2 hx)
        exact ihy _ _ _ _ _ _ h1 h2 hpan hput hQ
    · exact hp.elim
  | block id b ih =>
    intro k t h a w Q hp hr hpan hput hQ
    refine wp_block (ih _ t h a w _ hp hr (fun v t h a w hp hr => hpan v t h a w hp hr) (fun c a x v w h => hput c a x v w h) fun e t h a w hk hr => ?_)
    cases e <;> first | exact hQ _ _ _ _ _ hk hr | skip
    rename_i i
    simp only [Post.block] at hk
    simp only [Exit.inBlock]
    split
    · rename_i hi; rw [if_pos hi] at hk; exact hQ _ _ _ _ _ hk hr
    · rename_i hi; rw [if_neg hi] at hk; exact hQ _ _ _ _ _ hk hr
  | loop b ih =>
    intro k t h a w Q hp hr hpan hput hQ
    obtain ⟨cn, ks, I, h1, h2⟩ := hp
    rw [mapK_get] at h1
    obtain ⟨vs', h', ⟨n, hI⟩, hr'⟩ := loop_head hG0 hr h1
    have hlen := hr.length
    refine wp_loopN (fun n a w => ∃ vs h, I n vs h ∧ Rel E D (laysF ks vs (List.replicate t.length .top)) h a w) ⟨vs', h', hI, hr'⟩ ?_
    rintro n a w ⟨vs, h, hI, hr⟩
    have hb := h2 n vs h hI
    rw [topsK_eq, laysK_eq] at hb
    refine ih _ _ _ _ _ _ hb hr (fun v t h a w hp hr => hpan v t h a w hp hr) (fun c a x v w h => hput c a x v w h) fun e t' h a w hk hr => ?_
    cases e <;> first | exact hQ _ _ _ _ _ hk hr | skip
    simp only [Post.seq, mapK_get] at hk
    have hl2 : t'.length = t.length := hr.length.trans hlen.symm
    obtain ⟨vs', h', ⟨n', hlt, hI⟩, hr'⟩ := loop_head hG0 hr hk
    rw [hl2] at hr'
    exact ⟨n', hlt, vs', h', hI, hr'⟩
  | _ => exact fun k t h a w Q hp => hp.elim
end

end Go.Proofs.YtbfjkjdbdejnmaaGreat.Ab

/- Calls: a body in the memory of its caller; a contract over the roots that are lent, which come back. No condition. -/
namespace Go.Proofs.YtbfjkjdbdejnmaaGreat.Ab
set_option linter.unusedVariables false
set_option linter.unusedSimpArgs false

/-! ### Results -/

def resL (C : Ctx) (t : TS) : List ResultVar → HP → (List AV → HP → Prop) → Prop
  | [], h, k => k [] h
  | .tmp i :: r, h, k => getK t i fun a => resL C t r h fun l h => k (a :: l) h
  | .cell a ty :: r, h, k => getK t a fun p => loadP C ty p h fun x h => resL C t r h fun l h => k (x :: l) h
def oneK (l : List AV) (k : AV → Prop) : Prop := match l with | [x] => k x | l => k (.tup l)
def retP (C : Ctx) (rs : List ResultVar) (K : AV → HP → Prop) : Post
  | .normal, t, h => resL C t rs h fun l h => oneK l fun x => K x h
  | .ret, t, h => resL C t rs h fun l h => oneK l fun x => K x h
  | _, _, _ => False

section
variable {P : Program} {C : Ctx} {E : Env} {D : List Deferred × Nat} {t : TS} {h : HP} {a : Act} {w : World}

theorem resL_spec (hC : CtxOk P C) (f : ResultVar → Sem Value) (hf : ∀ u, f (.tmp u) = pure (a.tmps.getD u undef)) (hc : ∀ p ty, f (.cell p ty) = (do loadVar ty (← asAddr (a.tmps.getD p undef)))) :
    ∀ (rs : List ResultVar) (h : HP) (G : List Gh) (S : BS) (F : Nat → BS) (k : List AV → HP → Prop), Good E G h w S F → TR G w E.Ro S t a → resL C t rs h k →
    ∃ l h' G' F' us, k l h' ∧ Good E G' h' w S F' ∧ (∀ (i : Nat) (g : Gh), G[i]? = some g → G'[i]? = some g) ∧ (rs.mapM f).run P w = .ok us w ∧ l.length = us.length ∧ ∀ (j : Nat) x, l[j]? = some x → VR G' w E.Ro S x (us.getD j undef)
  | [], h, G, S, F, k, hg, ht, hp => ⟨[], h, G, F, [], hp, hg, fun _ _ h => h, by simp, rfl, by simp⟩
  | .tmp i :: r, h, G, S, F, k, hg, ht, hp => by
    simp only [resL, getK_eq] at hp
    obtain ⟨l, h', G', F', us, h1, h2, h3, h4, h5, h6⟩ := resL_spec hC f hf hc r h G S F _ hg ht hp
    refine ⟨_, h', G', F', a.tmps.getD i undef :: us, h1, h2, h3, by simp [List.mapM_cons, hf, h4], by simp [h5], fun j x hj => ?_⟩
    cases j with
    | zero => simp at hj; subst hj; simpa [List.getD_eq_getElem?_getD] using (ht.2 i).pre h3
    | succ j => simpa using h6 j x (by simpa using hj)
  | .cell p ty :: r, h, G, S, F, k, hg, ht, hp => by
    simp only [resL, getK_eq] at hp
    obtain ⟨y, h1, G1, F1, v, ad, b1, b2, b3, b4, b5, b6⟩ := loadP_spec hC hg (ht.2 p) hp
    obtain ⟨l, h', G', F', us, c1, c2, c3, c4, c5, c6⟩ := resL_spec hC f hf hc r h1 G1 S F1 _ b2 (ht.ext (hg.ext_none (Chg.refl w _) b3)) b1
    refine ⟨_, h', G', F', v :: us, c1, c2, fun i g hi => c3 i g (b3 i g hi), by simp [List.mapM_cons, hc, b4, asAddr, b5 w (Chg.refl w _), c4], by simp [c5], fun j x hj => ?_⟩
    cases j with
    | zero => simp at hj; subst hj; simpa using b6.pre c3
    | succ j => simpa using c6 j x (by simpa using hj)

theorem results_spec (hC : CtxOk P C) {fn : Func} {rs : List ResultVar} (hrs : fn.results.toList = rs) {G : List Gh} {S : BS} {F : Nat → BS} {K : AV → HP → Prop} (hg : Good E G h w S F) (ht : TR G w E.Ro S t a)
    (hp : resL C t rs h fun l h => oneK l fun x => K x h) :
    ∃ x h' G' F' v, K x h' ∧ Good E G' h' w S F' ∧ (∀ (i : Nat) (g : Gh), G[i]? = some g → G'[i]? = some g) ∧ (results fn a.tmps).run P w = .ok v w ∧ VR G' w E.Ro S x v := by
  have hr : fn.results = rs.toArray := by rw [← hrs]
  obtain ⟨l, h', G', F', us, h1, h2, h3, h4, h5, h6⟩ := resL_spec (P := P) hC (fun x => match x with | .tmp t => pure (a.tmps.getD t undef) | .cell p t => do loadVar t (← asAddr (a.tmps.getD p undef))) (fun _ => rfl) (fun _ _ => rfl) rs h G S F _ hg ht hp
  unfold oneK at h1
  have hrun : ∀ v, (if h : us.toArray.size = 1 then us.toArray[0] else .tuple us.toArray) = v → (results fn a.tmps).run P w = .ok v w := by
    intro v hv
    unfold results
    rw [hr, List.mapM_toArray]
    simp only [Sem.run_bind, Sem.run_map]
    erw [h4]
    simp [← hv]
  rcases l with _ | ⟨x, _ | ⟨y, r⟩⟩
  · cases us with
    | nil => exact ⟨.tup [], h', G', F', .tuple #[], h1, h2, h3, hrun _ (by simp), .tup [] [] rfl (by simp)⟩
    | cons u us => simp at h5
  · cases us with
    | nil => simp at h5
    | cons u us =>
      cases us with
      | nil => exact ⟨x, h', G', F', u, h1, h2, h3, hrun u (by simp), by simpa using h6 0 x rfl⟩
      | cons _ _ => simp at h5
  · refine ⟨.tup (x :: y :: r), h', G', F', .tuple us.toArray, h1, h2, h3, hrun _ ?_, .tup _ us h5 h6⟩
    rw [dif_neg]
    intro hs
    simp at h5 hs
    omega
end

/-! ### A body in the memory of its caller -/

def appK : List AV → TS → (TS → Prop) → Prop
  | [], t, k => k t
  | a :: l, t, k => appK l t fun t => k (a :: t)
theorem appK_eq (l : List AV) (t : TS) (k : TS → Prop) : appK l t k = k (l ++ t) := by
  induction l generalizing k with
  | nil => rfl
  | cons a l ih => simp only [appK, List.cons_append]; exact ih _

/-- 'n' temporaries, its results, its body. -/
def inlH (C : Ctx) (n : Nat) (rs : List ResultVar) (c : Code) : Handler := fun args h K =>
  topsK (n - args.length) fun ts => appK args ts fun t => AWP ⟨C.tab, C.call, h.length, fun v h => K (.pan v) h, C.cut⟩ c (retP C rs K) t h

theorem HSound.mono {P : Program} {f : FuncId} {H H' : Handler} (h : HSound P f H) (hh : ∀ args h K, H' args h K → H args h K) : HSound P f H' :=
  fun E G S F hp w args vs K h1 h2 h3 h4 => h E G S F hp w args vs K h1 h2 h3 (hh _ _ _ h4)

theorem tr_args {P : Program} {fn : Func} {G : List Gh} {w : World} {Ro S : BS} {args : List AV} {vs : List Value} (hl : args.length = vs.length) (hv : ∀ (j : Nat) x, args[j]? = some x → VR G w Ro S x (vs.getD j undef)) {n : Nat} (hn : fn.ntmps = n) :
    TR G w Ro S (args ++ List.replicate (n - args.length) .top) { tmps := vs.toArray ++ Array.replicate (fn.ntmps - vs.toArray.size) undef, defers := [] } := by
  refine ⟨by simp [hl, hn], fun i => ?_⟩
  rw [List.getD_eq_getElem?_getD, List.getElem?_append]
  split
  · rename_i hi
    have hiv : i < vs.length := by omega
    have := hv i args[i] (List.getElem?_eq_getElem hi)
    rw [List.getElem?_eq_getElem hi]
    simpa [Array.getD_eq_getD_getElem?, List.getD_eq_getElem?_getD, Array.getElem?_append, hiv] using this
  · rw [List.getElem?_replicate]
    split <;> exact .top _

theorem ctx_of {P : Program} {C : Ctx} (hC : CtxOk P C) (m : Nat) (pan : Value → HP → Prop) : CtxOk P ⟨C.tab, C.call, m, pan, C.cut⟩ := ⟨hC.tab, hC.eqs, hC.zok, hC.call⟩

theorem inlH_sound {P : Program} {C : Ctx} (hC : CtxOk P C) (hm : P.follows .mixedOrders = true) {f : FuncId} {fn : Func} {c : Code} {n : Nat} {rs : List ResultVar} (hf : P.funcs[f]? = some fn) (hb : fn.body = some c) (hn : fn.ntmps = n)
    (hrs : fn.results.toList = rs) : HSound P f (inlH C n rs c) := by
  intro E G S F h w args vs K hg hl hv hp
  unfold inlH at hp
  rw [topsK_eq, appK_eq] at hp
  refine calls_of_wp hf hb ?_
  have g0 : Good ⟨E.w0, E.O, S, E.Ro, w, G⟩ G h w S F :=
    ⟨hg.len, hg.root, hg.dis, hg.out, hg.own, hg.sb, fun _ h => h, fun _ h => .inl h, hg.size, hg.os, hg.tape, hg.output, hg.fr, hg.rok, fun _ _ h => h, fun _ _ => rfl⟩
  have back : ∀ {G' h' w' S' F'}, Good ⟨E.w0, E.O, S, E.Ro, w, G⟩ G' h' w' S' F' → Good E G' h' w' S' F' ∧ Ext E G w S G' w' S' := by
    intro G' h' w' S' F' b
    refine ⟨⟨b.len, b.root, b.dis, b.out, b.own, b.sb, fun k hk => b.s0 k (hg.s0 k hk), fun k hk => (b.sn k hk).elim (fun h => (hg.sn k h).imp id id) .inr, b.size, b.os, b.tape, b.output, b.fr, b.rok, fun r g h => b.gp r g (hg.gp r g h), fun k hk => (b.sf k (hg.s0 k hk)).trans (hg.sf k hk)⟩, ?_⟩
    exact ⟨b.gp, b.s0, b.sf, fun k hk => (b.fr k (b.rok k hk).1 (b.rok k hk).2).trans (hg.fr k (hg.rok k hk).1 (hg.rok k hk).2).symm⟩
  refine awp_sound (E := ⟨E.w0, E.O, S, E.Ro, w, G⟩) (D := ([], (vs.toArray ++ Array.replicate (fn.ntmps - vs.toArray.size) undef).size)) (ctx_of hC _ _) hm (Nat.le_of_eq hg.len) c _ _ h _ w _ hp ⟨G, S, F, g0, tr_args (P := P) hl hv hn, rfl, rfl⟩ ?_ (fun c a x v w h => by cases x <;> exact h) ?_
  · rintro v t' h' a' w' hk ⟨G', S', F', hg', ht', hd'⟩
    obtain ⟨b1, b2⟩ := back hg'
    exact ⟨hd'.1, _, h', G', S', F', hk, b1, b2, .inr ⟨v, rfl, rfl⟩⟩
  · intro e t' h' a' w' hk ⟨G', S', F', hg', ht', hd'⟩
    have fin : (resL C t' rs h' fun l h_1 => oneK l fun x => K x h_1) → ∃ v, (results fn a'.tmps).run P w' = .ok v w' ∧ ∃ x h' G' S' F', K x h' ∧ Good E G' h' w' S' F' ∧ Ext E G w S G' w' S' ∧ ((∃ v', Ending.returned v = .returned v' ∧ VR G' w' E.Ro S' x v') ∨ ∃ v', Ending.returned v = .panicked [{ v := v', recovered := false }] ∧ x = .pan v') := by
      intro hk
      obtain ⟨x, h2, G2, F2, v, b1, b2, b3, b4, b5⟩ := results_spec hC hrs hg' ht' hk
      obtain ⟨c1, c2⟩ := back b2
      exact ⟨v, b4, x, h2, G2, S', F2, b1, c1, c2, .inl ⟨v, rfl, b5⟩⟩
    cases e <;> simp only [retP] at hk
    · obtain ⟨v, q1, q2⟩ := fin hk
      exact ⟨hd'.1, v, q1, q2⟩
    all_goals first
      | exact hk.elim
      | (obtain ⟨v, q1, q2⟩ := fin hk; exact ⟨hd'.1, v, q1, q2⟩)

/-! ### A call by its contract: roots are lent, and come back -/

/-- How an argument is lent: to be read; to be written; a struct, part by part. -/
inductive Md where
  | ro | rw | ag (l : List Md)

def lendWs (ms : List Md) : List AV → List Nat → HP → HP → (List AV → List Nat → HP → HP → Prop) → Prop
  | [], ρ, hs, h, k => k [] ρ hs h
  | x :: l, ρ, hs, h, k => match ms with
    | .rw :: ms => canV1 false x ρ hs h fun y ρ hs h => lendWs ms l ρ hs h fun l ρ hs h => k (y :: l) ρ hs h
    | _ :: ms => lendWs ms l ρ hs h fun l ρ hs h => k (x :: l) ρ hs h
    | [] => lendWs [] l ρ hs h fun l ρ hs h => k (x :: l) ρ hs h
def lendW (md : Md) (x : AV) (ρ : List Nat) (hs h : HP) (k : CK) : Prop := match md, x with
  | .rw, x => canV2 false x ρ hs h k
  | .ag ms, .agg l => lendWs ms l ρ hs h fun l ρ hs h => k (.agg l) ρ hs h
  | _, x => k x ρ hs h
def lendWL (ms : List Md) : List AV → List Nat → HP → HP → (List AV → List Nat → HP → HP → Prop) → Prop
  | [], ρ, hs, h, k => k [] ρ hs h
  | x :: l, ρ, hs, h, k => match ms with
    | m :: ms => lendW m x ρ hs h fun y ρ hs h => lendWL ms l ρ hs h fun l ρ hs h => k (y :: l) ρ hs h
    | [] => lendWL [] l ρ hs h fun l ρ hs h => k (x :: l) ρ hs h

/-- A cell of a variable that is lent to be read. -/
def AV.shutL : AV → Bool
  | .imm _ _ _ _ => true | .iptr _ _ => true
  | x => x.shutF
/-- A leaf that is lent to be read; the roots that it is read from. -/
def lendR1 (x : AV) (R : List Nat) (h : HP) (k : AV → List Nat → Prop) : Prop := match x with
  | .slc r o n z => rootK h r fun rt => (match rt with
    | .lst s l => ∃ L, (l.drop o).take n = L ∧ L.length = n ∧ ClosedL L ∧ k (.imm false z s L) (r :: R)
    | _ => False)
  | .bsl r o n => rootK h r fun rt => (match rt with
    | .box cells => cutK cells o n fun cs => (match cs.all AV.shutF with | true => k (.imm false false 1 (cs.map fun c => [c])) (r :: R) | false => False)
    | _ => False)
  | .ptr r 0 0 n => rootK h r fun rt => (match rt with
    | .box cells => (match cells.all AV.shutL with | true => k (.iptr false cells) (r :: R) | false => False)
    | _ => False)
  | x => (match x.pure1 with | true => k x R | false => False)
def lendRs (ms : List Md) (all : Bool) : List AV → List Nat → HP → (List AV → List Nat → Prop) → Prop
  | [], R, h, k => k [] R
  | x :: l, R, h, k => match all, ms with
    | false, .rw :: ms => lendRs ms all l R h fun l R => k (x :: l) R
    | _, ms => lendR1 x R h fun y R => lendRs ms.tail all l R h fun l R => k (y :: l) R
def lendR (md : Md) (x : AV) (R : List Nat) (h : HP) (k : AV → List Nat → Prop) : Prop := match md, x with
  | .rw, x => k x R
  | .ag ms, .agg l => lendRs ms false l R h fun l R => k (.agg l) R
  | .ro, .agg l => lendRs [] true l R h fun l R => k (.agg l) R
  | _, x => lendR1 x R h k
def lendRL (ms : List Md) : List AV → List Nat → HP → (List AV → List Nat → Prop) → Prop
  | [], R, h, k => k [] R
  | x :: l, R, h, k => match ms with
    | m :: ms => lendR m x R h fun y R => lendRL ms l R h fun l R => k (y :: l) R
    | [] => lendR .ro x R h fun y R => lendRL [] l R h fun l R => k (y :: l) R

/-- The lent roots come back; the others are new. -/
def putB : List Nat → HP → HP → (HP → HP → Prop) → Prop
  | [], hs, h, k => k hs h
  | r :: ρ, rt :: hs, h, k => setK h r rt fun h => putB ρ hs h k
  | _ :: _, [], _, _ => False
def newsK : HP → List Nat → HP → (List Nat → HP → Prop) → Prop
  | [], μ, h, k => k μ h
  | rt :: hs, μ, h, k => newK h nums rt fun n h => snocK μ n fun μ => newsK hs μ h k
def getN : List Nat → Nat → (Nat → Prop) → Prop
  | a :: _, 0, k => k a
  | _ :: l, n + 1, k => getN l n k
  | [], _, _ => False
def ren0 (μ : List Nat) (x : AV) (k : AV → Prop) : Prop := match x with
  | .ptr j i o n => getN μ j fun r => k (.ptr r i o n)
  | .aptr j o q => getN μ j fun r => k (.aptr r o q)
  | .slc j o n z => getN μ j fun r => k (.slc r o n z)
  | .bsl j o n => getN μ j fun r => k (.bsl r o n)
  | .mapr j => getN μ j fun r => k (.mapr r)
  | .pan v => k (.pan v)
  | x => (match x.pure1 with | true => k x | false => False)
def ren1 (μ : List Nat) (x : AV) (k : AV → Prop) : Prop := match x with
  | .fn f caps => mapK (ren0 μ) caps fun caps => k (.fn f caps)
  | x => ren0 μ x k
def ren2 (μ : List Nat) (x : AV) (k : AV → Prop) : Prop := match x with
  | .agg l => mapK (ren1 μ) l fun l => k (.agg l)
  | x => ren1 μ x k
def ren3 (μ : List Nat) (x : AV) (k : AV → Prop) : Prop := match x with
  | .tup l => mapK (ren2 μ) l fun l => k (.tup l)
  | x => ren2 μ x k
def giveR (y : AV) (ρ : List Nat) (hs h : HP) (K : AV → HP → Prop) : Prop :=
  putB ρ hs h fun hs h => newsK hs ρ h fun μ h => ren3 μ y fun y => K y h

/-- A contract: what the arguments and the lent roots must be; what comes: the lent roots first. -/
abbrev CH := List AV → HP → (AV → HP → Prop) → Prop
def canRet (st : Bool) (m : Nat) (x : AV) (h : HP) (K : AV → HP → Prop) : Prop := takeN st m nums [] [] h fun ρ hs h => canV3 st x ρ hs h fun y _ hs _ => K y hs
def bodyM (C : Ctx) (st : Bool) (n : Nat) (rs : List ResultVar) (c : Code) : CH := fun args hl K =>
  topsK (n - args.length) fun ts => appK args ts fun t => AWP ⟨C.tab, C.call, hl.length, fun v h => canRet st hl.length (.pan v) h K, C.cut⟩ c (retP C rs fun x h => canRet st hl.length x h K) t hl
def callM (ms : List Md) (st : Bool) (H : CH) : Handler := fun args h K =>
  lendWL ms args [] [] h fun args ρ hs h => lendRL ms args [] h fun args R => match st, R with
    | false, _ :: _ => False
    | _, _ => H args hs fun y hs => giveR y ρ hs h K

end Go.Proofs.YtbfjkjdbdejnmaaGreat.Ab

/- A call by its contract is sound. No condition. -/
namespace Go.Proofs.YtbfjkjdbdejnmaaGreat.Ab
set_option linter.unusedVariables false
set_option linter.unusedSimpArgs false

/-! ### Lending -/

section
variable {E : Env} {G : List Gh} {w : World}

theorem lendWs_spec : ∀ (l : List AV) (ms : List Md) (vs : List Value) {ρ : List Nat} {hs h : HP} {S : BS} {F Ft : Nat → BS} {k : List AV → List Nat → HP → HP → Prop}, Good E G h w S F → Tk E false G w S F ρ hs Ft → (∀ (j : Nat) x, l[j]? = some x → VR G w E.Ro S x (vs.getD j undef)) → lendWs ms l ρ hs h k →
    ∃ y ρ' hs' h' S' F' Ft', k y (ρ ++ ρ') hs' h' ∧ Stp E G w h S F h' S' F' ∧ Tk E false G w S' F' (ρ ++ ρ') hs' Ft' ∧ y.length = l.length ∧
      ∀ (j : Nat) x, y[j]? = some x → (ms[j]? = some .rw → ∀ G2, Mt (ρ ++ ρ') G G2 → VR G2 w E.Ro S' x (vs.getD j undef)) ∧ (ms[j]? ≠ some .rw → VR G w E.Ro S' x (vs.getD j undef))
  | [], ms, vs, ρ, hs, h, S, F, Ft, k, hg, T, hv, hp => ⟨[], [], hs, h, S, F, Ft, by simpa [lendWs] using hp, .refl hg, by simpa using T, rfl, by simp⟩
  | x :: l, ms, vs, ρ, hs, h, S, F, Ft, k, hg, T, hv, hp => by
    have tl : ∀ {S' : BS}, (∀ k, S k → S' k) → ∀ (j : Nat) z, l[j]? = some z → VR G w E.Ro S' z (vs.tail.getD j undef) := fun hs j z hj => by
      have := (hv (j + 1) z (by simpa using hj)).ext (E := E) ⟨fun _ _ h => h, hs, fun _ _ => rfl, fun _ _ => rfl⟩
      cases vs <;> simpa using this
    have tld : ∀ j, vs.tail.getD j undef = vs.getD (j + 1) undef := fun j => by cases vs <;> simp
    have keep : ∀ (m : Option Md) (ms' : List Md), m ≠ some .rw → ms[0]? = m → (∀ j, ms[j + 1]? = ms'[j]?) → (lendWs ms' l ρ hs h fun l ρ hs h => k (x :: l) ρ hs h) → ∃ y ρ' hs' h' S' F' Ft', k y (ρ ++ ρ') hs' h' ∧ Stp E G w h S F h' S' F' ∧ Tk E false G w S' F' (ρ ++ ρ') hs' Ft' ∧ y.length = (x :: l).length ∧
        ∀ (j : Nat) z, y[j]? = some z → (ms[j]? = some .rw → ∀ G2, Mt (ρ ++ ρ') G G2 → VR G2 w E.Ro S' z (vs.getD j undef)) ∧ (ms[j]? ≠ some .rw → VR G w E.Ro S' z (vs.getD j undef)) := by
      intro m ms' hm h0 hms hp
      obtain ⟨y, ρ', hs', h', S', F', Ft', a1, a2, a3, a4, a5⟩ := lendWs_spec l ms' vs.tail hg T (tl fun _ h => h) hp
      refine ⟨x :: y, ρ', hs', h', S', F', Ft', a1, a2, a3, by simp [a4], fun j z hj => ?_⟩
      cases j with
      | zero => simp at hj; subst hj; exact ⟨fun he => absurd (h0.symm.trans he) hm, fun _ => (hv 0 x rfl).ext a2.ext⟩
      | succ j => have := a5 j z (by simpa using hj); rwa [tld, ← hms] at this
    simp only [lendWs] at hp
    split at hp
    · rename_i ms'
      obtain ⟨y0, ρ1, hs1, h1, S1, F1, Ft1, a1, a2, a3, a4⟩ := can1 (st := false) hg T (hv 0 x rfl) hp
      obtain ⟨y, ρ2, hs2, h2, S2, F2, Ft2, b1, b2, b3, b4, b5⟩ := lendWs_spec l ms' vs.tail a2.good a3 (tl a2.s) a1
      rw [List.append_assoc] at b1 b3 b5
      refine ⟨y0 :: y, ρ1 ++ ρ2, hs2, h2, S2, F2, Ft2, b1, a2.trans b2, b3, by simp [b4], fun j z hj => ?_⟩
      cases j with
      | zero =>
        simp at hj; subst hj
        exact ⟨fun _ G2 hM => (a4 G2 (by rw [← List.append_assoc] at hM; exact hM.pre)).1.ext (E := E) ⟨fun _ _ h => h, b2.s, fun _ _ => rfl, fun _ _ => rfl⟩, fun h => absurd rfl h⟩
      | succ j => have := b5 j z (by simpa using hj); rwa [tld] at this
    · rename_i m ms' hne
      exact keep (some m) ms' (fun h => by cases h; exact hne rfl) rfl (fun j => rfl) hp
    · exact keep none [] (by simp) rfl (fun j => by simp) hp

/-- What an argument is behind the first pass. -/
def LA (E : Env) (G : List Gh) (w : World) (S : BS) (ρ : List Nat) (m : Md) (y : AV) (v : Value) : Prop := match m, y with
  | .rw, y => ∀ G2, Mt ρ G G2 → VR G2 w E.Ro S y v
  | .ag ms, .agg l => ∃ vs : List Value, v = .agg vs.toArray ∧ l.length = vs.length ∧ (∀ u ∈ vs, u.oneCell' = true) ∧ ∀ (j : Nat) x, l[j]? = some x → (ms[j]? = some .rw → ∀ G2, Mt ρ G G2 → VR G2 w E.Ro S x (vs.getD j undef)) ∧ (ms[j]? ≠ some .rw → VR G w E.Ro S x (vs.getD j undef))
  | _, y => VR G w E.Ro S y v
theorem LA.later {S S' : BS} {ρ ρ' : List Nat} {m : Md} {y : AV} {v : Value} (h : LA E G w S ρ m y v) (hs : ∀ k, S k → S' k) : LA E G w S' (ρ ++ ρ') m y v := by
  have e : ∀ {G2 : List Gh}, Ext E G2 w S G2 w S' := ⟨fun _ _ h => h, hs, fun _ _ => rfl, fun _ _ => rfl⟩
  cases m with
  | ro => exact VR.ext e h
  | rw => exact fun G2 hM => (h G2 hM.pre).ext e
  | ag ms =>
    cases y
    case agg l =>
      obtain ⟨vs, h1, h2, h3, h4⟩ := h
      exact ⟨vs, h1, h2, h3, fun j x hj => ⟨fun hm G2 hM => ((h4 j x hj).1 hm G2 hM.pre).ext e, fun hm => ((h4 j x hj).2 hm).ext e⟩⟩
    all_goals exact VR.ext e h

theorem lendW_spec {m : Md} {x : AV} {v : Value} {ρ : List Nat} {hs h : HP} {S : BS} {F Ft : Nat → BS} {k : CK} (hg : Good E G h w S F) (T : Tk E false G w S F ρ hs Ft) (hv : VR G w E.Ro S x v) (hp : lendW m x ρ hs h k) :
    ∃ y ρ' hs' h' S' F' Ft', k y (ρ ++ ρ') hs' h' ∧ Stp E G w h S F h' S' F' ∧ Tk E false G w S' F' (ρ ++ ρ') hs' Ft' ∧ LA E G w S' (ρ ++ ρ') m y v := by
  have stay : k x ρ hs h → LA E G w S ρ m x v → ∃ y ρ' hs' h' S' F' Ft', k y (ρ ++ ρ') hs' h' ∧ Stp E G w h S F h' S' F' ∧ Tk E false G w S' F' (ρ ++ ρ') hs' Ft' ∧ LA E G w S' (ρ ++ ρ') m y v := fun h1 h2 =>
    ⟨x, [], hs, h, S, F, Ft, by simpa using h1, .refl hg, by simpa using T, by simpa using h2⟩
  cases m with
  | ro => exact stay hp hv
  | rw =>
    obtain ⟨y, ρ', hs', h', S', F', Ft', a1, a2, a3, a4⟩ := can2 (st := false) hg T hv hp
    exact ⟨y, ρ', hs', h', S', F', Ft', a1, a2, a3, fun G2 hM => (a4 G2 hM).1⟩
  | ag ms =>
    cases x
    case agg l =>
      obtain ⟨vs, rfl, h1, h2, h3⟩ := hv.agg_inv
      obtain ⟨y, ρ', hs', h', S', F', Ft', a1, a2, a3, a4, a5⟩ := lendWs_spec l ms vs hg T h3 hp
      exact ⟨_, ρ', hs', h', S', F', Ft', a1, a2, a3, vs, rfl, a4.trans h1, h2, a5⟩
    all_goals exact stay hp hv

theorem lendWL_spec : ∀ (l : List AV) (ms : List Md) (vs : List Value) {ρ : List Nat} {hs h : HP} {S : BS} {F Ft : Nat → BS} {k : List AV → List Nat → HP → HP → Prop}, Good E G h w S F → Tk E false G w S F ρ hs Ft → (∀ (j : Nat) x, l[j]? = some x → VR G w E.Ro S x (vs.getD j undef)) → lendWL ms l ρ hs h k →
    ∃ y ρ' hs' h' S' F' Ft', k y (ρ ++ ρ') hs' h' ∧ Stp E G w h S F h' S' F' ∧ Tk E false G w S' F' (ρ ++ ρ') hs' Ft' ∧ y.length = l.length ∧ ∀ (j : Nat) x, y[j]? = some x → LA E G w S' (ρ ++ ρ') (ms.getD j .ro) x (vs.getD j undef)
  | [], ms, vs, ρ, hs, h, S, F, Ft, k, hg, T, hv, hp => ⟨[], [], hs, h, S, F, Ft, by simpa [lendWL] using hp, .refl hg, by simpa using T, rfl, by simp⟩
  | x :: l, ms, vs, ρ, hs, h, S, F, Ft, k, hg, T, hv, hp => by
    have tl : ∀ {S' : BS}, (∀ k, S k → S' k) → ∀ (j : Nat) z, l[j]? = some z → VR G w E.Ro S' z (vs.tail.getD j undef) := fun hs j z hj => by
      have := (hv (j + 1) z (by simpa using hj)).ext (E := E) ⟨fun _ _ h => h, hs, fun _ _ => rfl, fun _ _ => rfl⟩
      cases vs <;> simpa using this
    have tld : ∀ j, vs.tail.getD j undef = vs.getD (j + 1) undef := fun j => by cases vs <;> simp
    cases ms with
    | cons m ms =>
      simp only [lendWL] at hp
      obtain ⟨y0, ρ1, hs1, h1, S1, F1, Ft1, a1, a2, a3, a4⟩ := lendW_spec hg T (hv 0 x rfl) hp
      obtain ⟨y, ρ2, hs2, h2, S2, F2, Ft2, b1, b2, b3, b4, b5⟩ := lendWL_spec l ms vs.tail a2.good a3 (tl a2.s) a1
      rw [List.append_assoc] at b1 b3 b5
      refine ⟨y0 :: y, ρ1 ++ ρ2, hs2, h2, S2, F2, Ft2, b1, a2.trans b2, b3, by simp [b4], fun j z hj => ?_⟩
      cases j with
      | zero =>
        simp at hj; subst hj
        have := a4.later (ρ' := ρ2) b2.s
        rwa [List.append_assoc] at this
      | succ j => have := b5 j z (by simpa using hj); rw [tld] at this; simpa using this
    | nil =>
      simp only [lendWL] at hp
      obtain ⟨y, ρ', hs', h', S', F', Ft', a1, a2, a3, a4, a5⟩ := lendWL_spec l [] vs.tail hg T (tl fun _ h => h) hp
      refine ⟨x :: y, ρ', hs', h', S', F', Ft', a1, a2, a3, by simp [a4], fun j z hj => ?_⟩
      cases j with
      | zero => simp at hj; subst hj; exact (hv 0 x rfl).ext a2.ext
      | succ j => have := a5 j z (by simpa using hj); rw [tld] at this; simpa using this

/-! ### To be read -/

/-- The memory that a call may read: what its caller may, and the roots that are lent to it. -/
def RoL (E : Env) (F : Nat → BS) (R : List Nat) : BS := fun k => E.Ro k ∨ ∃ r ∈ R, F r k
theorem RoL.mono {F : Nat → BS} {R R' : List Nat} (h : ∀ r ∈ R, r ∈ R') : ∀ k, RoL E F R k → RoL E F R' k := fun k hk => hk.imp id fun ⟨r, h1, h2⟩ => ⟨r, h r h1, h2⟩

theorem OR.ir {Ro S : BS} {a x F} (h : OR w (fun _ => False) S a x F) : (∀ k, F k → Ro k) → IR w Ro S false a x := by
  induction h with
  | leaf a x h1 h2 => exact fun _ => (h2.true_ro rfl).weak
  | sl0 s a => exact fun _ => .sl0 _ s a 0
  | sl s l b c cs T cv Fc h1 h2 h3 h4 h5 _ h7 h8 ih =>
    exact fun hF => .sl _ s l b 0 c cs T (0, 0) cv (.inl (hF b (.inl rfl))) h1 h2 h3 (fun j hj => by rw [Nat.zero_add]; exact h5 j hj) (fun j x hj => ih j x hj (fun k hk => hF k (.inr ⟨j, (List.getElem?_eq_some_iff.1 hj).1, hk⟩)))

theorem CR.lend {G : List Gh} {Ro Ro2 S : BS} {a x F} (h : CR G w Ro S a x F) (hs : a.shutL = true) (hr : ∀ k, Ro k → Ro2 k) (hF : ∀ k, F k → Ro2 k) : IR w Ro2 S false a x := by
  by_cases hf : a.shutF = true
  · exact (h.or (Ro2 := fun _ => False) hf).ir hF
  · rcases h with ⟨h1, h2, _⟩ | h
    · cases a
      case imm =>
        cases h2 with
        | ir _ _ _ q => exact q.ro hr
      case iptr =>
        cases h2 with
        | ir _ _ _ q => exact q.ro hr
      all_goals exact absurd hs hf
    · exact (h.ro (Ro2 := fun _ => False)).ir hF

theorem lendR1_spec {h : HP} {S : BS} {F : Nat → BS} (hg : Good E G h w S F) {x : AV} {v : Value} {R : List Nat} {k : AV → List Nat → Prop} (hv : VR G w E.Ro S x v) (hp : lendR1 x R h k) :
    ∃ y R', k y R' ∧ (∀ r ∈ R, r ∈ R') ∧ ∀ G2, VR G2 w (RoL E F R') S y v := by
  unfold lendR1 at hp
  split at hp
  · rename_i r o n z
    obtain ⟨rt, hr, hp2⟩ := rootK_spec hp
    cases rt with
    | lst s l =>
      obtain ⟨L, hL, hn, hs, hp3⟩ := hp2
      obtain ⟨g, ad, c, p1, p2, p3, p4, p5⟩ := hv.slc_inv
      subst p2
      refine ⟨_, r :: R, hp3, fun _ h => List.mem_cons_of_mem _ h, fun G2 => .ir _ _ rfl (.imm _ _ _ _ _ ad n c (by simp) ?_ p4)⟩
      by_cases h0 : L = []
      · subst h0
        have : n = 0 := by simpa using hn.symm
        subst this
        exact .sl0 _ _ _ _
      · have hn0 : 0 < n := by
          rw [← hn]
          exact List.length_pos_iff.2 h0
        obtain ⟨q1, q2, q3⟩ := hg.root r _ g hr p1
        rcases p5 with p5 | ⟨b, p5, p6, p7⟩
        · omega
        subst p6
        have hmem : ∀ e ∈ L, e ∈ l := fun e he => by rw [← hL] at he; exact List.mem_of_mem_drop (List.mem_of_mem_take he)
        have hlen : ∀ e ∈ L, e.length = s := fun e he => q2 e (hmem e he)
        rcases q3 with ⟨q3, q4, _⟩ | ⟨b', cs, T, u1, u2, u3, u4, u5⟩
        · rw [q3] at p5; cases p5
        rw [p5] at u1
        cases u1
        obtain ⟨cv, Fc, w1, w2, w3, w4, w5⟩ := u5
        have hln : o + n ≤ l.length := by
          have := congrArg List.length hL
          rw [hn] at this
          simp only [List.length_take, List.length_drop] at this
          omega
        have hfl : ∀ j, j < L.flatten.length → L.flatten[j]? = l.flatten[o * s + j]? := by
          intro j hj
          rw [flat_length _ _ hlen, hn] at hj
          have hsp : 0 < s := by
            rcases Nat.eq_zero_or_pos s with h | h
            · subst h; simp at hj
            · exact h
          have hdiv : j / s < n := by rw [Nat.div_lt_iff_lt_mul hsp]; exact hj
          have hmod := Nat.mod_lt j hsp
          have e1 : L[j / s]? = l[o + j / s]? := by rw [← hL, List.getElem?_take, if_pos hdiv, List.getElem?_drop]
          have e2 : l[o + j / s]? = some l[o + j / s] := List.getElem?_eq_getElem (by omega)
          have f1 := flat_get _ _ hlen _ _ (e1.trans e2) _ hmod
          have f2 := flat_get _ _ q2 _ _ e2 _ hmod
          rw [Nat.div_add_mod'] at f1
          rw [f1, ← f2]
          congr 1
          rw [Nat.add_mul, Nat.add_assoc, Nat.div_add_mod']
        have hfll : ∀ j, j < L.flatten.length → o * s + j < l.flatten.length := by
          intro j hj
          rw [flat_length _ _ hlen, hn] at hj
          rw [flat_length _ _ q2]
          calc o * s + j < o * s + n * s := by omega
            _ = (o + n) * s := by rw [Nat.add_mul]
            _ ≤ l.length * s := Nat.mul_le_mul_right _ hln
        rw [← hn]
        refine .sl _ s L b (o * g.s) c cs T (0, 0) (fun j => cv (o * s + j)) (.inl (.inr ⟨r, List.mem_cons_self, (w5 b).2 (.inl rfl)⟩)) u2 hlen (by omega) (fun j hj => by rw [q1]; exact w1 _ (hfll j hj)) (fun j y hj => ?_)
        have hjl := (List.getElem?_eq_some_iff.1 hj).1
        have hjl2 := hfll j hjl
        obtain ⟨e, he, hy⟩ := List.mem_flatten.1 (List.mem_of_getElem? hj)
        rw [hfl j hjl] at hj
        exact ((w2 _ _ hj).or (Ro2 := fun _ => False) (hs e he y hy)).ir (fun k hk => .inr ⟨r, List.mem_cons_self, (w5 k).2 (.inr ⟨_, hjl2, hk⟩)⟩)
    | _ => exact hp2.elim
  · rename_i r o n
    obtain ⟨rt, hr, hp2⟩ := rootK_spec hp
    cases rt with
    | box cells =>
      obtain ⟨hle, hp3⟩ := cutK_spec _ _ _ _ hp2
      split at hp3
      · rename_i hs
        have hs := List.all_eq_true.1 hs
        obtain ⟨b, g, c, p1, p2, p3, p4⟩ := hv.bsl_inv
        subst p4
        obtain ⟨b', cs, T, u1, u2, u3, cv, Fc, w1, w2, w3, w4, w5⟩ := hg.root r _ g hr p1
        rw [p2] at u1; cases u1
        have hnl : ((cells.drop o).take n).length = n := by simp; omega
        have hflat : (((cells.drop o).take n).map fun c => [c]).flatten = (cells.drop o).take n := by
          generalize (cells.drop o).take n = q
          induction q with
          | nil => rfl
          | cons a q ih => simp [ih]
        refine ⟨_, r :: R, hp3, fun _ h => List.mem_cons_of_mem _ h, fun G2 => .ir _ _ rfl (.imm _ _ _ _ _ _ n c (by simp) ?_ (by simp))⟩
        have := IR.sl (w := w) (Ro := RoL E F (r :: R)) (S := S) false 1 (((cells.drop o).take n).map fun c => [c]) b o c cs T (0, 0) (fun j => cv (o + j)) (.inl (.inr ⟨r, List.mem_cons_self, (w5 b).2 (.inl rfl)⟩)) u2 (fun e he => by obtain ⟨c, _, rfl⟩ := List.mem_map.1 he; rfl)
          (by rw [List.length_map, hnl]; exact p3) (fun j hj => by rw [hflat, hnl] at hj; exact w1 _ (by omega)) (fun j y hj => by
            rw [hflat] at hj
            have hjl := (List.getElem?_eq_some_iff.1 hj).1
            have hm := List.mem_of_getElem? hj
            rw [hnl] at hjl
            rw [List.getElem?_take, if_pos hjl, List.getElem?_drop] at hj
            exact ((w2 _ _ hj).or (Ro2 := fun _ => False) (hs y hm)).ir (fun k hk => .inr ⟨r, List.mem_cons_self, (w5 k).2 (.inr ⟨_, by omega, hk⟩)⟩))
        rwa [List.length_map, hnl] at this
      · exact hp3.elim
    | _ => exact hp2.elim
  · rename_i r n
    obtain ⟨rt, hr, hp2⟩ := rootK_spec hp
    cases rt with
    | box cells =>
      simp only at hp2
      split at hp2
      · rename_i hs
        have hs := List.all_eq_true.1 hs
        obtain ⟨b, g, p1, p2, p3⟩ := hv.ptr_inv
        subst p3
        obtain ⟨b', cs, T, u1, u2, u3, cv, Fc, w1, w2, w3, w4, w5⟩ := hg.root r _ g hr p1
        rw [p2] at u1; cases u1
        refine ⟨_, r :: R, hp2, fun _ h => List.mem_cons_of_mem _ h, fun G2 => .ir _ _ rfl ?_⟩
        rw [Nat.zero_mul, Nat.zero_add]
        exact .iptr _ _ cells b 0 cs T (0, 0) cv (by simp) (.inl (.inr ⟨r, List.mem_cons_self, (w5 b).2 (.inl rfl)⟩)) u2 (fun j hj => by rw [Nat.zero_add]; exact w1 j hj) (fun j y hj =>
          (w2 _ _ hj).lend (hs y (List.mem_of_getElem? hj)) (fun k hk => .inl hk) (fun k hk => .inr ⟨r, List.mem_cons_self, (w5 k).2 (.inr ⟨_, (List.getElem?_eq_some_iff.1 hj).1, hk⟩)⟩))
      · exact hp2.elim
    | _ => exact hp2.elim
  · split at hp
    · rename_i hs
      exact ⟨x, R, hp, fun _ h => h, fun G2 => hv.pure1 (fun _ h => .inl h) hs⟩
    · exact hp.elim

theorem lendRs_spec {h : HP} {S : BS} {F : Nat → BS} (hg : Good E G h w S F) (all : Bool) {G2 : List Gh} : ∀ (l : List AV) (ms : List Md) (vs : List Value) {R : List Nat} {k : List AV → List Nat → Prop},
    (∀ (j : Nat) x, l[j]? = some x → (all = false → ms[j]? = some .rw → VR G2 w E.Ro S x (vs.getD j undef)) ∧ (all = true ∨ ms[j]? ≠ some .rw → VR G w E.Ro S x (vs.getD j undef))) → lendRs ms all l R h k →
    ∃ y R', k y R' ∧ (∀ r ∈ R, r ∈ R') ∧ y.length = l.length ∧ ∀ (j : Nat) x, y[j]? = some x → VR G2 w (RoL E F R') S x (vs.getD j undef)
  | [], ms, vs, R, k, hv, hp => ⟨[], R, hp, fun _ h => h, rfl, by simp⟩
  | x :: l, ms, vs, R, k, hv, hp => by
    have tld : ∀ j, vs.tail.getD j undef = vs.getD (j + 1) undef := fun j => by cases vs <;> simp
    have read : ∀ ms' : List Md, (∀ j, ms[j + 1]? = ms'[j]?) → VR G w E.Ro S x (vs.getD 0 undef) → (lendR1 x R h fun y R => lendRs ms' all l R h fun l R => k (y :: l) R) → ∃ y R', k y R' ∧ (∀ r ∈ R, r ∈ R') ∧ y.length = (x :: l).length ∧ ∀ (j : Nat) x, y[j]? = some x → VR G2 w (RoL E F R') S x (vs.getD j undef) := by
      intro ms' hms hx hp
      obtain ⟨y0, R1, a1, a2, a3⟩ := lendR1_spec hg hx hp
      obtain ⟨y, R2, b1, b2, b3, b4⟩ := lendRs_spec hg all l ms' vs.tail (fun j z hj => by have := hv (j + 1) z (by simpa using hj); rwa [hms, ← tld] at this) a1
      refine ⟨y0 :: y, R2, b1, fun r hr => b2 r (a2 r hr), by simp [b3], fun j z hj => ?_⟩
      cases j with
      | zero => simp at hj; subst hj; exact (a3 G2).ro (RoL.mono b2)
      | succ j => have := b4 j z (by simpa using hj); rwa [tld] at this
    simp only [lendRs] at hp
    split at hp
    · rename_i ms'
      have hx := (hv 0 x rfl).1 rfl rfl
      obtain ⟨y, R2, b1, b2, b3, b4⟩ := lendRs_spec hg false l ms' vs.tail (fun j z hj => by have := hv (j + 1) z (by simpa using hj); rw [tld]; simpa using this) hp
      refine ⟨x :: y, R2, b1, b2, by simp [b3], fun j z hj => ?_⟩
      cases j with
      | zero => simp at hj; subst hj; exact hx.ro (fun _ h => .inl h)
      | succ j => have := b4 j z (by simpa using hj); rwa [tld] at this
    · rename_i hne
      refine read ms.tail (fun j => by cases ms <;> simp) ((hv 0 x rfl).2 ?_) hp
      cases all with
      | true => exact .inl rfl
      | false =>
        refine .inr fun h0 => ?_
        cases ms with
        | nil => simp at h0
        | cons m ms => simp at h0; subst h0; exact hne ms rfl rfl

theorem lendR_spec {h : HP} {S : BS} {F : Nat → BS} (hg : Good E G h w S F) {ρ : List Nat} {m : Md} {x : AV} {v : Value} {R : List Nat} {k : AV → List Nat → Prop} (hv : LA E G w S ρ m x v) (hp : lendR m x R h k) :
    ∃ y R', k y R' ∧ (∀ r ∈ R, r ∈ R') ∧ VR (ghs G ρ) w (RoL E F R') S y v := by
  have one : VR G w E.Ro S x v → lendR1 x R h k → ∃ y R', k y R' ∧ (∀ r ∈ R, r ∈ R') ∧ VR (ghs G ρ) w (RoL E F R') S y v := fun h1 h2 => by
    obtain ⟨y, R', a1, a2, a3⟩ := lendR1_spec hg h1 h2
    exact ⟨y, R', a1, a2, a3 _⟩
  cases m with
  | rw => exact ⟨x, R, hp, fun _ h => h, (hv _ (mt_ghs G ρ)).ro (fun _ h => .inl h)⟩
  | ro =>
    cases x
    case agg l =>
      obtain ⟨vs, rfl, h1, h2, h3⟩ := VR.agg_inv hv
      obtain ⟨y, R', b1, b2, b3, b4⟩ := lendRs_spec hg true (G2 := ghs G ρ) l [] vs (fun j z hj => ⟨fun h => (by cases h), fun _ => h3 j z hj⟩) hp
      exact ⟨_, R', b1, b2, .agg y vs (b3.trans h1) h2 b4⟩
    all_goals exact one hv hp
  | ag ms =>
    cases x
    case agg l =>
      obtain ⟨vs, rfl, h1, h2, h3⟩ := hv
      obtain ⟨y, R', b1, b2, b3, b4⟩ := lendRs_spec hg false (G2 := ghs G ρ) l ms vs (fun j z hj => ⟨fun _ hm => (h3 j z hj).1 hm _ (mt_ghs G ρ), fun hm => (h3 j z hj).2 (hm.elim (fun h => (by cases h)) id)⟩) hp
      exact ⟨_, R', b1, b2, .agg y vs (b3.trans h1) h2 b4⟩
    all_goals exact one hv hp

theorem lendRL_spec {h : HP} {S : BS} {F : Nat → BS} (hg : Good E G h w S F) {ρ : List Nat} : ∀ (l : List AV) (ms : List Md) (vs : List Value) {R : List Nat} {k : List AV → List Nat → Prop},
    (∀ (j : Nat) x, l[j]? = some x → LA E G w S ρ (ms.getD j .ro) x (vs.getD j undef)) → lendRL ms l R h k →
    ∃ y R', k y R' ∧ (∀ r ∈ R, r ∈ R') ∧ y.length = l.length ∧ ∀ (j : Nat) x, y[j]? = some x → VR (ghs G ρ) w (RoL E F R') S x (vs.getD j undef)
  | [], ms, vs, R, k, hv, hp => ⟨[], R, hp, fun _ h => h, rfl, by simp⟩
  | x :: l, ms, vs, R, k, hv, hp => by
    have tld : ∀ j, vs.tail.getD j undef = vs.getD (j + 1) undef := fun j => by cases vs <;> simp
    have go : ∀ (m : Md) (ms' : List Md), ms.getD 0 .ro = m → (∀ j, ms.getD (j + 1) .ro = ms'.getD j .ro) → (lendR m x R h fun y R => lendRL ms' l R h fun l R => k (y :: l) R) → ∃ y R', k y R' ∧ (∀ r ∈ R, r ∈ R') ∧ y.length = (x :: l).length ∧ ∀ (j : Nat) x, y[j]? = some x → VR (ghs G ρ) w (RoL E F R') S x (vs.getD j undef) := by
      intro m ms' hm hms hp
      have hx := hv 0 x rfl
      rw [hm] at hx
      obtain ⟨y0, R1, a1, a2, a3⟩ := lendR_spec hg hx hp
      obtain ⟨y, R2, b1, b2, b3, b4⟩ := lendRL_spec hg l ms' vs.tail (fun j z hj => by have := hv (j + 1) z (by simpa using hj); rwa [hms, ← tld] at this) a1
      refine ⟨y0 :: y, R2, b1, fun r hr => b2 r (a2 r hr), by simp [b3], fun j z hj => ?_⟩
      cases j with
      | zero => simp at hj; subst hj; exact a3.ro (RoL.mono b2)
      | succ j => have := b4 j z (by simpa using hj); rwa [tld] at this
    cases ms with
    | cons m ms => exact go m ms rfl (fun j => rfl) hp
    | nil => exact go .ro [] rfl (fun j => rfl) hp

/-! ### Giving back -/

/-- Roots that are to be put back, or are new. -/
structure Pend (E : Env) (w : World) (S : BS) (F : Nat → BS) (hs : HP) (gs : List Gh) (Ft : Nat → BS) : Prop where
  root : ∀ (j : Nat) rt, hs[j]? = some rt → ∃ g, gs[j]? = some g ∧ ∀ G2, RootR G2 w E.Ro S rt g (Ft j)
  dis : ∀ i j k, Ft i k → Ft j k → i = j
  ap : ∀ j, Apart E w S F (Ft j)
theorem Pend.tail {S F rt hs g gs Ft} (p : Pend E w S F (rt :: hs) (g :: gs) Ft) {F' : Nat → BS} (hF : ∀ r k, F' r k → F r k ∨ Ft 0 k) : Pend E w S F' hs gs (fun j => Ft (j + 1)) :=
  ⟨fun j rt hj => by simpa using p.root (j + 1) rt (by simpa using hj), fun i j k h1 h2 => by have := p.dis _ _ k h1 h2; omega,
    fun j => ⟨(p.ap (j + 1)).1, fun r k hr hk => (hF r k hr).elim (fun h => (p.ap (j + 1)).2 r k h hk) (fun h => by have := p.dis _ _ k h hk; omega)⟩⟩

theorem putB_spec : ∀ (ρ : List Nat) (hs h : HP) (gs : List Gh) {S : BS} {F Ft : Nat → BS} {k : HP → HP → Prop}, Good E G h w S F → Pend E w S F hs gs Ft → (∀ (j r : Nat) g, ρ[j]? = some r → gs[j]? = some g → G[r]? = some g) → putB ρ hs h k →
    ∃ hs' h' F' Ft', k hs' h' ∧ hs = hs.take ρ.length ++ hs' ∧ ρ.length ≤ hs.length ∧ Good E G h' w S F' ∧ Pend E w S F' hs' (gs.drop ρ.length) Ft'
  | [], hs, h, gs, S, F, Ft, k, hg, hP, hG, hp => ⟨hs, h, F, Ft, hp, by simp, by simp, hg, by simpa using hP⟩
  | r :: ρ, [], h, gs, S, F, Ft, k, hg, hP, hG, hp => hp.elim
  | r :: ρ, rt :: hs, h, gs, S, F, Ft, k, hg, hP, hG, hp => by
    simp only [putB, setK_eq] at hp
    obtain ⟨g, hg0, hroot⟩ := hP.root 0 rt rfl
    cases gs with
    | nil => simp at hg0
    | cons g' gs =>
      simp at hg0
      subst hg0
      have hgr := hG 0 r g' rfl rfl
      have hrl : r < h.length := by rw [← hg.len]; exact (List.getElem?_eq_some_iff.1 hgr).1
      have hg2 := hg.setRoot' hrl hgr (Chg.refl w _) (hroot G) (fun i k hi h1 h2 => (hP.ap 0).2 i k h1 h2) (fun k hk => (hP.ap 0).1 k hk)
      obtain ⟨hs', h', F', Ft', a1, a2, a3, a4, a5⟩ := putB_spec ρ hs _ gs hg2 (hP.tail (fun i k hk => by
        by_cases hi : i = r
        · simp only [hi, if_true] at hk; exact .inr hk
        · simp only [hi, if_false] at hk; exact .inl hk)) (fun j r g h1 h2 => hG (j + 1) r g (by simpa using h1) (by simpa using h2)) hp
      exact ⟨hs', h', F', Ft', a1, by simp only [List.length_cons, List.take_succ_cons, List.cons_append]; rw [← a2], by simp; omega, a4, by simpa using a5⟩

theorem newsK_spec : ∀ (hs : HP) (μ : List Nat) (h : HP) (gs G : List Gh) {S : BS} {F Ft : Nat → BS} {k : List Nat → HP → Prop}, Good E G h w S F → Pend E w S F hs gs Ft → newsK hs μ h k →
    ∃ μ' h' G' F', k (μ ++ μ') h' ∧ Good E G' h' w S F' ∧ (∀ (r : Nat) g, G[r]? = some g → G'[r]? = some g) ∧ μ'.length = hs.length ∧ ∀ (j : Nat) g, j < hs.length → gs[j]? = some g → ∃ r, μ'[j]? = some r ∧ G'[r]? = some g
  | [], μ, h, gs, G, S, F, Ft, k, hg, hP, hp => ⟨[], h, G, F, by simpa [newsK] using hp, hg, fun _ _ h => h, rfl, by simp⟩
  | rt :: hs, μ, h, gs, G, S, F, Ft, k, hg, hP, hp => by
    simp only [newsK] at hp
    have hp1 := newK_spec hp
    rw [snocK_eq] at hp1
    obtain ⟨g, hg0, hroot⟩ := hP.root 0 rt rfl
    cases gs with
    | nil => simp at hg0
    | cons g' gs =>
      simp at hg0
      subst hg0
      have hg2 := hg.addRoot g' rt (Ft 0) (hroot _) (fun r k hr hk => (hP.ap 0).2 r k hr hk) (fun k hk => (hP.ap 0).1 k hk)
      obtain ⟨μ', h', G', F', a1, a2, a3, a4, a5⟩ := newsK_spec hs (μ ++ [h.length]) _ gs _ hg2 (hP.tail (fun i k hk => by
        by_cases hi : i = h.length
        · simp only [hi, if_true] at hk; exact .inr hk
        · simp only [hi, if_false] at hk; exact .inl hk)) hp1
      refine ⟨h.length :: μ', h', G', F', by simpa using a1, a2, fun r g hr => a3 r g (pre_append G g' r g hr), by simp [a4], fun j q hj hq => ?_⟩
      cases j with
      | zero => simp at hq; subst hq; exact ⟨h.length, rfl, a3 _ _ (by rw [List.getElem?_append_right (by rw [hg.len]; exact Nat.le_refl _)]; simp [hg.len])⟩
      | succ j => simpa using a5 j q (by simpa using hj) (by simpa using hq)

/-- Roots' numbers turned into others. -/
def Rn (μ : List Nat) (G2 G3 : List Gh) : Prop := ∀ (j : Nat) g, G2[j]? = some g → ∃ r, μ[j]? = some r ∧ G3[r]? = some g
theorem getN_spec : ∀ (μ : List Nat) (j : Nat) (k : Nat → Prop), getN μ j k → ∃ r, μ[j]? = some r ∧ k r
  | [], j, k, h => by simp [getN] at h
  | a :: l, 0, k, h => ⟨a, rfl, h⟩
  | a :: l, j + 1, k, h => by simpa using getN_spec l j k (by simpa [getN] using h)

theorem ren0_spec {μ : List Nat} {G2 G3 : List Gh} {Ro S : BS} (hR : Rn μ G2 G3) {x : AV} {v : Value} {k : AV → Prop} (hv : VR G2 w Ro S x v) (hp : ren0 μ x k) : ∃ y, k y ∧ VR G3 w Ro S y v := by
  have pure : x.pure1 = true → k x → ∃ y, k y ∧ VR G3 w Ro S y v := fun h1 h2 => ⟨x, h2, hv.pure1 (fun _ h => h) h1⟩
  have get : ∀ (j : Nat) g, G2[j]? = some g → ∀ f : Nat → AV, (getN μ j fun r => k (f r)) → ∃ r, k (f r) ∧ G3[r]? = some g := fun j g hj f h => by
    obtain ⟨r, h1, h2⟩ := getN_spec _ _ _ h
    obtain ⟨r', h3, h4⟩ := hR j g hj
    rw [h1] at h3; cases h3
    exact ⟨r, h2, h4⟩
  cases x <;> simp only [ren0] at hp
  case ptr j i o n =>
    obtain ⟨b, g, h1, h2, rfl⟩ := hv.ptr_inv
    obtain ⟨r, h3, h4⟩ := get j g h1 (fun r => .ptr r i o n) hp
    exact ⟨_, h3, .ptr r i o n b g h4 h2⟩
  case aptr j o q =>
    obtain ⟨b, g, h1, h2, rfl⟩ := hv.aptr_inv
    obtain ⟨r, h3, h4⟩ := get j g h1 (fun r => .aptr r o q) hp
    exact ⟨_, h3, .aptr r o q b g h4 h2⟩
  case slc j o n z =>
    obtain ⟨g, a, c, h1, rfl, h5, h6, h7⟩ := hv.slc_inv
    obtain ⟨r, h3, h4⟩ := get j g h1 (fun r => .slc r o n z) hp
    exact ⟨_, h3, .slc r o n z g a c h4 h5 h6 h7⟩
  case bsl j o n =>
    obtain ⟨b, g, c, h1, h2, h5, rfl⟩ := hv.bsl_inv
    obtain ⟨r, h3, h4⟩ := get j g h1 (fun r => .bsl r o n) hp
    exact ⟨_, h3, .bsl r o n b c g h4 h2 h5⟩
  case mapr j =>
    obtain ⟨b, g, h1, h2, rfl⟩ := hv.mapr_inv
    obtain ⟨r, h3, h4⟩ := get j g h1 (fun r => .mapr r) hp
    exact ⟨_, h3, .mapr r b g h4 h2⟩
  case pan x => exact hv.pan_inv.elim
  all_goals
    split at hp
    · exact pure (by assumption) hp
    · exact hp.elim
theorem renL_spec {G2 G3 : List Gh} {Ro S : BS} {f : AV → (AV → Prop) → Prop} (hf : ∀ {x : AV} {v : Value} {k : AV → Prop}, VR G2 w Ro S x v → f x k → ∃ y, k y ∧ VR G3 w Ro S y v) : ∀ (l : List AV) (vs : List Value) {k : List AV → Prop},
    (∀ (j : Nat) x, l[j]? = some x → VR G2 w Ro S x (vs.getD j undef)) → mapK f l k → ∃ y, k y ∧ y.length = l.length ∧ ∀ (j : Nat) x, y[j]? = some x → VR G3 w Ro S x (vs.getD j undef)
  | [], vs, k, hv, hp => ⟨[], hp, rfl, by simp⟩
  | x :: l, vs, k, hv, hp => by
    obtain ⟨y0, a1, a2⟩ := hf (hv 0 x rfl) hp
    obtain ⟨y, b1, b2, b3⟩ := renL_spec hf l vs.tail (fun j z hj => by
      have := hv (j + 1) z (by simpa using hj)
      cases vs <;> simpa using this) a1
    refine ⟨y0 :: y, b1, by simp [b2], fun j z hj => ?_⟩
    cases j with
    | zero => simp at hj; subst hj; exact a2
    | succ j =>
      have := b3 j z (by simpa using hj)
      cases vs <;> simpa using this
theorem ren1_spec {μ : List Nat} {G2 G3 : List Gh} {Ro S : BS} (hR : Rn μ G2 G3) {x : AV} {v : Value} {k : AV → Prop} (hv : VR G2 w Ro S x v) (hp : ren1 μ x k) : ∃ y, k y ∧ VR G3 w Ro S y v := by
  cases x
  case fn f caps =>
    obtain ⟨vs, rfl, h1, h2⟩ := hv.fn_inv
    obtain ⟨y, a1, a2, a3⟩ := renL_spec (f := ren0 μ) (fun hv hp => ren0_spec hR hv hp) caps vs h2 hp
    exact ⟨_, a1, .fn f y vs (a2.trans h1) a3⟩
  all_goals exact ren0_spec hR hv hp
theorem ren2_spec {μ : List Nat} {G2 G3 : List Gh} {Ro S : BS} (hR : Rn μ G2 G3) {x : AV} {v : Value} {k : AV → Prop} (hv : VR G2 w Ro S x v) (hp : ren2 μ x k) : ∃ y, k y ∧ VR G3 w Ro S y v := by
  cases x
  case agg l =>
    obtain ⟨vs, rfl, h1, h2, h3⟩ := hv.agg_inv
    obtain ⟨y, a1, a2, a3⟩ := renL_spec (f := ren1 μ) (fun hv hp => ren1_spec hR hv hp) l vs h3 hp
    exact ⟨_, a1, .agg y vs (a2.trans h1) h2 a3⟩
  all_goals exact ren1_spec hR hv hp
theorem ren3_spec {μ : List Nat} {G2 G3 : List Gh} {Ro S : BS} (hR : Rn μ G2 G3) {x : AV} {v : Value} {k : AV → Prop} (hv : VR G2 w Ro S x v) (hp : ren3 μ x k) : ∃ y, k y ∧ VR G3 w Ro S y v := by
  cases x
  case tup l =>
    obtain ⟨vs, rfl, h1, h3⟩ := hv.tup_inv
    obtain ⟨y, a1, a2, a3⟩ := renL_spec (f := ren2 μ) (fun hv hp => ren2_spec hR hv hp) l vs h3 hp
    exact ⟨_, a1, .tup y vs (a2.trans h1) a3⟩
  all_goals exact ren2_spec hR hv hp
end

theorem RootR.roMono {G : List Gh} {w : World} {Ro Ro2 S : BS} (hr : ∀ k, Ro k → Ro2 k) {rt g F} (h : RootR G w Ro S rt g F) : RootR G w Ro2 S rt g F := by
  have hc : ∀ {x v F}, CR G w Ro S x v F → CR G w Ro2 S x v F := fun h => h.imp (fun ⟨h1, h2, h3⟩ => ⟨h1, h2.ro hr, h3⟩) (fun h => h.ro)
  cases rt with
  | box cells =>
    obtain ⟨b, cs, T, h1, h2, h3, h4⟩ := h
    exact ⟨b, cs, T, h1, h2, h3, h4.map fun x hx v F h => hc h⟩
  | lst s l =>
    obtain ⟨h1, h2, h3⟩ := h
    exact ⟨h1, h2, h3.imp id fun ⟨b, cs, T, q1, q2, q3, q4, q5⟩ => ⟨b, cs, T, q1, q2, q3, q4, q5.map fun x hx v F h => hc h⟩⟩
  | mp t l => exact h
  | dead => exact h

/-! ### The call -/

theorem callM_sound {P : Program} {C : Ctx} (hC : CtxOk P C) (hm : P.follows .mixedOrders = true) {f : FuncId} {fn : Func} (hf : P.funcs[f]? = some fn) (hb : fn.body.isSome = true) {ms : List Md} {st : Bool} {H : CH}
    (hH : ∀ args hl K, H args hl K → bodyM C st fn.ntmps fn.results.toList (fn.body.getD .skip) args hl K) : HSound P f (callM ms st H) := by
  intro E G S F h w args0 vs K hg hl0 hv0 hp0
  obtain ⟨args1, ρ, hs, h1, S1, F1, Ft, hp1, st1, T1, hl1, hv1⟩ := lendWL_spec args0 ms vs hg Tk.nil hv0 hp0
  rw [List.nil_append] at hp1 T1 hv1
  obtain ⟨args, R, hp2, _, hl2, hv2⟩ := lendRL_spec st1.good args1 ms vs hv1 hp1
  have hRst : (R = [] ∨ st = true) ∧ H args hs fun y hs => giveR y ρ hs h1 K := by
    cases st with
    | true => exact ⟨.inr rfl, hp2⟩
    | false =>
      cases R with
      | nil => exact ⟨.inl rfl, hp2⟩
      | cons _ _ => exact hp2.elim
  clear hp2
  obtain ⟨hRs, hHK⟩ := hRst
  have hp := hH _ _ _ hHK
  have hl : args.length = vs.length := (hl2.trans hl1).trans hl0
  have hb' : fn.body = some (fn.body.getD .skip) := by cases h : fn.body with | none => simp [h] at hb | some c => rfl
  generalize fn.body.getD .skip = c at hb' hp
  unfold bodyM at hp
  rw [topsK_eq, appK_eq] at hp
  have hg1 := st1.good
  refine calls_of_wp hf hb' ?_
  -- the callee's surroundings
  let E' : Env := ⟨w, fun k => ∃ j, Ft j k, S1, RoL E F1 R, w, ghs G ρ⟩
  have hO : ∀ k, (∃ j, Ft j k) → k < w.heap.size ∧ (E.O k ∨ E.w0.heap.size ≤ k) ∧ ¬ S1 k := fun k ⟨j, hj⟩ => (T1.ap j).1 k hj
  have hRo : ∀ k, RoL E F1 R k → k < w.heap.size ∧ ¬ ∃ j, Ft j k := by
    rintro k (hk | ⟨r, hr, hk⟩)
    · refine ⟨hg1.ro_lt hk, fun ⟨j, hj⟩ => ?_⟩
      rcases ((T1.ap j).1 k hj).2.1 with h | h
      · exact (hg1.rok k hk).2 h
      · have := (hg1.rok k hk).1; omega
    · exact ⟨(hg1.own r k hk).1, fun ⟨j, hj⟩ => (T1.ap j).2 r k hk hj⟩
  have g0 : Good E' (ghs G ρ) hs w S1 Ft := by
    refine ⟨by simp [ghs, T1.len], fun r rt g q1 q2 => ?_, T1.dis, T1.out, fun r k hk => ⟨((T1.ap r).1 k hk).1, .inl ⟨r, hk⟩, ((T1.ap r).1 k hk).2.2⟩, hg1.sb, fun _ h => h, fun _ h => .inl h, Nat.le_refl _, rfl, rfl, rfl, fun _ _ _ => rfl, hRo, fun _ _ h => h, fun _ _ => rfl⟩
    have hr : r < ρ.length := by rw [T1.len]; exact (List.getElem?_eq_some_iff.1 q1).1
    obtain ⟨g', p1, p2⟩ := T1.root r ρ[r] rt (List.getElem?_eq_getElem hr) q1
    have := mt_ghs G ρ r ρ[r] g' (List.getElem?_eq_getElem hr) p1
    rw [q2] at this; cases this
    exact (p2.1 _).roMono (fun _ h => .inl h)
  have fin0 : ∀ {G3 S5 F5 h5 w' y ρ' hs5 Ft5}, Good E' G3 h5 w' S5 F5 → Tk E' st G3 w' S5 F5 (List.range' 0 hs.length ++ ρ') hs5 Ft5 → giveR y ρ hs5 h1 K →
      ∃ G7 F7 h7 μ, (ren3 μ y fun y => K y h7) ∧ Good E G7 h7 w' S5 F7 ∧ Ext E G w S G7 w' S5 ∧ Rn μ (ghs G3 (List.range' 0 hs.length ++ ρ')) G7 := by
    intro G3 S5 F5 h5 w' y ρ' hs5 Ft5 b T5 hgive
    have same : ∀ k, k < w.heap.size → (¬ ∃ j, Ft j k) → w'.heap[k]? = w.heap[k]? := fun k h1 h2 => b.fr k h1 h2
    have hsn : ∀ k, S5 k → S1 k ∨ (∃ j, Ft j k) ∨ w.heap.size ≤ k := b.sn
    have hF1 : ∀ r k, F1 r k → k < w.heap.size ∧ ¬ ∃ j, Ft j k := fun r k hk => ⟨(hg1.own r k hk).1, fun ⟨j, hj⟩ => (T1.ap j).2 r k hk hj⟩
    have hsz : w.heap.size ≤ w'.heap.size := b.size
    have hss : ∀ k, S1 k → w'.heap[k]? = w.heap[k]? := b.sf
    have hro : ∀ k, E.Ro k → w'.heap[k]? = w.heap[k]? := fun k hk => same k (hRo k (.inl hk)).1 (hRo k (.inl hk)).2
    have e1 : Ext E G w S1 G w' S5 := ⟨fun _ _ h => h, b.s0, hss, hro⟩
    have gc : Good E G h1 w' S5 F1 := by
      constructor
      · exact hg1.len
      · exact fun i rt g h1 h2 => (hg1.root i rt g h1 h2).ext e1 (fun k hk => same k (hF1 i k hk).1 (hF1 i k hk).2)
      · exact hg1.dis
      · exact hg1.out
      · intro r k hk
        have := hg1.own r k hk
        refine ⟨Nat.lt_of_lt_of_le this.1 hsz, this.2.1, fun hs => ?_⟩
        rcases hsn k hs with q | q | q
        · exact this.2.2 q
        · exact (hF1 r k hk).2 q
        · have := (hF1 r k hk).1; omega
      · exact b.sb
      · exact fun k hk => b.s0 k (hg1.s0 k hk)
      · intro k hk
        rcases hsn k hk with q | q | q
        · exact hg1.sn k q
        · exact .inr (hO k q).2.1
        · exact .inr (.inr (Nat.le_trans hg1.size q))
      · exact Nat.le_trans hg1.size hsz
      · exact b.os.trans hg1.os
      · exact b.tape.trans hg1.tape
      · exact b.output.trans hg1.output
      · intro k h1 h2
        refine (same k (Nat.lt_of_lt_of_le h1 hg1.size) (fun hj => ?_)).trans (hg1.fr k h1 h2)
        rcases (hO k hj).2.1 with q | q
        · exact h2 q
        · omega
      · exact hg1.rok
      · exact hg1.gp
      · exact fun k hk => (hss k (hg1.s0 k hk)).trans (hg1.sf k hk)
    have hP : Pend E w' S5 F1 hs5 (ghs G3 (List.range' 0 hs.length ++ ρ')) Ft5 := by
      refine ⟨fun j rt hj => ?_, T5.dis, fun j => ⟨fun k hk => ?_, fun r k hr hk => ?_⟩⟩
      · have hjl : j < (List.range' 0 hs.length ++ ρ').length := by rw [T5.len]; exact (List.getElem?_eq_some_iff.1 hj).1
        obtain ⟨g, q1, q2⟩ := T5.root j _ rt (List.getElem?_eq_getElem hjl) hj
        refine ⟨g, mt_ghs G3 _ j _ g (List.getElem?_eq_getElem hjl) q1, fun G2 => ?_⟩
        rcases hRs with rfl | hst
        · exact (q2.1 G2).roMono (fun k hk => hk.elim id fun ⟨r, hr, _⟩ => by cases hr)
        · exact q2.2 hst G2 _
      · have q := (T5.ap j).1 k hk
        refine ⟨q.1, ?_, q.2.2⟩
        rcases q.2.1 with q | q
        · exact (hO k q).2.1
        · exact .inr (Nat.le_trans hg1.size q)
      · rcases ((T5.ap j).1 k hk).2.1 with q | q
        · exact (hF1 r k hr).2 q
        · have := (hF1 r k hr).1
          have q : w.heap.size ≤ k := q
          omega
    have hgh : ∀ (j r : Nat) g, ρ[j]? = some r → (ghs G3 (List.range' 0 hs.length ++ ρ'))[j]? = some g → G[r]? = some g := by
      intro j r g hj hg'
      have hjl : j < hs.length := by rw [← T1.len]; exact (List.getElem?_eq_some_iff.1 hj).1
      obtain ⟨g0, q1, _⟩ := T1.root j r hs[j] hj (List.getElem?_eq_getElem hjl)
      have h3 : G3[j]? = some g0 := b.gp j g0 (mt_ghs G ρ j r g0 hj q1)
      have h4 := mt_ghs G3 (List.range' 0 hs.length ++ ρ') j j g0 (by rw [List.getElem?_append_left (by simpa using hjl), List.getElem?_range' hjl]; simp) h3
      rw [hg'] at h4
      cases h4
      exact q1
    unfold giveR at hgive
    obtain ⟨hs6, h6, F6, Ft6, a1, a2, a3, a4, a5⟩ := putB_spec ρ hs5 h1 _ gc hP hgh hgive
    obtain ⟨μ', h7, G7, F7, c1, c2, c3, c4, c5⟩ := newsK_spec hs6 ρ h6 _ G a4 a5 a1
    refine ⟨G7, F7, h7, ρ ++ μ', c1, c2, ⟨c3, fun k hk => b.s0 k (st1.s k hk), fun k hk => hss k (st1.s k hk), hro⟩, fun j g hj => ?_⟩
    by_cases hjm : j < ρ.length
    · refine ⟨ρ[j], by rw [List.getElem?_append_left hjm]; exact List.getElem?_eq_getElem hjm, c3 _ _ (hgh j _ g (List.getElem?_eq_getElem hjm) hj)⟩
    · have hjl : j < hs5.length := by
        have := (List.getElem?_eq_some_iff.1 hj).1
        simp only [ghs, List.length_map] at this
        rw [T5.len] at this; exact this
      have h6l : hs5.length = ρ.length + hs6.length := by
        have := congrArg List.length a2
        rw [List.length_append, List.length_take, Nat.min_eq_left a3] at this
        exact this
      obtain ⟨r, q1, q2⟩ := c5 (j - ρ.length) g (by omega) (by rw [List.getElem?_drop]; rwa [show ρ.length + (j - ρ.length) = j by omega])
      exact ⟨r, by rw [List.getElem?_append_right (by omega)]; exact q1, q2⟩
  refine awp_sound (E := E') (D := ([], (vs.toArray ++ Array.replicate (fn.ntmps - vs.toArray.size) undef).size)) (ctx_of hC _ _) hm (Nat.le_of_eq (by simp [E', ghs, T1.len])) c _ _ hs _ w _ hp ⟨ghs G ρ, S1, Ft, g0, tr_args (P := P) hl hv2 rfl, rfl, rfl⟩ ?_ (fun c a x v w h => by cases x <;> exact h) ?_
  · rintro v t' h' a' w' hk ⟨G3, S3, F3, hg3, ht3, hd3⟩
    obtain ⟨hs4, h4, S4, F4, Ft4, q1, q2, q3⟩ := takeN_spec (st := st) hs.length nums [] (fun j i hj => by simpa using nums_get j i hj) hg3 Tk.nil hk
    obtain ⟨G7, F7, h7, μ, r1, r2, r3, r4⟩ := fin0 (ρ' := []) q2.good (by simpa using q3) q1
    exact ⟨hd3.1, _, h7, G7, S4, F7, r1, r2, r3, .inr ⟨v, rfl, rfl⟩⟩
  · intro e t' h' a' w' hk ⟨G3, S3, F3, hg3, ht3, hd3⟩
    have fin : (resL C t' fn.results.toList h' fun l h_1 => oneK l fun x => canRet st hs.length x h_1 fun y hs => giveR y ρ hs h1 K) → ∃ v, (results fn a'.tmps).run P w' = .ok v w' ∧ ∃ x h' G' S' F', K x h' ∧ Good E G' h' w' S' F' ∧ Ext E G w S G' w' S' ∧ ((∃ v', Ending.returned v = .returned v' ∧ VR G' w' E.Ro S' x v') ∨ ∃ v', Ending.returned v = .panicked [{ v := v', recovered := false }] ∧ x = .pan v') := by
      intro hk
      obtain ⟨x, h2, G2, F2, v, b1, b2, b3, b4, b5⟩ := results_spec (K := fun x h_1 => canRet st hs.length x h_1 fun y hs => giveR y ρ hs h1 K) hC rfl hg3 ht3 hk
      obtain ⟨hs4, h4, S4, F4, Ft4, q1, q2, q3⟩ := takeN_spec (st := st) hs.length nums [] (fun j i hj => by simpa using nums_get j i hj) b2 Tk.nil b1
      obtain ⟨y, ρ', hs5, h5, S5, F5, Ft5, c1, c2, c3, c4⟩ := can3 (st := st) q2.good q3 (b5.ext q2.ext) q1
      rw [List.nil_append, List.length_nil] at c3 c4
      obtain ⟨d1, d2⟩ := c4 _ (mt_ghs G2 _)
      obtain ⟨G7, F7, h7, μ, r1, r2, r3, r4⟩ := fin0 c2.good c3 c1
      have hvy : VR (ghs G2 (List.range' 0 hs.length ++ ρ')) w' E.Ro S5 y v := by
        rcases hRs with rfl | hst
        · exact d1.ro (fun k hk => hk.elim id fun ⟨r, hr, _⟩ => by cases hr)
        · exact d2 hst _
      obtain ⟨z, e1, e2⟩ := ren3_spec r4 hvy r1
      exact ⟨v, b4, z, h7, G7, S5, F7, e1, r2, r3, .inl ⟨v, rfl, e2⟩⟩
    cases e <;> simp only [retP] at hk
    · obtain ⟨v, q1, q2⟩ := fin hk
      exact ⟨hd3.1, v, q1, q2⟩
    all_goals first
      | exact hk.elim
      | (obtain ⟨v, q1, q2⟩ := fin hk; exact ⟨hd3.1, v, q1, q2⟩)

end Go.Proofs.YtbfjkjdbdejnmaaGreat.Ab

/- A law's arguments, as they are read, are known values; and a sound handler that gives true gives the law. No condition. -/
namespace Go.Proofs.YtbfjkjdbdejnmaaGreat.Ab
open Go.RowKit
set_option linter.unusedVariables false
set_option linter.unusedSimpArgs false

/-! ### The types' table -/

def findT {α : Type} : List (Nat × α) → Nat → Option α
  | [], _ => none
  | (n, a) :: l, m => match Nat.beq n m with | true => some a | false => findT l m
theorem findT_mem {α : Type} {l : List (Nat × α)} {m : Nat} {a : α} (h : findT l m = some a) : (m, a) ∈ l := by
  induction l with
  | nil => simp [findT] at h
  | cons p l ih =>
    obtain ⟨n, b⟩ := p
    simp only [findT] at h
    split at h
    · rename_i hn
      have hn := Nat.eq_of_beq_eq_true hn
      subst hn
      cases h
      exact List.mem_cons_self
    · exact List.mem_cons_of_mem _ (ih h)

def sizeB (P : Program) (e : TypeId) (n : Nat) : Bool := match P.info? e with | some i => i.size == n | none => false
def kindB (P : Program) : TypeDesc → TK → Bool
  | .int k, .int k' => decide (k = k')
  | .slice e, .slice e' es => e == e' && sizeB P e es
  | .struct fs, .struct fs' => fs.size == fs'.length && (fs.toList.zip fs').all fun p => p.1.offset == p.2.1 && sizeB P p.1.type p.2.2
  | .array n e, .array n' es => n == n' && sizeB P e es
  | .bool, .bool => true
  | .string, .str => true
  | .map k e, .map k' e' => k == k' && e == e'
  | _, .ptr => true
  | _, .func => true
  | _, .other => true
  | _, _ => false
def zeroB : AV → Value → Bool
  | .v (.int k n), .int k' n' => decide (k = k') && decide (n = n')
  | .v (.bool b), .bool b' => b == b'
  | .v (.string s), .string s' => decide (s = s')
  | .v (.pointer none), .pointer none => true
  | .v (.map none), .map none => true
  | .v .nilFunc, .nilFunc => true
  | .v .nilIface, .nilIface => true
  | .sl _ [], .slice none 0 0 => true
  | _, _ => false
def zerosB : List AV → List Value → Bool
  | [], [] => true
  | x :: l, v :: r => zeroB x v && zerosB l r
  | _, _ => false
def rowB (P : Program) (ty : TypeId) (i : TI) : Bool :=
  match P.info? ty, P.underlying ty with
  | some info, some d => info.size == i.size && info.bytes == i.bytes && (i.agg == descAgg d) && kindB P d i.kind && decide (0 < i.size) && i.zero.length == i.size &&
    match info.zero with | some z => zerosB i.zero z.cells.toList | none => false
  | _, _ => false
def tabB (P : Program) (l : List (Nat × TI)) : Bool := l.all fun p => rowB P p.1 p.2 && (p.2.eqs.isEmpty || eqB P p.1 p.2.eqs) && zeroOk P p.1 p.2.agg

theorem sizeB_spec {P : Program} {e n} (h : sizeB P e n = true) : ∃ i, P.info? e = some i ∧ i.size = n := by
  unfold sizeB at h
  split at h
  · rename_i i hi
    exact ⟨i, hi, by simpa using h⟩
  · cases h
theorem kindB_spec {P : Program} {d k} (h : kindB P d k = true) : KindOk P d k := by
  unfold kindB at h
  split at h
  · simpa [KindOk] using h
  · simp only [Bool.and_eq_true, beq_iff_eq] at h
    exact ⟨h.1, sizeB_spec h.2⟩
  · rename_i fs fs'
    simp only [Bool.and_eq_true, beq_iff_eq, List.all_eq_true] at h
    refine ⟨h.1, fun n f hf => ?_⟩
    have hn : n < fs.size := (Array.getElem?_eq_some_iff.1 hf).1
    have hn' : n < fs'.length := by omega
    have := h.2 (f, fs'[n]) (List.mem_iff_getElem?.2 ⟨n, by rw [List.getElem?_zip_eq_some]; exact ⟨by simpa using hf, List.getElem?_eq_getElem hn'⟩⟩)
    obtain ⟨i, h1, h2⟩ := sizeB_spec this.2
    refine ⟨i, h1, ?_⟩
    rw [List.getElem?_eq_getElem hn']
    exact congrArg some (Prod.ext this.1.symm h2.symm)
  · simp only [Bool.and_eq_true, beq_iff_eq] at h
    exact ⟨h.1, sizeB_spec h.2⟩
  all_goals first | trivial | (simp only [Bool.and_eq_true, beq_iff_eq] at h; exact h) | (cases d <;> trivial) | cases h
theorem zeroB_spec {x : AV} {v : Value} (h : zeroB x v = true) : Z0 x v := by
  unfold zeroB at h
  split at h
  · simp only [Bool.and_eq_true, decide_eq_true_eq] at h
    exact .inl ⟨_, rfl, by rw [h.1, h.2], rfl⟩
  · exact .inl ⟨_, rfl, by rw [beq_iff_eq.1 h], rfl⟩
  · exact .inl ⟨_, rfl, by rw [of_decide_eq_true h], rfl⟩
  · exact .inl ⟨_, rfl, rfl, rfl⟩
  · exact .inl ⟨_, rfl, rfl, rfl⟩
  · exact .inl ⟨_, rfl, rfl, rfl⟩
  · exact .inl ⟨_, rfl, rfl, rfl⟩
  · exact .inr ⟨_, rfl, rfl⟩
  · cases h
theorem zerosB_spec : ∀ {l : List AV} {r : List Value}, zerosB l r = true → l.length = r.length ∧ ∀ (j : Nat) x, l[j]? = some x → Z0 x (r.getD j undef)
  | [], [], _ => ⟨rfl, by simp⟩
  | x :: l, v :: r, h => by
    simp only [zerosB, Bool.and_eq_true] at h
    obtain ⟨h1, h2⟩ := zerosB_spec h.2
    refine ⟨by simp [h1], fun j y hj => ?_⟩
    cases j with
    | zero => simp at hj; subst hj; simpa using zeroB_spec h.1
    | succ j => simpa using h2 j y (by simpa using hj)
  | [], _ :: _, h => by simp [zerosB] at h
  | _ :: _, [], h => by simp [zerosB] at h
theorem rowB_spec {P : Program} {ty i} (h : rowB P ty i = true) : TIok P ty i := by
  unfold rowB at h
  split at h
  · rename_i info d h1 h2
    simp only [Bool.and_eq_true, beq_iff_eq, decide_eq_true_eq] at h
    obtain ⟨⟨⟨⟨⟨⟨a1, a2⟩, a3⟩, a4⟩, a5⟩, a6⟩, a7⟩ := h
    split at a7
    · rename_i z hz
      obtain ⟨b1, b2⟩ := zerosB_spec a7
      refine ⟨info, d, z, h1, a1, a2, h2, a3, kindB_spec a4, hz, by rw [← a6, b1]; simp, a6, fun j x hj => ?_, a5⟩
      have := b2 j x hj
      simpa [Array.getD_eq_getD_getElem?, List.getD_eq_getElem?_getD] using this
    · cases a7
  · cases h
theorem tabB_spec {P : Program} {l : List (Nat × TI)} (h : tabB P l = true) : ∀ ty i, findT l ty = some i → TIok P ty i ∧ (i.eqs ≠ [] → eqB P ty i.eqs = true) ∧ zeroOk P ty i.agg = true := by
  intro ty i hi
  have := List.all_eq_true.1 h _ (findT_mem hi)
  simp only [Bool.and_eq_true, Bool.or_eq_true, List.isEmpty_iff] at this
  exact ⟨rowB_spec this.1.1, fun hne => this.1.2.resolve_left hne, this.2⟩

theorem ctxOk {P : Program} {tab : List (Nat × TI)} (ht : tabB P tab = true) {l : List (Nat × Handler)} (hl : ∀ p ∈ l, HSound P p.1 p.2 ∧ FnOk P p.1) : CtxOk P ⟨findT tab, findT l, 0, fun _ _ => False, false⟩ :=
  ⟨fun ty i h => (tabB_spec ht ty i h).1, fun ty i h => (tabB_spec ht ty i h).2.1, fun ty i h => (tabB_spec ht ty i h).2.2, fun f H h => hl _ (findT_mem h)⟩

theorem inlF {P : Program} {C : Ctx} (hC : CtxOk P C) (hm : P.follows .mixedOrders = true) {f : FuncId} {fn : Func} (hf : P.funcs[f]? = some fn) (hb : fn.body.isSome = true) : HSound P f (inlH C fn.ntmps fn.results.toList (fn.body.getD .skip)) :=
  inlH_sound hC hm hf (by cases h : fn.body with | none => simp [h] at hb | some c => rfl) rfl rfl
theorem fnOk {P : Program} {f : FuncId} {fn : Func} (hf : P.funcs[f]? = some fn) (hn : (fn.name == "runtime.NumGoroutine") = false) (hb : fn.body.isSome = true) : FnOk P f := ⟨fn, hf, hn, hb⟩

/-! ### What an argument's type says of it -/

def ShS (R : TypeId → List AV → Prop) : List TypeId → List AV → Prop
  | [], l => l = []
  | t :: ts, l => ∃ a b, l = a ++ b ∧ R t a ∧ ShS R ts b
def Sh (P : Program) : Nat → TypeId → List AV → Prop
  | 0, _, _ => False
  | n + 1, t, l => match P.underlying t with
    | some .bool => ∃ b, l = [.v (.bool b)]
    | some (.int k) => ∃ m, l = [.v (.int k m)] ∧ (Lit.int k m).wf = true
    | some .string => ∃ s, l = [.v (.string s)] ∧ s.size ≤ maxLen
    | some (.slice e) => ∃ ll, l = [.sl (P.cellsOf e) ll] ∧ (∀ el ∈ ll, Sh P n e el) ∧ ll.length * P.bytesOf e ≤ reachBytes ∧ ll.length ≤ maxLen
    | some (.struct fs) => ShS (Sh P n) (fs.toList.map (·.type)) l
    | some (.array k e) => ShS (Sh P n) (List.replicate k e) l
    | _ => False
def contig (P : Program) (tot : Nat) : Nat → List Field → Bool
  | off, [] => off == tot
  | off, f :: fs => f.offset == off && contig P tot (off + P.cellsOf f.type) fs
def plain (P : Program) : Nat → TypeId → Bool
  | 0, _ => false
  | n + 1, t => match P.underlying t with
    | some .bool => true
    | some (.int _) => true
    | some .string => true
    | some (.slice e) => decide (0 < P.cellsOf e) && plain P n e
    | some (.struct fs) => (fs.toList.all fun f => plain P n f.type) && contig P (P.cellsOf t) 0 fs.toList
    | some (.array k e) => plain P n e && P.cellsOf t == k * P.cellsOf e
    | _ => false

theorem choose_list {α : Type} {Q : Nat → α → Prop} : ∀ (n : Nat), (∀ i, i < n → ∃ a, Q i a) → ∃ L : List α, L.length = n ∧ ∀ (i : Nat) a, L[i]? = some a → Q i a
  | 0, _ => ⟨[], rfl, by simp⟩
  | n + 1, h => by
    obtain ⟨L, h1, h2⟩ := choose_list n (fun i hi => h i (by omega))
    obtain ⟨a, ha⟩ := h n (by omega)
    refine ⟨L ++ [a], by simp [h1], fun i b hb => ?_⟩
    rw [List.getElem?_append] at hb
    split at hb
    · exact h2 i b hb
    · rename_i hi
      have : i - L.length = 0 := by
        have := (List.getElem?_eq_some_iff.1 hb).1
        simp at this; omega
      rw [this] at hb
      simp at hb
      subst hb
      rwa [show i = n by omega]

section
variable {H : Type} {enc : TypeId × Value → H} {P : Program} {W : World} {S : BS}

/-- The cells of a value, known. -/
def CellsI (W : World) (S : BS) (l : List AV) (cs : List Value) : Prop := l.length = cs.length ∧ ∀ (j : Nat) a, l[j]? = some a → IR W (fun k => k < W.heap.size) S false a (cs.getD j undef)

theorem cellsI_one {a : AV} {v : Value} (h : IR W (fun k => k < W.heap.size) S false a v) : CellsI W S [a] [v] :=
  ⟨rfl, fun j b hj => by cases j with | zero => simp at hj; subst hj; simpa using h | succ j => simp at hj⟩
theorem cellsI_append {a b : List AV} {c d : List Value} (h1 : CellsI W S a c) (h2 : CellsI W S b d) : CellsI W S (a ++ b) (c ++ d) := by
  refine ⟨by simp [h1.1, h2.1], fun j x hj => ?_⟩
  rw [List.getElem?_append] at hj
  rw [List.getD_eq_getElem?_getD, List.getElem?_append]
  split at hj
  · rename_i hlt
    rw [if_pos (by rw [← h1.1]; exact hlt)]
    have := h1.2 j x hj
    rwa [List.getD_eq_getElem?_getD] at this
  · rename_i hlt
    rw [if_neg (by rw [← h1.1]; exact hlt), ← h1.1]
    have := h2.2 _ x hj
    rwa [List.getD_eq_getElem?_getD] at this

theorem weightsAll_mem {t : TypeId} {b : Nat} : ∀ {l : List (DataW H)}, (DataW.weightsAll P t l).all (· ≤ b) = true → ∀ (i : Nat) d, l[i]? = some d → (d.weights P t).all (· ≤ b) = true
  | [], _, i, d, hd => by simp at hd
  | x :: l, h, i, d, hd => by
    simp only [DataW.weightsAll, List.all_append, Bool.and_eq_true] at h
    cases i with
    | zero => simp at hd; subst hd; exact h.1
    | succ i => exact weightsAll_mem h.2 i d (by simpa using hd)

theorem open_fields {n : Nat} (ih : ∀ t cs fuel (x : DataW H × List MemPlace), plain P n t = true → DataW.trod enc P W 0 (fun _ => true) true fuel t cs = some x → (x.1.weights P t).all (· ≤ reachBytes) = true → ∃ l, Sh P n t l ∧ CellsI W S l cs)
    {tot m : Nat} {cs : List Value} : ∀ (fs : List Field) (off : Nat) (xs : List (DataW H × List MemPlace)), (fs.all fun f => plain P n f.type) = true → contig P tot off fs = true → cs.length = tot → off ≤ tot → xs.length = fs.length →
      (∀ (i : Nat) (f : Field), fs[i]? = some f → DataW.trod enc P W 0 (fun _ => true) true m f.type ((cs.drop f.offset).take (P.cellsOf f.type)) = xs[i]?) →
      (DataW.weightsEach P (fs.map (·.type)) (xs.map (·.1))).all (· ≤ reachBytes) = true → ∃ l, ShS (Sh P n) (fs.map (·.type)) l ∧ CellsI W S l (cs.drop off)
  | [], off, xs, h1, h2, h3, h3', h4, h5, h6 => by
    simp only [contig, beq_iff_eq] at h2
    refine ⟨[], rfl, ?_⟩
    rw [List.drop_eq_nil_of_le (by omega)]
    exact ⟨rfl, by simp⟩
  | f :: fs, off, xs, h1, h2, h3, h3', h4, h5, h6 => by
    cases xs with
    | nil => simp at h4
    | cons x xs =>
      simp only [List.all_cons, Bool.and_eq_true] at h1
      simp only [contig, Bool.and_eq_true, beq_iff_eq] at h2
      simp only [List.map_cons, DataW.weightsEach, List.all_append, Bool.and_eq_true] at h6
      have hx := h5 0 f rfl
      simp only [List.getElem?_cons_zero] at hx
      obtain ⟨l1, a1, a2⟩ := ih _ _ _ _ h1.1 hx h6.1
      have hle : ∀ (fs : List Field) (off : Nat), contig P tot off fs = true → off ≤ tot := by
        intro fs
        induction fs with
        | nil => intro off h; simp only [contig, beq_iff_eq] at h; omega
        | cons g gs ihg => intro off h; simp only [contig, Bool.and_eq_true] at h; have := ihg _ h.2; omega
      obtain ⟨l2, b1, b2⟩ := open_fields ih fs (off + P.cellsOf f.type) xs h1.2 h2.2 h3 (hle _ _ h2.2) (by simpa using h4) (fun i g hg => by simpa using h5 (i + 1) g (by simpa using hg)) h6.2
      refine ⟨l1 ++ l2, ⟨l1, l2, rfl, a1, b1⟩, ?_⟩
      rw [h2.1] at a2
      have : cs.drop off = (cs.drop off).take (P.cellsOf f.type) ++ cs.drop (off + P.cellsOf f.type) := by
        rw [← List.drop_drop, List.take_append_drop]
      rw [this]
      exact cellsI_append a2 b2

theorem open_elems {n : Nat} (ih : ∀ t cs fuel (x : DataW H × List MemPlace), plain P n t = true → DataW.trod enc P W 0 (fun _ => true) true fuel t cs = some x → (x.1.weights P t).all (· ≤ reachBytes) = true → ∃ l, Sh P n t l ∧ CellsI W S l cs)
    {m k : Nat} {e : TypeId} {cs : List Value} (he : plain P n e = true) (hcs : cs.length = k * P.cellsOf e) : ∀ (r i : Nat) (xs : List (DataW H × List MemPlace)), r + i = k → xs.length = r →
      (∀ (j : Nat), j < r → DataW.trod enc P W 0 (fun _ => true) true m e ((cs.drop ((i + j) * P.cellsOf e)).take (P.cellsOf e)) = xs[j]?) →
      (DataW.weightsAll P e (xs.map (·.1))).all (· ≤ reachBytes) = true → ∃ l, ShS (Sh P n) (List.replicate r e) l ∧ CellsI W S l (cs.drop (i * P.cellsOf e))
  | 0, i, xs, h1, h2, h3, h4 => by
    refine ⟨[], rfl, ?_⟩
    rw [List.drop_eq_nil_of_le (by rw [hcs, show i = k by omega]; exact Nat.le_refl _)]
    exact ⟨rfl, by simp⟩
  | r + 1, i, xs, h1, h2, h3, h4 => by
    cases xs with
    | nil => simp at h2
    | cons x xs =>
      simp only [List.map_cons, DataW.weightsAll, List.all_append, Bool.and_eq_true] at h4
      have hx := h3 0 (by omega)
      simp only [List.getElem?_cons_zero, Nat.add_zero] at hx
      obtain ⟨l1, a1, a2⟩ := ih _ _ _ _ he hx h4.1
      obtain ⟨l2, b1, b2⟩ := open_elems ih he hcs r (i + 1) xs (by omega) (by simpa using h2) (fun j hj => by
        have := h3 (j + 1) (by omega)
        rwa [List.getElem?_cons_succ, show i + (j + 1) = i + 1 + j by omega] at this) h4.2
      refine ⟨l1 ++ l2, ⟨l1, l2, rfl, a1, b1⟩, ?_⟩
      have : cs.drop (i * P.cellsOf e) = (cs.drop (i * P.cellsOf e)).take (P.cellsOf e) ++ cs.drop ((i + 1) * P.cellsOf e) := by
        rw [Nat.succ_mul, ← List.drop_drop, List.take_append_drop]
      rw [this]
      exact cellsI_append a2 b2

theorem open_sh : ∀ (n : Nat) (t : TypeId) (cs : List Value) (fuel : Nat) (x : DataW H × List MemPlace), plain P n t = true → DataW.trod enc P W 0 (fun _ => true) true fuel t cs = some x → (x.1.weights P t).all (· ≤ reachBytes) = true →
    ∃ l, Sh P n t l ∧ CellsI W S l cs
  | 0, t, cs, fuel, x, hp, _, _ => by simp [plain] at hp
  | n + 1, t, cs, fuel, x, hp, ht, hw => by
    simp only [plain] at hp
    simp only [Sh]
    split at hp
    · rename_i hu
      obtain ⟨b, rfl, _⟩ := DataW.trod_bool hu ht
      try simp only [hu]
      exact ⟨_, ⟨b, rfl⟩, cellsI_one (.v _ _ rfl)⟩
    · rename_i k hu
      obtain ⟨m, rfl, _, hwf⟩ := DataW.trod_int hu ht
      try simp only [hu]
      exact ⟨_, ⟨m, rfl, hwf⟩, cellsI_one (.v _ _ rfl)⟩
    · rename_i hu
      obtain ⟨s, rfl, _, hs⟩ := DataW.trod_string hu ht
      try simp only [hu]
      exact ⟨_, ⟨s, rfl, hs⟩, cellsI_one (.v _ _ rfl)⟩
    · rename_i e hu
      simp only [Bool.and_eq_true, decide_eq_true_eq] at hp
      obtain ⟨hsz, hpe⟩ := hp
      try simp only [hu]
      rcases DataW.trod_slice hu ht with ⟨rfl, rfl⟩ | ⟨a, len, cap, elems, rest, m, rfl, rfl, rfl, hb, hlc, hcm, hel, hget, _⟩
      · exact ⟨_, ⟨[], rfl, by simp, by simp, by simp⟩, cellsI_one (.sl0 _ _ _ _)⟩
      · have hw2 : ((DataW.slice (elems.map (·.1)) (rest.map (·.1))).weights P t).all (· ≤ reachBytes) = true := hw
        simp only [DataW.weights, hu, List.all_cons, List.all_append, Bool.and_eq_true, decide_eq_true_eq, List.length_map] at hw2
        obtain ⟨hw1, hw2, _⟩ := hw2
        have each : ∀ i, i < len → ∃ el : List AV, Sh P n e el ∧ el.length = P.cellsOf e ∧ ∀ j y, el[j]? = some y → ∃ v, W.cell? ((a.add (i * P.cellsOf e)).add j) = some v ∧ IR W (fun k => k < W.heap.size) S false y v := by
          intro i hi
          have h1 := hget i hi
          have h2 : elems[i]? = some elems[i] := List.getElem?_eq_getElem (by omega)
          rw [h2] at h1
          obtain ⟨c1, hc1, ht1⟩ := Option.bind_eq_some_iff.1 h1
          obtain ⟨_, hcl, hcc⟩ := World.cells?_some hc1
          obtain ⟨l, s1, s2, s3⟩ := open_sh n e c1 m elems[i] hpe ht1 (weightsAll_mem hw2 i _ (by rw [List.getElem?_map, h2]; rfl))
          refine ⟨l, s1, by rw [s2, hcl], fun j y hj => ?_⟩
          have hjl : j < c1.length := by rw [← s2]; exact (List.getElem?_eq_some_iff.1 hj).1
          refine ⟨c1[j], by rw [hcc j (by omega), List.getElem?_eq_getElem hjl], ?_⟩
          have := s3 j y hj
          rwa [List.getD_eq_getElem?_getD, List.getElem?_eq_getElem hjl] at this
        obtain ⟨ll, hl1, hl2⟩ := choose_list len each
        have hlen : ∀ el ∈ ll, el.length = P.cellsOf e := fun el he => by
          obtain ⟨i, hi⟩ := List.mem_iff_getElem?.1 he
          exact (hl2 i el hi).2.1
        refine ⟨_, ⟨ll, rfl, fun el he => ?_, ?_, by omega⟩, cellsI_one ?_⟩
        · obtain ⟨i, hi⟩ := List.mem_iff_getElem?.1 he
          exact (hl2 i el hi).1
        · refine Nat.le_trans (Nat.mul_le_mul_right _ ?_) hw1
          omega
        · cases hll : ll with
          | nil =>
            have : len = 0 := by rw [← hl1, hll]; rfl
            subst this
            exact .sl0 _ _ _ _
          | cons l0 ls =>
            rw [← hll]
            rw [← hl1]
            have hl0 : ll[0]? = some l0 := by rw [hll]; rfl
            have hl0len : 0 < l0.length := by rw [hlen l0 (List.mem_of_getElem? hl0)]; exact hsz
            obtain ⟨v0, hv0, _⟩ := (hl2 0 l0 hl0).2.2 0 l0[0] (List.getElem?_eq_getElem hl0len)
            obtain ⟨b, off, spot⟩ := a
            have hadd : ∀ q, (Addr.mk b off spot).add q = ⟨b, off + q, if q = 0 then spot else none⟩ := by
              intro q
              unfold Addr.add
              split
              · subst_vars; rfl
              · rename_i hq; simp [hq]
            simp only [Nat.zero_mul, hadd, if_true] at hv0
            simp only [World.cell?, Addr.add, if_true, Nat.add_zero] at hv0
            split at hv0
            · rename_i cs T fz hblk
              split at hv0
              · cases hv0
              · rename_i hspot
                have hspot : spot = none := by cases spot <;> simp_all
                subst hspot
                have hcell : ∀ q v, W.cell? ⟨b, off + q, none⟩ = some v → cs[off + q]? = some v := by
                  intro q v hq
                  simpa [World.cell?, hblk] using hq
                have hflat : ∀ j, j < ll.flatten.length → ∃ y v, ll.flatten[j]? = some y ∧ cs[off + j]? = some v ∧ IR W (fun k => k < W.heap.size) S false y v := by
                  intro j hj
                  rw [flat_length _ _ hlen] at hj
                  have hdiv : j / P.cellsOf e < ll.length := by rw [Nat.div_lt_iff_lt_mul hsz]; exact hj
                  have hmod := Nat.mod_lt j hsz
                  have hel := List.getElem?_eq_getElem hdiv
                  have h1 := flat_get _ _ hlen _ _ hel _ hmod
                  rw [Nat.div_add_mod'] at h1
                  have hlen1 := hlen _ (List.mem_of_getElem? hel)
                  have hy := List.getElem?_eq_getElem (show j % P.cellsOf e < ll[j / P.cellsOf e].length by omega)
                  obtain ⟨v, hv1, hv2⟩ := (hl2 _ _ hel).2.2 _ _ hy
                  refine ⟨_, v, h1.trans hy, hcell j v ?_, hv2⟩
                  rw [add_off, add_off, Nat.add_assoc, Nat.div_add_mod'] at hv1
                  exact hv1
                refine .sl _ _ ll b off cap cs T fz (fun j => (cs[off + j]?).getD undef) (.inl ?_) hblk hlen (by omega) (fun j hj => ?_) (fun j y hj => ?_)
                · exact (Array.getElem?_eq_some_iff.1 hblk).1
                · obtain ⟨y, v, _, h2, _⟩ := hflat j hj
                  simp only [h2, Option.getD_some]
                · obtain ⟨y', v, h1, h2, h3⟩ := hflat j (List.getElem?_eq_some_iff.1 hj).1
                  rw [hj] at h1
                  cases h1
                  simpa only [h2, Option.getD_some] using h3
            · cases hv0
    · rename_i fs hu
      simp only [Bool.and_eq_true] at hp
      obtain ⟨xs, m, rfl, rfl, hl, hxl, hget⟩ := DataW.trod_struct hu ht
      try simp only [hu]
      have hw2 : ((DataW.agg (xs.map (·.1))).weights P t).all (· ≤ reachBytes) = true := hw
      simp only [DataW.weights, hu] at hw2
      have := open_fields (P := P) (W := W) (S := S) (enc := enc) (n := n) (fun t cs fuel x => open_sh n t cs fuel x) fs.toList 0 xs hp.1 hp.2 hl (Nat.zero_le _) (by simpa using hxl) (fun i f hf => hget i f (by simpa using hf)) hw2
      simpa using this
    · rename_i k e hu
      simp only [Bool.and_eq_true, beq_iff_eq] at hp
      obtain ⟨xs, m, rfl, rfl, hl, hxl, hget⟩ := DataW.trod_array hu ht
      try simp only [hu]
      have hw2 : ((DataW.agg (xs.map (·.1))).weights P t).all (· ≤ reachBytes) = true := hw
      simp only [DataW.weights, hu] at hw2
      have := open_elems (P := P) (W := W) (S := S) (enc := enc) (n := n) (fun t cs fuel x => open_sh n t cs fuel x) (m := m) (k := k) hp.1 (by rw [hl, hp.2]) k 0 xs rfl hxl (fun j hj => by simpa using hget j hj) hw2
      simpa using this
    · cases hp

/-! ### Arguments -/

def ArgOf (P : Program) (t : TypeId) (l : List AV) (x : AV) : Prop := match P.underlying t with
  | some (.struct _) => x = .agg (l.map (immF false))
  | some (.array _ _) => x = .agg (l.map (immF false))
  | _ => ∃ a, l = [a] ∧ x = immF false a
def ArgsOf (P : Program) (n : Nat) : List TypeId → List AV → Prop
  | [], l => l = []
  | t :: ts, l => ∃ x xs c, l = x :: xs ∧ Sh P n t c ∧ ArgOf P t c x ∧ ArgsOf P n ts xs

theorem vr_imm {a : AV} {v : Value} (h : IR W (fun k => k < W.heap.size) S false a v) : VR [] W (fun k => k < W.heap.size) S (immF false a) v := by
  cases a with
  | sl s l =>
    cases h with
    | sl0 _ _ a c => exact .ir _ _ rfl (.imm _ _ _ _ _ a 0 c (by simp) (.sl0 _ _ a c) (by simp))
    | sl _ _ _ b' off' c cs' T' fz' cv' q1 q2 q3 q0 q4 q5 => exact .ir _ _ rfl (.imm _ _ _ _ _ _ _ c (by simp) (.sl _ _ _ b' off' c cs' T' fz' cv' q1 q2 q3 q0 q4 q5) (by simp))
  | _ => exact .ir _ _ rfl h

theorem open_arg {n : Nat} {t : TypeId} {v : Value} {d : DataW H} {p : List MemPlace} (hp : plain P n t = true) (ht : DataW.Trod enc P W 0 (fun _ => true) true t v d p) (hw : (d.weights P t).all (· ≤ reachBytes) = true) {base : Nat}
    (hv : Value.okWide P W .any base t v) : ∃ c x, Sh P n t c ∧ ArgOf P t c x ∧ VR [] W (fun k => k < W.heap.size) S x v := by
  obtain ⟨fuel, ht⟩ := ht
  obtain ⟨l, h1, h2, h3⟩ := open_sh (S := S) n t _ fuel _ hp ht hw
  have hagg : ∀ cs : Array Value, v = .agg cs → VR [] W (fun k => k < W.heap.size) S (.agg (l.map (immF false))) v := by
    rintro cs rfl
    have h2 : l.length = cs.size := by simpa [Value.cells] using h2
    have := VR.agg (G := []) (w := W) (Ro := fun k => k < W.heap.size) (S := S) (l.map (immF false)) cs.toList (by simpa using h2) (fun u hu => by
      obtain ⟨j, hj, rfl⟩ := List.mem_iff_getElem.1 hu
      have hjl : j < l.length := by simp at hj; omega
      have := (h3 j l[j] (List.getElem?_eq_getElem hjl)).one
      simpa [Value.cells, List.getD_eq_getElem?_getD, show j < cs.size by simpa using hj] using this) (fun j x hj => by
      rw [List.getElem?_map] at hj
      cases hl : l[j]? with
      | none => simp [hl] at hj
      | some a =>
        simp [hl] at hj
        subst hj
        exact vr_imm (by simpa [Value.cells] using h3 j a hl))
    simpa using this
  have hone : v.cells = #[v] → (match P.underlying t with | some (.struct _) => False | some (.array _ _) => False | _ => True) → ∃ c x, Sh P n t c ∧ ArgOf P t c x ∧ VR [] W (fun k => k < W.heap.size) S x v := by
    intro hc hm
    rw [hc] at h2 h3
    cases l with
    | nil => simp at h2
    | cons a l =>
      cases l with
      | cons _ _ => simp at h2
      | nil =>
        refine ⟨[a], immF false a, h1, ?_, vr_imm (by simpa using h3 0 a rfl)⟩
        unfold ArgOf
        split
        · rename_i hu; rw [hu] at hm; exact hm.elim
        · rename_i hu; rw [hu] at hm; exact hm.elim
        · exact ⟨a, rfl, rfl⟩
  unfold Value.okWide at hv
  split at hv
  · rename_i fs hu
    obtain ⟨cs, rfl, _⟩ := hv
    exact ⟨l, _, h1, by simp only [ArgOf, hu], hagg cs rfl⟩
  · rename_i k e hu
    obtain ⟨cs, rfl, _⟩ := hv
    exact ⟨l, _, h1, by simp only [ArgOf, hu], hagg cs rfl⟩
  · rename_i hu1 hu2
    refine hone ?_ ?_
    · cases v with
      | agg cs =>
        unfold Cell.okWide at hv
        split at hv <;> first | (rename_i heq; cases heq) | skip
        unfold Cell.ok at hv
        split at hv <;> first | (rename_i heq; cases heq) | exact hv.elim
      | _ => rfl
    · split
      · rename_i fs hu; exact hu1 fs hu
      · rename_i k e hu; exact hu2 k e hu
      · trivial

theorem open_args {n : Nat} {base : Nat} : ∀ {ts : List TypeId} {vs : List Value} {ds : List (DataW H)} {ps : List MemPlace} {rest : List TypeId} {gs : List (DataW H)}, (ts.all (plain P n)) = true → DataW.TrodAll enc P W 0 (fun _ => true) true ts vs ds ps →
    (DataW.weightsEach P (ts ++ rest) (ds ++ gs)).all (· ≤ reachBytes) = true → (∀ (j : Nat) t v, ts[j]? = some t → vs[j]? = some v → Value.okWide P W .any base t v) →
    ∃ xs, ArgsOf P n ts xs ∧ xs.length = vs.length ∧ ∀ (j : Nat) x, xs[j]? = some x → VR [] W (fun k => k < W.heap.size) S x (vs.getD j undef)
  | [], vs, ds, ps, rest, gs, hp, ht, hw, hv => by
    obtain ⟨rfl, rfl, rfl⟩ := Go.ChangeShapes.trodAll_nil ht
    exact ⟨[], rfl, rfl, by simp⟩
  | t :: ts, vs, ds, ps, rest, gs, hp, ht, hw, hv => by
    obtain ⟨v, vs, d, ds, p, q, rfl, rfl, rfl, h1, h2⟩ := Go.ChangeShapes.trodAll_cons ht
    simp only [List.all_cons, Bool.and_eq_true] at hp
    simp only [List.cons_append, DataW.weightsEach, List.all_append, Bool.and_eq_true] at hw
    obtain ⟨c, x, a1, a2, a3⟩ := open_arg (S := S) hp.1 h1 hw.1 (hv 0 t v rfl rfl)
    obtain ⟨xs, b1, b2, b3⟩ := open_args hp.2 h2 hw.2 (fun j t v h1 h2 => hv (j + 1) t v (by simpa using h1) (by simpa using h2))
    refine ⟨x :: xs, ⟨x, xs, c, rfl, a1, a2, b1⟩, by simp [b2], fun j y hj => ?_⟩
    cases j with
    | zero => simp at hj; subst hj; simpa using a3
    | succ j => simpa using b3 j y (by simpa using hj)

/-- What was read before the call reads so behind it. -/
theorem trodAll_below (hlaid : laidOutB P = true) {W W' : World} (hb : Below W.heap.size W W') : ∀ {ts : List TypeId} {vs : List Value} {ds : List (DataW H)} {ps : List MemPlace}, (ts.all fun t => P.readableRec t && decide (t < P.types.size)) = true →
    DataW.TrodAll enc P W 0 (fun _ => true) true ts vs ds ps → (∀ x ∈ ps, x.block < W.heap.size) → DataW.TrodAll enc P W' 0 (fun b => decide (b < W.heap.size)) true ts vs ds ps
  | [], vs, ds, ps, hp, ht, hl => by
    obtain ⟨rfl, rfl, rfl⟩ := Go.ChangeShapes.trodAll_nil ht
    rfl
  | t :: ts, vs, ds, ps, hp, ht, hl => by
    obtain ⟨v, vs, d, ds, p, q, rfl, rfl, rfl, h1, h2⟩ := Go.ChangeShapes.trodAll_cons ht
    simp only [List.all_cons, Bool.and_eq_true, decide_eq_true_eq] at hp
    exact ⟨p, q, Below.trod hlaid hp.1.1 hp.1.2 h1 hb (fun x hx => hl x (List.mem_append_left _ hx)), trodAll_below hlaid hb hp.2 h2 (fun x hx => hl x (List.mem_append_right _ hx)), rfl⟩

theorem trodAll_len {W : World} : ∀ {ts : List TypeId} {vs : List Value} {ds : List (DataW H)} {ps : List MemPlace}, DataW.TrodAll enc P W 0 (fun _ => true) true ts vs ds ps → ds.length = ts.length
  | [], vs, ds, ps, ht => by
    obtain ⟨rfl, rfl, rfl⟩ := Go.ChangeShapes.trodAll_nil ht
    rfl
  | t :: ts, vs, ds, ps, ht => by
    obtain ⟨v, vs, d, ds, p, q, rfl, rfl, rfl, h1, h2⟩ := Go.ChangeShapes.trodAll_cons ht
    simpa using trodAll_len h2

/-- A law whose handler gives true, whatever the arguments. -/
theorem law_calls {f : FuncId} {Hd : Handler} (hs : HSound P f Hd) {vs : Array Value} {xs : List AV} (hl : xs.length = vs.size) (hv : ∀ (j : Nat) x, xs[j]? = some x → VR [] W (fun k => k < W.heap.size) (fun _ => False) x (vs.toList.getD j undef))
    (hH : Hd xs [] fun x _ => x = .v (.bool true)) : Calls P f vs W fun e w' => e = .returned (.bool true) ∧ Below W.heap.size W w' := by
  have g0 : Good ⟨W, fun _ => False, fun _ => False, fun k => k < W.heap.size, W, []⟩ [] [] W (fun _ => False) (fun _ _ => False) :=
    ⟨rfl, by simp, by simp, by simp, by simp, by simp, fun _ h => h, fun _ h => .inl h, Nat.le_refl _, rfl, rfl, rfl, fun _ _ _ => rfl, fun k hk => ⟨hk, fun h => h⟩, fun _ _ h => h, fun _ _ => rfl⟩
  have := hs ⟨W, fun _ => False, fun _ => False, fun k => k < W.heap.size, W, []⟩ [] (fun _ => False) (fun _ _ => False) [] W xs vs.toList _ g0 (by simpa using hl) hv hH
  rw [Array.toArray_toList] at this
  refine Calls.mono this ?_
  rintro e w' ⟨x, h', G', S', F', rfl, hg, _, ⟨v, rfl, hvx⟩ | ⟨v, _, hx⟩⟩
  · have hvx := hvx.v_inv.1
    subst hvx
    exact ⟨rfl, hg.os, hg.tape, hg.output, hg.size, fun k hk => hg.fr k hk (fun h => h)⟩
  · cases hx
end

end Go.Proofs.YtbfjkjdbdejnmaaGreat.Ab
