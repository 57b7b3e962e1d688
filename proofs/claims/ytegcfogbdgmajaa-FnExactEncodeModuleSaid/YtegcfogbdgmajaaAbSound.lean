/- The abstract machine is sound: what it asks of a piece of code makes the model's code run so. No condition. -/
import Derived.Test.YtegcfogbdgmajaaAbHeld4
namespace Go.Proofs.Ytegcfogbdgmajaa.Ab
set_option linter.unusedVariables false
set_option linter.unusedSimpArgs false

section
variable {P : Program} {C : Ctx} {E : Env} {D : List Deferred × Nat} {t : TS} {h : HP} {a : Act} {w : World} {Q : Exit → Act → World → Prop}

theorem allL_mem {α : Type} {k : α → Prop} : ∀ {l : List α}, allL l k → ∀ a ∈ l, k a
  | [], _, a, ha => by simp at ha
  | [x], h, a, ha => by simp at ha; subst ha; exact h
  | x :: y :: l, h, a, ha => by
    rcases List.mem_cons.1 ha with rfl | ha
    · exact h.1
    · exact allL_mem (l := y :: l) h.2 a ha

theorem noSel_mem : ∀ {l : List Oper}, noSel l = true → ∀ o ∈ l, ∀ cs b, o.op ≠ .select cs b
  | [], _, o, ho, _, _ => by cases ho
  | x :: l, h, o, ho, cs, b => by
    unfold noSel at h
    rcases List.mem_cons.1 ho with rfl | ho
    · intro e
      rw [e] at h
      cases h
    · split at h
      · cases h
      · exact noSel_mem h o ho cs b
theorem takeL_spec {ops : Array Oper} {t : TS} {listed : List Bool} : ∀ {rs : List Nat} {i : Nat}, takeL ops t listed rs = some i → i ∈ rs ∧ ∃ o, ops[i]? = some o ∧ (pureO o = true ∨ gOff ops.toList t o = true) ∧ freeL ops listed i o = true
  | [], i, h => by cases h
  | x :: r, i, h => by
    unfold takeL at h
    split at h
    · rename_i o ho
      split at h
      · rename_i hb
        cases h
        simp only [Bool.and_eq_true, Bool.or_eq_true] at hb
        exact ⟨List.mem_cons_self, o, ho, hb⟩
      · obtain ⟨h1, h2⟩ := takeL_spec h
        exact ⟨List.mem_cons_of_mem _ h1, h2⟩
    · obtain ⟨h1, h2⟩ := takeL_spec h
      exact ⟨List.mem_cons_of_mem _ h1, h2⟩
theorem freeL_spec {ops : Array Oper} {listed : List Bool} {i : Nat} {oi : Oper} (h : freeL ops listed i oi = true) (j : Nat) (oj : Oper) (hj : ops[j]? = some oj) (hne : j ≠ i) (hun : listed.toArray.getD j true = false)
    (hno : ∀ e ∈ oj.after, Region.binds .any e = true → e.on ≠ i) : oi.apart ops oj = true := by
  have hun : listed.getD j true = false := by simpa [Array.getD_eq_getD_getElem?, List.getD_eq_getElem?_getD] using hun
  unfold freeL at h
  rw [List.all_eq_true] at h
  have h1 := h j (List.mem_range.2 (Array.getElem?_eq_some_iff.1 hj).1)
  simp only [hj, Bool.or_eq_true, Nat.beq_eq, hne, false_or, hun, Bool.false_eq_true, List.any_eq_true, Bool.and_eq_true] at h1
  rcases h1 with ⟨e, he, hb, hon⟩ | h1
  · exact absurd hon (hno e (Array.mem_toList_iff.1 he) hb)
  · exact h1
theorem opU_sound (hC : CtxOk P C) (o : Oper) (hq : pureO o = true) : OpU P C o := by
  unfold pureO at hq
  cases ho : o.op <;> simp only [ho] at hq
  case move x => exact u_move ho
  case assign x => exact u_assign hC ho
  case pick c x y => exact u_pick ho
  case nilCheck x => exact u_nilCheck ho
  case extract x n => exact u_extract ho
  case fieldAddr ty x n => exact u_fieldAddr hC ho
  case indexAddr ty x n => exact u_indexAddr hC ho
  case binOp op ty x y ty' => exact u_binOp hC ho
  case unOp op ty x => exact u_unOp ho
  all_goals cases hq
theorem opG_yields (hC : CtxOk P C) {ops : Array Oper} {o : Oper} (hq : pureO o = true ∨ gOff ops.toList t o = true) {k : TS → HP → Prop} (hp : opG C ops.toList o t h k) (hr : Rel E D t h a w) :
    ∃ v t' h', k t' h' ∧ Yields P ops o v a ∧ Rel E D t' h' (a.put o.dst v) w := by
  have go (hq : pureO o = true) : (opP C o t h fun t h => splitG ops.toList o.dst t fun t => k t h) → ∃ v t' h', k t' h' ∧ (∀ w2, (execOp a.eval o).run P w2 = .ok (.value v) w2) ∧ Rel E D t' h' (a.put o.dst v) w := fun hp => by
    obtain ⟨v, t', h', h1, h2, h3⟩ := opU_sound hC o hq E D t h a w _ hp hr
    obtain ⟨t'', h4, h5⟩ := splitG_spec h3 h1
    exact ⟨v, t'', h', h4, h2, h5⟩
  unfold opG at hp
  split at hp
  · rename_i hgd
    obtain ⟨v, t', h', h1, h2, h3⟩ := go (hq.resolve_right (by simp [gOff, hgd])) hp
    exact ⟨v, t', h', h1, .inl ⟨by simp [Region.wanted, hgd], h2⟩, h3⟩
  · rename_i j want hgd
    obtain ⟨d, hd, hp⟩ := on_spec hp
    simp only [getK_eq] at hp
    split at hp
    · rename_i b hb
      have hr0 := hr
      obtain ⟨G, S, F, hg, ht, hdf⟩ := hr
      have hv := ht.2 d
      rw [hb] at hv
      have hv := hv.v_inv.1
      have hy : yielded ops a.tmps j = some b := by
        unfold yielded
        rw [← Array.getElem?_toList, hd]
        rw [Array.getD_eq_getD_getElem?] at hv
        cases hq : a.tmps[d]? with
        | none => rw [hq] at hv; simp [undef] at hv
        | some q => rw [hq] at hv; simp at hv; subst hv; simp [hq]
      split at hp
      · rename_i hbw
        have hbw : b = want := by simpa using hbw
        have hq1 : pureO o = true := hq.resolve_right (by
          simp only [gOff, hgd, hd]
          rw [hb]
          simp [hbw])
        obtain ⟨v, t', h', h1, h2, h3⟩ := go hq1 hp
        exact ⟨v, t', h', h1, .inl ⟨by simp [Region.wanted, hgd, hy, hbw], h2⟩, h3⟩
      · rename_i hbw
        have hbw : ¬ b = want := by simpa using hbw
        obtain ⟨t', h1, h2⟩ := putK_spec ht (VR.tup [] [] rfl (by simp)) hp
        exact ⟨undef, t', _, h1, .inr ⟨by simp [Region.wanted, hgd, hy, hbw], rfl⟩, ⟨G, S, F, hg, h2, hdf.put _ _⟩⟩
    · rename_i l hb
      obtain ⟨G, S, F, hg, ht, hdf⟩ := hr
      have hv := ht.2 d
      rw [hb] at hv
      obtain ⟨vs, hv, _⟩ := hv.tup_inv
      have hy : yielded ops a.tmps j = none := by
        unfold yielded
        rw [← Array.getElem?_toList, hd]
        rw [Array.getD_eq_getD_getElem?] at hv
        cases hq : a.tmps[d]? with
        | none => simp [hq]
        | some q => rw [hq] at hv; simp at hv; subst hv; simp [hq]
      obtain ⟨t', h1, h2⟩ := putK_spec ht (VR.tup [] [] rfl (by simp)) hp
      exact ⟨undef, t', _, h1, .inr ⟨by simp [Region.wanted, hgd, hy], rfl⟩, ⟨G, S, F, hg, h2, hdf.put _ _⟩⟩
    · exact hp.elim
/-- A panic's end does not look at the temporaries. -/
def PutOk (Q : Exit → Act → World → Prop) : Prop := ∀ c a x v w, Q (.panic c) (Act.put a x v) w → Q (.panic c) a w
theorem allP_sound (hC : CtxOk P C) (hpan : PanOk E D C Q) (hput : PutOk Q) {ops : Array Oper} {sel : Bool} (hsel : sel = true → noSel ops.toList = true) {k : TS → HP → Prop} (hQ : ∀ t h a w, k t h → Rel E D t h a w → Q .normal a w) : ∀ (f : Nat) (listed : List Bool) (t : TS) (h : HP) (a : Act) (w : World),
    allP C ops sel f listed t h k → Rel E D t h a w → wpAny P .any ops Q f listed.toArray a w
  | 0, listed, t, h, a, w, hp, hr => by
    simp only [wpAny, readyL_eq]
    exact ⟨hp.1, hQ _ _ _ _ hp.2 hr⟩
  | f + 1, listed, t, h, a, w, hp, hr => by
    simp only [allP] at hp
    split at hp
    · rename_i hn
      simp only [wpAny, readyL_eq]
      rw [hn]
      exact ⟨fun _ => hQ _ _ _ _ hp hr, by simp⟩
    · rename_i rs hne
      split at hp
      · rename_i i htk
        obtain ⟨hi, o, ho, hq, hf⟩ := takeL_spec htk
        obtain ⟨o', ho', hp⟩ := on_spec hp
        cases ho.symm.trans ho'
        obtain ⟨v, t', h', h1, h2, h3⟩ := opG_yields hC hq hp hr
        have hns := noSel_mem (hsel rfl)
        refine wpAny_first ho (fun j o cs b hj => hns o (Array.mem_toList_iff.2 (Array.mem_of_getElem? hj)) cs b) (fun c a w => hput c a _ _ w) f _ a w (freeL_spec hf) (by rw [readyL_eq]; exact hi) h2 ?_
        have := allP_sound hC hpan hput hsel hQ f _ t' h' _ w h1 h3
        simpa using this
      · simp only [wpAny, readyL_eq]
        refine ⟨fun hn => (hne hn).elim, fun i hi => ?_⟩
        obtain ⟨o, ho, hp⟩ := on_spec (allL_mem hp i hi)
        refine opG_sound hC hpan (by simpa using ho) hp hr (fun t h a w hk hr => ?_)
        have := allP_sound hC hpan hput hsel hQ f _ t h a w hk hr
        simpa using this

theorem opQ_sound (hC : CtxOk P C) (o : Oper) (hq : quietO C o = true) : OpQ P C o := by
  unfold quietO at hq
  cases ho : o.op <;> simp only [ho] at hq
  case move x => exact q_move ho
  case assign x => exact q_assign hC ho
  case pick c x y => exact q_pick ho
  case nilCheck x => exact q_nilCheck ho
  case extract x n => exact q_extract ho
  case convert s d x =>
    refine q_convert hC ho (fun i e es hi hk => ?_)
    rw [hi] at hq
    simp only [hk] at hq
    cases hq
  case fieldAddr ty x n => exact q_fieldAddr hC ho
  case indexAddr ty x y => exact q_indexAddr hC ho
  case load ty x => exact q_load hC ho
  case binOp op ty x y ty' => exact q_binOp hC ho
  case unOp op ty x => exact q_unOp ho
  case build ty ps => exact q_build hC ho
  case index ty x y => exact q_index hC ho
  case slice ty x lo hi mx => exact q_slice hC ho
  case lookup ty x y b => exact q_lookup hC ho
  case makeFunc f x y => exact q_makeFunc ho
  case sliceToArrayPointer ty x => exact q_s2ap hC ho
  case call c =>
    split at hq
    · rename_i hcal; exact q_len hC ho hcal
    · rename_i hcal; exact q_minmax ho (.inl hcal)
    · rename_i hcal; exact q_minmax ho (.inr hcal)
    · cases hq
  all_goals cases hq

theorem allQ_mem : ∀ {l : List Oper}, allQ C l = true → ∀ o ∈ l, quietO C o = true
  | [], _, o, ho => by cases ho
  | x :: l, h, o, ho => by
    simp only [allQ] at h
    split at h
    · rename_i hx
      rcases List.mem_cons.1 ho with rfl | ho
      · exact hx
      · exact allQ_mem h o ho
    · cases h

theorem Rel.chg {w2 : World} (hr : Rel E D t h a w) (hw : Chg w w2 (fun _ => False)) : Rel E D t h a w2 := by
  obtain ⟨G, S, F, hg, ht, hd⟩ := hr
  exact ⟨G, S, F, hg.chg hw, ht.ext (hg.ext_none hw (fun _ _ h => h)), hd⟩

theorem opsQ_sound (hC : CtxOk P C) {ops : Array Oper} (hq : allQ C ops.toList = true) {k : TS → HP → Prop} (hQ : ∀ t h a w, k t h → Rel E D t h a w → Q .normal a w) (w : World) : ∀ (r : List Oper) (i : Nat) (t : TS) (h : HP) (a : Act), ops.toList.drop i = r →
    opsP C ops.toList r t h k → Rel E D t h a w → wpQuiet P ops (fun w2 => Chg w w2 (fun _ => False)) (fun a => ∀ w2, Chg w w2 (fun _ => False) → Q .normal a w2) r a
  | [], i, t, h, a, _, hp, hr => fun w2 hw => hQ _ _ _ _ hp (hr.chg hw)
  | o :: r, i, t, h, a, hd, hp, hr => by
    have ho : o ∈ ops.toList := by
      have : ops.toList[i]? = some o := by
        have h1 := List.getElem?_drop (xs := ops.toList) (i := i) (j := 0)
        rw [hd] at h1
        simpa using h1.symm
      exact List.mem_of_getElem? this
    have hd' : ops.toList.drop (i + 1) = r := by
      rw [← List.drop_drop, hd]; rfl
    have go : ∀ {t a}, Rel E D t h a w → (opP C o t h fun t h => splitG ops.toList o.dst t fun t => opsP C ops.toList r t h k) →
        o.quiet P a (fun w2 => Chg w w2 (fun _ => False)) (wpQuiet P ops (fun w2 => Chg w w2 (fun _ => False)) (fun a => ∀ w2, Chg w w2 (fun _ => False) → Q .normal a w2) r) := fun {t a} hr hp => by
      obtain ⟨v, t', h', h1, h2⟩ := opQ_sound hC o (allQ_mem hq o ho) E D t h a w _ hp hr
      obtain ⟨t'', h3, h4⟩ := splitG_spec (h2 w (Chg.refl w _)).2 h1
      refine ⟨v, fun w2 hw => ?_, opsQ_sound hC hq hQ w r (i + 1) t'' h' _ hd' h3 h4⟩
      unfold Oper.quietAt
      rw [(h2 w2 hw).1]
      exact ⟨rfl, rfl⟩
    simp only [wpQuiet]
    simp only [opsP] at hp
    unfold opG at hp
    split at hp
    · rename_i hgd
      rw [if_pos (by simp [Region.wanted, hgd])]
      exact go hr hp
    · rename_i j want hgd
      obtain ⟨d, hdd, hp⟩ := on_spec hp
      simp only [getK_eq] at hp
      split at hp
      · rename_i b hb
        obtain ⟨G, S, F, hg, ht, hdf⟩ := hr
        have hv := ht.2 d
        rw [hb] at hv
        have hv := hv.v_inv.1
        have hy : yielded ops a.tmps j = some b := by
          unfold yielded
          rw [← Array.getElem?_toList, hdd]
          rw [Array.getD_eq_getD_getElem?] at hv
          cases hq : a.tmps[d]? with
          | none => rw [hq] at hv; simp [undef] at hv
          | some q => rw [hq] at hv; simp at hv; subst hv; simp [hq]
        split at hp
        · rename_i hbw
          have hbw : b = want := by simpa using hbw
          rw [if_pos (by simp [Region.wanted, hgd, hy, hbw])]
          exact go ⟨G, S, F, hg, ht, hdf⟩ hp
        · rename_i hbw
          have hbw : ¬ b = want := by simpa using hbw
          rw [if_neg (by simp [Region.wanted, hgd, hy, hbw])]
          obtain ⟨t', h1, h2⟩ := putK_spec ht (VR.tup [] [] rfl (by simp)) hp
          exact opsQ_sound hC hq hQ w r (i + 1) t' h _ hd' h1 ⟨G, S, F, hg, h2, hdf.put _ _⟩
      · rename_i l hb
        obtain ⟨G, S, F, hg, ht, hdf⟩ := hr
        have hv := ht.2 d
        rw [hb] at hv
        obtain ⟨vs, hv, _⟩ := hv.tup_inv
        have hy : yielded ops a.tmps j = none := by
          unfold yielded
          rw [← Array.getElem?_toList, hdd]
          rw [Array.getD_eq_getD_getElem?] at hv
          cases hq : a.tmps[d]? with
          | none => simp [hq]
          | some q => rw [hq] at hv; simp at hv; subst hv; simp [hq]
        rw [if_neg (by simp [Region.wanted, hgd, hy])]
        obtain ⟨t', h1, h2⟩ := putK_spec ht (VR.tup [] [] rfl (by simp)) hp
        exact opsQ_sound hC hq hQ w r (i + 1) t' h _ hd' h1 ⟨G, S, F, hg, h2, hdf.put _ _⟩
      · exact hp.elim

theorem wp_loopN {c : Code} (I : Nat → Act → World → Prop) {n : Nat} (h₀ : I n a w)
    (round : ∀ n a w, I n a w → c.wp P (Exit.then (fun a' w' => ∃ n', n' < n ∧ I n' a' w') Q) a w) : (Code.loop c).wp P Q a w := by
  intro b k cs
  have key : ∀ n a w, I n a w → ∃ e a' w', Q e a' w' ∧ Arrives P (lone (b.at a (.code c :: .inLoop c :: k)) cs w) b k cs e a' w' := by
    intro n
    induction n using Nat.strongRecOn with
    | _ n ih =>
      intro a w hI
      obtain ⟨e, a₁, w₁, hq, harr⟩ := round n a w hI b (.inLoop c :: k) cs
      cases e with
      | normal =>
        obtain ⟨n', hlt, hI₁⟩ := hq
        obtain ⟨e₂, a₂, w₂, hq₂, harr₂⟩ := ih n' hlt a₁ w₁ hI₁
        exact ⟨e₂, a₂, w₂, hq₂, .of_steps (Steps.trans harr (.one step_inLoop)) harr₂⟩
      | exit id => exact ⟨_, a₁, w₁, hq, .pass (x := .inLoop c) rfl (fun _ _ => .inl (by simp)) harr⟩
      | goto l => exact ⟨_, a₁, w₁, hq, .pass (x := .inLoop c) rfl (fun _ _ => .inl (by simp)) harr⟩
      | ret => exact ⟨_, a₁, w₁, hq, .pass (x := .inLoop c) rfl (fun _ _ => .inl (by simp)) harr⟩
      | panic ch => exact ⟨_, a₁, w₁, hq, .pass (x := .inLoop c) rfl (fun _ _ => .inl (by simp)) harr⟩
      | outgrown => exact ⟨_, a₁, w₁, hq, .pass (x := .inLoop c) rfl (fun _ _ => .inl (by simp)) harr⟩
  obtain ⟨e, a', w', hq, harr⟩ := key _ a w h₀
  exact ⟨e, a', w', hq, .of_steps (.one step_loop) harr⟩

/-! ### Loops -/

theorem mapK_get (t : TS) (ks : List Nat) (k : List AV → Prop) : mapK (getK t) ks k = k (ks.map fun i => t.getD i .top) := by
  induction ks generalizing k with
  | nil => rfl
  | cons a l ih => simp only [mapK, getK_eq, List.map_cons]; exact ih _
theorem topsK_eq (n : Nat) (k : TS → Prop) : topsK n k = k (List.replicate n .top) := by
  induction n generalizing k with
  | zero => rfl
  | succ n ih => simp only [topsK, ih, List.replicate_succ]
def laysF : List Nat → List AV → TS → TS
  | i :: is, x :: xs, t => laysF is xs (t.set i x)
  | _, _, t => t
theorem laysK_eq (ks : List Nat) (vs : List AV) (t : TS) (k : TS → Prop) : laysK ks vs t k = k (laysF ks vs t) := by
  induction ks generalizing vs t with
  | nil => cases vs <;> rfl
  | cons i is ih =>
    cases vs with
    | nil => rfl
    | cons x xs => simp only [laysK, laysF, setK_eq]; exact ih _ _
theorem TR.lays {G w Ro S} : ∀ (ks : List Nat) (vs : List AV) (t : TS), TR G w Ro S t a → (∀ (j : Nat) x i, vs[j]? = some x → ks[j]? = some i → VR G w Ro S x (a.tmps.getD i undef)) → TR G w Ro S (laysF ks vs t) a
  | [], vs, t, ht, _ => by cases vs <;> exact ht
  | i :: is, [], t, ht, _ => ht
  | i :: is, x :: xs, t, ht, hv => TR.lays is xs _ (ht.set (hv 0 x i rfl rfl)) (fun j y k h1 h2 => hv (j + 1) y k h1 h2)
theorem TR.tops {G w Ro S} {n : Nat} (hn : n = a.tmps.size) : TR G w Ro S (List.replicate n .top) a := by
  refine ⟨by simpa using hn, fun i => ?_⟩
  rw [List.getD_eq_getElem?_getD, List.getElem?_replicate]
  split <;> exact .top _

/-- A loop's head: of the temporaries only those of the list are kept. -/
theorem loop_head {m : Nat} (hm : E.G0.length ≤ m) {cn : Bool} {ks : List Nat} {k : List AV → HP → Prop} (hr : Rel E D t h a w) (hp : headK m cn (ks.map fun i => t.getD i .top) h k) :
    ∃ vs' h', k vs' h' ∧ Rel E D (laysF ks vs' (List.replicate t.length .top)) h' a w := by
  obtain ⟨G, S, F, hg, ht, hd⟩ := hr
  obtain ⟨vs', h', G', S', F', h0, h1, h2, h3⟩ := headK_spec hm hg (ks.map fun i => a.tmps.getD i undef) (fun j x hj => by
    rw [List.getElem?_map] at hj
    cases hk : ks[j]? with
    | none => simp [hk] at hj
    | some i =>
      simp [hk] at hj
      subst hj
      rw [List.getD_eq_getElem?_getD, List.getElem?_map, hk]
      exact ht.2 i) hp
  refine ⟨vs', h', h0, G', S', F', h1, TR.lays _ _ _ (TR.tops ht.1) (fun j x i hx hi => ?_), hd⟩
  have := h3 j x hx
  rw [List.getD_eq_getElem?_getD, List.getElem?_map, hi] at this
  exact this

theorem laysF_length : ∀ (ks : List Nat) (vs : List AV) (t : TS), (laysF ks vs t).length = t.length
  | [], vs, t => by cases vs <;> rfl
  | i :: is, [], t => rfl
  | i :: is, x :: xs, t => by simp only [laysF]; rw [laysF_length]; simp
theorem Rel.length (hr : Rel E D t h a w) : t.length = D.2 := by
  obtain ⟨_, _, _, _, ht, hd⟩ := hr
  exact ht.1.trans hd.2

theorem awp_sound (hC : CtxOk P C) (hm : P.follows .mixedOrders = true) (hG0 : E.G0.length ≤ C.m) (c : Code) : ∀ (k : Post) (t : TS) (h : HP) (a : Act) (w : World) (Q : Exit → Act → World → Prop), AWP C c k t h → Rel E D t h a w → PanOk E D C Q → PutOk Q →
    (∀ e t h a w, k e t h → Rel E D t h a w → Q e a w) → c.wp P Q a w := by
  induction c with
  | skip => exact fun k t h a w Q hp hr hpan hput hQ => wp_skip (hQ _ _ _ _ _ hp hr)
  | label l => exact fun k t h a w Q hp hr hpan hput hQ => wp_label (hQ _ _ _ _ _ hp hr)
  | exit id => exact fun k t h a w Q hp hr hpan hput hQ => wp_exit (hQ _ _ _ _ _ hp hr)
  | ret => exact fun k t h a w Q hp hr hpan hput hQ => wp_ret (hQ _ _ _ _ _ hp hr)
  | region id ops draw =>
    intro k t h a w Q hp hr hpan hput hQ
    simp only [AWP] at hp
    cases draw with
    | true =>
      simp only [if_true] at hp
      have hc : Chg w { w with drawn := w.drawn + 1 } (fun _ => False) := ⟨rfl, rfl, rfl, Nat.le_refl _, fun _ _ _ => rfl⟩
      unfold drawnP at hp
      split at hp
      · rename_i hq
        refine wp_region_quiet (C := fun w2 => Chg w w2 (fun _ => False)) hm hp.1 hc ?_
        exact opsQ_sound (Q := Q) hC hq (fun t h a w hk hr => hQ .normal t h a w hk hr) w ops.toList 0 t h a rfl hp.2 hr
      · refine wp_region_any hm ?_
        rcases hp with hp | hp
        · have := heldP_sound (P := P) (E := E) (D := D) hC (Q := Q) hpan (fun t h a w hk hr => hQ .normal t h a w hk hr) hp (hr.chg hc)
          simpa using this
        have := allP_sound (P := P) (E := E) (D := D) hC (Q := Q) hpan hput (fun h => h) (fun t h a w hk hr => hQ .normal t h a w hk hr) _ _ t h a { w with drawn := w.drawn + 1 } hp (hr.chg hc)
        simpa using this
    | false =>
      simp only [Bool.false_eq_true, if_false] at hp
      have := opsP_sound (P := P) (E := E) (D := D) hC (Q := Q) hpan (fun t h a w hk hr => hQ .normal t h a w hk hr) ops.toList 0 t h a w rfl hp hr
      refine wp_region ?_
      rw [List.range_eq_range']
      simpa using this
  | seq x y ihx ihy =>
    intro k t h a w Q hp hr hpan hput hQ
    have plain (hp : AWP C x (Post.seq k (AWP C y k)) t h) : (Code.seq x y).wp P Q a w := by
      refine wp_seq (ihx _ t h a w _ hp hr (fun v t h a w hp hr => hpan v t h a w hp hr) (fun c a x v w h => hput c a x v w h) fun e t h a w hk hr => ?_)
      cases e <;> first | exact ihy _ _ _ _ _ _ hk hr hpan hput hQ | exact hQ _ _ _ _ _ hk hr
    simp only [AWP] at hp
    split at hp
    · rcases hp with hp | ⟨cn, ks, I, h1, h2⟩
      · exact plain hp
      · have hlen := hr.length
        refine wp_seq (ihx _ t h a w _ h1 hr (fun v t h a w hp hr => hpan v t h a w hp hr) (fun c a x v w h => hput c a x v w h) fun e t' h a w hk hr => ?_)
        cases e <;> first | exact hQ _ _ _ _ _ hk hr | skip
        simp only [Post.seq, mapK_get] at hk
        have hl2 : t'.length = t.length := hr.length.trans hlen.symm
        obtain ⟨vs', h', hI, hr'⟩ := loop_head hG0 hr hk
        rw [hl2] at hr'
        have hb := h2 _ _ hI
        rw [topsK_eq, laysK_eq] at hb
        exact ihy _ _ _ _ _ _ hb hr' hpan hput hQ
    · exact plain hp
  | cond c x y ihx ihy =>
    intro k t h a w Q hp hr hpan hput hQ
    simp only [AWP, evK_eq] at hp
    split at hp
    · rename_i b hb
      have hr' := hr
      obtain ⟨G, S, F, hg, ht, hd⟩ := hr'
      have hv := evF_spec ht c
      rw [hb] at hv
      have know : ∀ (k : TS → Prop), knowK c b t k → ∃ t', k t' ∧ Rel E D t' h a w := by
        intro k hk
        unfold knowK at hk
        split at hk
        · rename_i i
          rw [setK_eq] at hk
          exact ⟨_, hk, G, S, F, hg, ht.set (by simpa [evF, Act.eval, hb] using hv), hd⟩
        · exact ⟨t, hk, hr⟩
      refine wp_cond_split hv.v_inv.1 (fun hx => ?_) (fun hx => ?_)
      · obtain ⟨t', h1, h2⟩ := know _ (hx ▸ hp.1 hx)
        exact ihx _ _ _ _ _ _ h1 h2 hpan hput hQ
      · obtain ⟨t', h1, h2⟩ := know _ (hx ▸ hp.2 hx)
        exact ihy _ _ _ _ _ _ h1 h2 hpan hput hQ
    · exact hp.elim
  | block id b ih =>
    intro k t h a w Q hp hr hpan hput hQ
    refine wp_block (ih _ t h a w _ hp hr (fun v t h a w hp hr => hpan v t h a w hp hr) (fun c a x v w h => hput c a x v w h) fun e t h a w hk hr => ?_)
    cases e <;> first | exact hQ _ _ _ _ _ hk hr | skip
    rename_i i
    simp only [Post.block] at hk
    simp only [Exit.inBlock]
    split
    · rename_i hi; rw [if_pos hi] at hk; exact hQ _ _ _ _ _ hk hr
    · rename_i hi; rw [if_neg hi] at hk; exact hQ _ _ _ _ _ hk hr
  | loop b ih =>
    intro k t h a w Q hp hr hpan hput hQ
    obtain ⟨cn, ks, I, h1, h2⟩ := hp
    rw [mapK_get] at h1
    obtain ⟨vs', h', ⟨n, hI⟩, hr'⟩ := loop_head hG0 hr h1
    have hlen := hr.length
    refine wp_loopN (fun n a w => ∃ vs h, I n vs h ∧ Rel E D (laysF ks vs (List.replicate t.length .top)) h a w) ⟨vs', h', hI, hr'⟩ ?_
    rintro n a w ⟨vs, h, hI, hr⟩
    have hb := h2 n vs h hI
    rw [topsK_eq, laysK_eq] at hb
    refine ih _ _ _ _ _ _ hb hr (fun v t h a w hp hr => hpan v t h a w hp hr) (fun c a x v w h => hput c a x v w h) fun e t' h a w hk hr => ?_
    cases e <;> first | exact hQ _ _ _ _ _ hk hr | skip
    simp only [Post.seq, mapK_get] at hk
    have hl2 : t'.length = t.length := hr.length.trans hlen.symm
    obtain ⟨vs', h', ⟨n', hlt, hI⟩, hr'⟩ := loop_head hG0 hr hk
    rw [hl2] at hr'
    exact ⟨n', hlt, vs', h', hI, hr'⟩
  | _ => exact fun k t h a w Q hp => hp.elim
end

end Go.Proofs.Ytegcfogbdgmajaa.Ab
