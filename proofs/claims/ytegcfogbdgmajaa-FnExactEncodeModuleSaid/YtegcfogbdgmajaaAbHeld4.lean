/- A region is walked in one order; behind what changes memory the others are looked at again. No condition. -/
import Derived.Test.YtegcfogbdgmajaaAbHeld3
import Derived.Test.YtegcfogbdgmajaaAbSound0
namespace Go.Proofs.Ytegcfogbdgmajaa.Ab
set_option linter.unusedVariables false
set_option linter.unusedSimpArgs false

section
variable {C : Ctx} {o : Oper} {t s : TS} {h : HP} {k : TS → HP → Prop} {n : Nat} {all : List Oper}

theorem splitG_iff {d : Option Tmp} {k : TS → Prop} : splitG all d t k ↔ k t := by
  unfold splitG
  split
  · rename_i i
    split
    · simp only [getK_eq]
      split
      · rename_i b hb
        have hlt : i < t.length := by
          rcases Nat.lt_or_ge i t.length with h | h
          · exact h
          · rw [List.getD_eq_getElem?_getD, List.getElem?_eq_none h] at hb; cases hb
        have hs : t.set i (.v (.bool b)) = t := by
          rw [← hb, List.getD_eq_getElem?_getD, List.getElem?_eq_getElem hlt]
          simp
        cases b
        · simp only [setK_eq, hs]; simp
        · simp only [setK_eq, hs]; simp
      · exact Iff.rfl
    · exact Iff.rfl
  · exact Iff.rfl
theorem splitG_fun (o : Oper) (k : TS → HP → Prop) : (fun t h => splitG all o.dst t fun t => k t h) = k := by
  funext t h; exact propext splitG_iff

theorem opG_cases (hp : opG C all o t h k) : (gOn all t o = true ∧ gOff all t o = false ∧ opP C o t h k) ∨ (gOff all t o = true ∧ k (putF t o.dst (.tup [])) h) := by
  unfold opG at hp
  simp only [splitG_fun] at hp
  split at hp
  · rename_i hg
    exact .inl ⟨by simp [gOn, hg], by simp [gOff, hg], hp⟩
  · rename_i j want hg
    obtain ⟨d, hd, hp⟩ := on_spec hp
    simp only [getK_eq] at hp
    split at hp
    · rename_i b hb
      split at hp
      · rename_i hbw
        exact .inl ⟨by simp only [gOn, hg, hd, hb]; exact hbw, by simp only [gOff, hg, hd, hb]; rw [hbw]; rfl, hp⟩
      · rename_i hbw
        rw [putK_eq] at hp
        exact .inr ⟨by simp only [gOff, hg, hd, hb]; cases hq : (b == want) <;> simp_all, hp⟩
    · rename_i l hb
      rw [putK_eq] at hp
      exact .inr ⟨by simp only [gOff, hg, hd, hb], hp⟩
    · exact hp.elim
theorem opG_on (hg : gOn all t o = true) (hp : opP C o t h k) : opG C all o t h k := by
  unfold opG
  simp only [splitG_fun]
  unfold gOn at hg
  split
  · exact hp
  · rename_i j want hq
    simp only [hq] at hg
    split at hg
    · rename_i d hd
      rw [hd]
      show getK t d _
      simp only [getK_eq]
      split at hg
      · rename_i b hb
        simp only [hb, hg, if_true]
        exact hp
      · cases hg
    · cases hg
theorem opG_off (hg : gOff all t o = true) (hp : k (putF t o.dst (.tup [])) h) : opG C all o t h k := by
  unfold opG
  simp only [splitG_fun]
  unfold gOff at hg
  split
  · rename_i hq
    simp only [hq] at hg
    cases hg
  · rename_i j want hq
    simp only [hq] at hg
    split at hg
    · rename_i d hd
      rw [hd]
      show getK t d _
      simp only [getK_eq]
      split at hg
      · rename_i b hb
        have : (b == want) = false := by simpa using hg
        simp only [hb, this]
        rw [if_neg (by simp), putK_eq]
        exact hp
      · rename_i l hb
        simp only [hb, putK_eq]
        exact hp
      · cases hg
    · cases hg

/-- Two states of the temporaries in which an operation sees the same. -/
def Agr (all : List Oper) (o : Oper) (t s : TS) : Prop := t.length = s.length ∧ ∀ d ∈ looksL all o, t.getD d .top = s.getD d .top
theorem Agr.op (ha : Agr all o t s) (y : Operand) (hy : y ∈ o.op.operands) : evF t y = evF s y := by
  cases y with
  | tmp i => exact ha.2 i (List.mem_append_left _ (List.mem_filterMap.2 ⟨.tmp i, by simpa using hy, rfl⟩))
  | _ => rfl
theorem Agr.gOn (ha : Agr all o t s) : gOn all t o = gOn all s o := by
  unfold Ab.gOn
  cases hg : o.guard with
  | none => rfl
  | some p =>
    obtain ⟨j, want⟩ := p
    simp only
    cases hd : (all[j]?).bind (·.dst) with
    | none => rfl
    | some d => simp only; rw [ha.2 d (List.mem_append_right _ (by simp only [hg, hd]; simp))]
theorem Agr.gOff (ha : Agr all o t s) : gOff all t o = gOff all s o := by
  unfold Ab.gOff
  cases hg : o.guard with
  | none => rfl
  | some p =>
    obtain ⟨j, want⟩ := p
    simp only
    cases hd : (all[j]?).bind (·.dst) with
    | none => rfl
    | some d => simp only; rw [ha.2 d (List.mem_append_right _ (by simp only [hg, hd]; simp))]
theorem opG_congr {x : AV} {h2 : HP} (ha : Agr all o t s) (hp : opG C all o t h (kx o x h2 t)) : opG C all o s h (kx o x h2 s) := by
  rcases opG_cases hp with ⟨h1, h2, h3⟩ | ⟨h1, h3⟩
  · exact opG_on (ha.gOn ▸ h1) (by rw [← opP_congr ha.1 ha.op]; exact h3)
  · refine opG_off (ha.gOff ▸ h1) ?_
    rw [← kx_congr ha.1]
    exact h3

theorem flG_spec (hf : flK C all t h o = n + 1) (hn : n = 0 ∨ n = 1) (hp : opG C all o t h k) :
    ∃ x, k (putF t o.dst x) h ∧ opG C all o t h (kx o x h t) ∧ (n = 0 → ∀ h2, opG C all o t h2 (kx o x h2 t)) := by
  rcases opG_cases hp with ⟨h1, h2, h3⟩ | ⟨h1, h3⟩
  · obtain ⟨x, a1, a2, a3⟩ := fl_spec hf h2 hn h3
    exact ⟨x, a1, opG_on h1 a2, fun hn h2 => opG_on h1 (a3 hn h2)⟩
  · exact ⟨.tup [], h3, opG_off h1 ⟨rfl, rfl⟩, fun _ h2 => opG_off h1 ⟨rfl, rfl⟩⟩
end

/-! ### What the text's Bool says -/

section
variable {ops : List Oper}
theorem wf_after (hw : wfB ops = true) {i : Nat} {o : Oper} (ho : ops[i]? = some o) {e : Edge} (he : e ∈ o.after) (hb : Region.binds .any e = true) : e.on < i := by
  have h1 := List.all_eq_true.1 hw i (List.mem_range.2 (List.getElem?_eq_some_iff.1 ho).1)
  simp only [ho, wfO, Bool.and_eq_true] at h1
  have h2 := List.all_eq_true.1 h1.1 e (by simpa using he)
  simp only [hb, Bool.not_true, Bool.false_or] at h2
  exact Nat.le_of_ble_eq_true h2
theorem wf_looks (hw : wfB ops = true) {i j d : Nat} {o oj : Oper} (ho : ops[i]? = some o) (hj : ops[j]? = some oj) (hd : oj.dst = some d) (hl : d ∈ looksL ops o) : ∃ e ∈ o.after, Region.binds .any e = true ∧ e.on = j := by
  have h1 := List.all_eq_true.1 hw i (List.mem_range.2 (List.getElem?_eq_some_iff.1 ho).1)
  simp only [ho, wfO, Bool.and_eq_true] at h1
  have h2 := List.all_eq_true.1 h1.2 j (List.mem_range.2 (List.getElem?_eq_some_iff.1 hj).1)
  simp only [hj, Option.bind_some, hd, Bool.and_eq_true] at h2
  have h3 := h2.1
  rw [show (looksL ops o).contains d = true by simpa using hl] at h3
  simp only [List.any_eq_true, Bool.and_eq_true] at h3
  obtain ⟨e, h4, h5, h6⟩ := h3
  exact ⟨e, by simpa using h4, h5, Nat.eq_of_beq_eq_true h6⟩
theorem wf_dst (hw : wfB ops = true) {i j d : Nat} {o oj : Oper} (ho : ops[i]? = some o) (hj : ops[j]? = some oj) (hd : oj.dst = some d) (hne : i ≠ j) : o.dst ≠ some d := by
  have h1 := List.all_eq_true.1 hw i (List.mem_range.2 (List.getElem?_eq_some_iff.1 ho).1)
  simp only [ho, wfO, Bool.and_eq_true] at h1
  have h2 := List.all_eq_true.1 h1.2 j (List.mem_range.2 (List.getElem?_eq_some_iff.1 hj).1)
  simp only [hj, Option.bind_some, hd, Bool.and_eq_true, Bool.or_eq_true] at h2
  rcases h2.2 with h3 | h3
  · exact absurd (Nat.eq_of_beq_eq_true h3) hne
  · intro he
    rw [he] at h3
    simp at h3

/-- Listed. -/
def Ls (X : List Bool) (i : Nat) : Prop := X[i]? = some true
theorem mem_readyL {X : List Bool} {i : Nat} : i ∈ readyL ops X ↔ i < ops.length ∧ X.getD i true = false ∧ ∃ o, ops[i]? = some o ∧ ∀ e ∈ o.after, Region.binds .any e = true → Ls X e.on := by
  unfold readyL
  rw [List.mem_filter, List.mem_range]
  have key : ∀ e : Edge, (X.getD e.on false = true) ↔ Ls X e.on := fun e => by
    unfold Ls
    rw [List.getD_eq_getElem?_getD]
    cases hq : X[e.on]? with
    | none => simp
    | some b => simp
  constructor
  · rintro ⟨h1, h2⟩
    simp only [Bool.and_eq_true, Bool.not_eq_true'] at h2
    refine ⟨h1, h2.1, _, List.getElem?_eq_getElem h1, fun e he hb => ?_⟩
    have h3 := h2.2
    rw [List.getElem?_eq_getElem h1] at h3
    simp only [Option.map_some, Option.getD_some, List.all_eq_true, Bool.or_eq_true, Bool.not_eq_true'] at h3
    rcases h3 e (by simpa using he) with h4 | h4
    · rw [hb] at h4; cases h4
    · exact (key e).1 h4
  · rintro ⟨h1, h2, o, ho, h3⟩
    refine ⟨h1, ?_⟩
    simp only [Bool.and_eq_true, Bool.not_eq_true', ho, Option.map_some, Option.getD_some, List.all_eq_true, Bool.or_eq_true]
    refine ⟨h2, fun e he => ?_⟩
    cases hb : Region.binds .any e with
    | false => exact .inl rfl
    | true => exact .inr ((key e).2 (h3 e (by simpa using he) hb))
theorem ready_ls {X : List Bool} {i : Nat} (h : i ∈ readyL ops X) : ¬ Ls X i := by
  intro hl
  have := (mem_readyL.1 h).2.1
  rw [List.getD_eq_getElem?_getD, hl] at this
  cases this
theorem ls_set {X : List Bool} {i : Nat} (hi : i < X.length) (j : Nat) : Ls (X.set i true) j ↔ Ls X j ∨ j = i := by
  unfold Ls
  rw [List.getElem?_set]
  split
  · rename_i h; subst h; simp [hi]
  · rename_i h; simp [Ne.symm h]
def cnt : List Bool → Nat
  | [] => 0
  | true :: l => cnt l
  | false :: l => cnt l + 1
theorem cnt_set : ∀ {X : List Bool} {i : Nat}, X[i]? = some false → cnt (X.set i true) + 1 = cnt X
  | [], i, h => by simp at h
  | a :: X, 0, h => by simp at h; subst h; rfl
  | a :: X, i + 1, h => by
    have := cnt_set (X := X) (i := i) (by simpa using h)
    cases a <;> simp only [List.set_cons_succ, cnt] <;> omega
theorem cnt_zero : ∀ {X : List Bool}, cnt X = 0 → ∀ i, i < X.length → Ls X i
  | [], _, i, h => by simp at h
  | true :: X, h0, 0, h => rfl
  | true :: X, h0, i + 1, h => by
    have := cnt_zero (X := X) h0 i (by simpa using h)
    simpa [Ls] using this
  | false :: X, h0, i, h => by simp [cnt] at h0
theorem cnt_rep (n : Nat) : cnt (List.replicate n false) = n := by
  induction n with
  | zero => rfl
  | succ n ih => simp only [List.replicate_succ, cnt, ih]
end

/-! ### The walk -/

section
variable {P : Program} {C : Ctx} {E : Env} {D : List Deferred × Nat} {ops : Array Oper} {Q : Exit → Act → World → Prop} {k : TS → HP → Prop}
  {X : List Bool} {R : List Nat} {t : TS} {h : HP} {L : List Bool} {tL : TS} {a : Act} {w : World}

/-- An operation may come up now and gives what is there already. -/
def Av (C : Ctx) (ops : Array Oper) (i : Nat) (t : TS) (h : HP) : Prop := ∃ o x, ops[i]? = some o ∧ opG C ops.toList o t h (kx o x h t) ∧ putF t o.dst x = t
/-- The walk's own state against a state of the run, in which some are still to come. -/
structure Jn (C : Ctx) (E : Env) (D : List Deferred × Nat) (ops : Array Oper) (X : List Bool) (R : List Nat) (t : TS) (h : HP) (L : List Bool) (tL : TS) (a : Act) (w : World) : Prop where
  lx : X.length = ops.size
  ll : L.length = ops.size
  cl : ∀ i o, Ls X i → ops[i]? = some o → ∀ e ∈ o.after, Region.binds .any e = true → Ls X e.on
  cL : ∀ i o, Ls L i → ops[i]? = some o → ∀ e ∈ o.after, Region.binds .any e = true → Ls L e.on
  sub : ∀ i, Ls L i → Ls X i
  av : ∀ i, Ls X i → ¬ Ls L i → (∀ h', Av C ops i t h') ∨ (i ∈ R ∧ Av C ops i t h)
  rel : Rel E D tL h a w
  eq : ∀ d, (∀ i o, Ls X i → ¬ Ls L i → ops[i]? = some o → o.dst ≠ some d) → tL.getD d .top = t.getD d .top
  len : tL.length = t.length

theorem putF_ne {t : TS} {d : Option Tmp} {x : AV} {j : Nat} (h : d ≠ some j) : (putF t d x).getD j .top = t.getD j .top := by
  cases d with
  | none => rfl
  | some i =>
    have : i ≠ j := fun he => h (he ▸ rfl)
    simp [putF, List.getD_eq_getElem?_getD, List.getElem?_set, this]
theorem putF_eq {t : TS} {x : AV} {j : Nat} (h : j < t.length) : (putF t (some j) x).getD j .top = x := by
  simp [putF, List.getD_eq_getElem?_getD, h]
theorem putF_at {t : TS} {x : AV} {j : Nat} (he : putF t (some j) x = t) (h : j < t.length) : t.getD j .top = x := by
  rw [← he]; exact putF_eq h
theorem putF_comm {t : TS} {d d' : Option Tmp} {x y : AV} (h : ∀ j, d = some j → d' ≠ some j) : putF (putF t d x) d' y = putF (putF t d' y) d x := by
  cases d with
  | none => rfl
  | some i => cases d' with
    | none => rfl
    | some j => exact List.set_comm _ _ (fun he => h i rfl (he ▸ rfl))
theorem putF_idem {t : TS} {d : Option Tmp} {x : AV} : putF (putF t d x) d x = putF t d x := by
  cases d with
  | none => rfl
  | some i => simp [putF]

/-- Another's answer makes no difference to one that was there before it. -/
theorem Av.put (hw : wfB ops.toList = true) {i m : Nat} {o om : Oper} {t : TS} {h : HP} {x : AV} (ho : ops[i]? = some o) (hm : ops[m]? = some om) (hno : ∀ e ∈ om.after, Region.binds .any e = true → e.on ≠ i) (hne : m ≠ i) (hA : Av C ops m t h) :
    Av C ops m (putF t o.dst x) h := by
  obtain ⟨om', y, hm', h1, h2⟩ := hA
  rw [hm] at hm'; cases hm'
  have hot : ops.toList[i]? = some o := by simpa using ho
  have hmt : ops.toList[m]? = some om := by simpa using hm
  have hag : Agr ops.toList om t (putF t o.dst x) := ⟨(putF_length _ _ _).symm, fun d hd => by
    refine (putF_ne fun hod => ?_).symm
    obtain ⟨e, he, hb, hon⟩ := wf_looks hw hmt hot hod hd
    exact hno e he hb hon⟩
  refine ⟨om, y, hm, opG_congr hag h1, ?_⟩
  rw [putF_comm (fun j hj => wf_dst hw hmt hot hj hne), h2]

theorem Jn.later (j : Jn C E D ops X R t h L tL a w) (hw : wfB ops.toList = true) {i : Nat} (hi : i ∈ readyL ops.toList X) {o : Oper} (ho : ops[i]? = some o) {x : AV} {R' : List Nat} (hR : ∀ r ∈ R, r ∈ R')
    (hav : (∀ h', opG C ops.toList o t h' (kx o x h' t)) ∨ (i ∈ R' ∧ opG C ops.toList o t h (kx o x h t))) :
    Jn C E D ops (X.set i true) R' (putF t o.dst x) h L tL a w := by
  obtain ⟨r1, r2, o', ho', r3⟩ := mem_readyL.1 hi
  have hot : ops.toList[i]? = some o := by simpa using ho
  rw [hot] at ho'; cases ho'
  have hix : i < X.length := by rw [j.lx]; simpa using r1
  have hag : Agr ops.toList o t (putF t o.dst x) := ⟨(putF_length _ _ _).symm, fun d hd => by
    refine (putF_ne fun hod => ?_).symm
    obtain ⟨e, he, hb, hon⟩ := wf_looks hw hot hot hod hd
    have := wf_after hw hot he hb
    omega⟩
  refine ⟨by simpa using j.lx, j.ll, fun m om hm hom e he hb => ?_, j.cL, fun m hm => (ls_set hix m).2 (.inl (j.sub m hm)), fun m hm hnl => ?_, j.rel, fun d hd => ?_, by rw [putF_length]; exact j.len⟩
  · rw [ls_set hix] at hm ⊢
    rcases hm with hm | rfl
    · exact .inl (j.cl m om hm hom e he hb)
    · rw [ho] at hom; cases hom; exact .inl (r3 e he hb)
  · rw [ls_set hix] at hm
    rcases hm with hm | rfl
    · have hne : m ≠ i := fun he => ready_ls hi (he ▸ hm)
      have hml : m < ops.size := by
        have := (List.getElem?_eq_some_iff.1 hm).1
        rw [j.lx] at this
        exact this
      have hom : ops[m]? = some ops[m] := Array.getElem?_eq_getElem hml
      have hno : ∀ e ∈ (ops[m]).after, Region.binds .any e = true → e.on ≠ i := fun e he hb hon => ready_ls hi (hon ▸ j.cl m _ hm hom e he hb)
      rcases j.av m hm hnl with h1 | ⟨h1, h2⟩
      · exact .inl fun h' => (h1 h').put hw ho hom hno hne
      · exact .inr ⟨hR m h1, h2.put hw ho hom hno hne⟩
    · rcases hav with h1 | ⟨h1, h2⟩
      · exact .inl fun h' => ⟨o, x, ho, opG_congr hag (h1 h'), putF_idem⟩
      · exact .inr ⟨h1, o, x, ho, opG_congr hag h2, putF_idem⟩
  · rw [j.eq d (fun m om hm hnl hom => hd m om ((ls_set hix m).2 (.inl hm)) hnl hom)]
    refine (putF_ne ?_).symm
    refine hd i o ((ls_set hix i).2 (.inr rfl)) (fun hl => ready_ls hi (j.sub i hl)) ho

/-- What an operation that may come up looks at is as the walk has it. -/
theorem Jn.agr (j : Jn C E D ops X R t h L tL a w) (hw : wfB ops.toList = true) {i : Nat} (hi : i ∈ readyL ops.toList L) {o : Oper} (ho : ops[i]? = some o) : Agr ops.toList o t tL := by
  have hot : ops.toList[i]? = some o := by simpa using ho
  refine ⟨j.len.symm, fun d hd => (j.eq d fun m om hm hnl hom hod => ?_).symm⟩
  obtain ⟨e, he, hb, hon⟩ := wf_looks hw hot (by simpa using hom) hod hd
  obtain ⟨_, _, o', ho', r3⟩ := mem_readyL.1 hi
  rw [hot] at ho'; cases ho'
  exact hnl (hon ▸ r3 e he hb)
theorem Jn.ready (j : Jn C E D ops X R t h L tL a w) {i : Nat} (hi : i ∈ readyL ops.toList L) (hx : ¬ Ls X i) : i ∈ readyL ops.toList X := by
  obtain ⟨r1, r2, o, ho, r3⟩ := mem_readyL.1 hi
  refine mem_readyL.2 ⟨r1, ?_, o, ho, fun e he hb => j.sub _ (r3 e he hb)⟩
  have : i < X.length := by rw [j.lx]; simpa using r1
  rw [List.getD_eq_getElem?_getD, List.getElem?_eq_getElem this]
  unfold Ls at hx
  rw [List.getElem?_eq_getElem this] at hx
  simpa using hx
theorem Jn.done (j : Jn C E D ops X R t h L tL a w) (hw : wfB ops.toList = true) (hr : readyL ops.toList L = []) : ∀ i, Ls X i → Ls L i := by
  intro i
  induction i using Nat.strongRecOn with
  | _ i ih =>
    intro hi
    apply Classical.byContradiction
    intro hnl
    have hil : i < ops.size := by
      have := (List.getElem?_eq_some_iff.1 hi).1
      rw [j.lx] at this
      exact this
    have hoi : ops[i]? = some ops[i] := Array.getElem?_eq_getElem hil
    have hot : ops.toList[i]? = some ops[i] := by rw [Array.getElem?_toList]; exact hoi
    have : i ∈ readyL ops.toList L := by
      refine mem_readyL.2 ⟨by simpa using hil, ?_, ops[i], hot, fun e he hb => ih _ (wf_after hw hot he hb) (j.cl i _ hi hoi e he hb)⟩
      have hlt : i < L.length := by rw [j.ll]; exact hil
      rw [List.getD_eq_getElem?_getD, List.getElem?_eq_getElem hlt]
      unfold Ls at hnl
      rw [List.getElem?_eq_getElem hlt] at hnl
      simpa using hnl
    rw [hr] at this
    cases this

theorem markA_sub {o : Oper} {L : List Bool} (ho : ∀ e ∈ o.after, Region.binds .any e = true → Ls L e.on) : ∀ {M : List Bool}, (∀ i, Ls M i → Ls L i) → ∀ i, Ls (markA o M) i → Ls L i := by
  unfold markA
  have ho : ∀ e ∈ o.after.toList, Region.binds .any e = true → Ls L e.on := fun e he => ho e (by simpa using he)
  generalize o.after.toList = es at ho
  induction es with
  | nil => intro M hM; exact hM
  | cons e es ih =>
    intro M hM
    rw [List.foldl_cons]
    refine ih (fun e he => ho e (List.mem_cons_of_mem _ he)) fun i hi => ?_
    split at hi
    · rename_i hb
      by_cases h : e.on = i
      · exact h ▸ ho e List.mem_cons_self hb
      · unfold Ls at hi
        rw [List.getElem?_set_ne h] at hi
        exact hM i hi
    · exact hM i hi
theorem ancs_sub {L : List Bool} (hL : ∀ i o, Ls L i → ops[i]? = some o → ∀ e ∈ o.after, Region.binds .any e = true → Ls L e.on) : ∀ (j : Nat) {M : List Bool}, (∀ i, Ls M i → Ls L i) → ∀ i, Ls (ancs ops j M) i → Ls L i
  | 0, M, hM => hM
  | j + 1, M, hM => by
    simp only [ancs]
    refine ancs_sub hL j ?_
    split
    · rename_i o hj ho
      refine markA_sub (hL j o (hM j ?_) ho) hM
      unfold Ls
      rw [List.getD_eq_getElem?_getD] at hj
      cases hq : M[j]? with
      | none => rw [hq] at hj; cases hj
      | some b => rw [hq] at hj; simp at hj; rw [hj]
    · exact hM
theorem nonAnc_mem {o : Oper} {L : List Bool} {m q : Nat} {R : List Nat} (ho : ∀ e ∈ o.after, Region.binds .any e = true → Ls L e.on) (hL : ∀ i o, Ls L i → ops[i]? = some o → ∀ e ∈ o.after, Region.binds .any e = true → Ls L e.on) (hq : q ∈ R) (hn : ¬ Ls L q) : q ∈ nonAnc ops m o R := by
  refine List.mem_filter.2 ⟨hq, ?_⟩
  rw [Bool.not_eq_true']
  cases hb : (ancs ops m (markA o (List.replicate m false))).getD q false with
  | false => rfl
  | true =>
    refine absurd (ancs_sub hL m (M := markA o (List.replicate m false)) (markA_sub (M := List.replicate m false) ho fun i hi => ?_) q ?_) hn
    · unfold Ls at hi
      rw [List.getElem?_replicate] at hi
      split at hi <;> simp at hi
    · unfold Ls
      rw [List.getD_eq_getElem?_getD] at hb
      cases hq : (ancs ops m (markA o (List.replicate m false)))[q]? with
      | none => rw [hq] at hb; cases hb
      | some b => rw [hq] at hb; simp at hb; rw [hb]
/-- As long as nothing comes up that the walk has not taken. -/
theorem held_stay (hC : CtxOk P C) (hpan : PanOk E D C Q) (hw : wfB ops.toList = true) {X : List Bool} {R : List Nat} {t : TS} {h : HP}
    (hex : ∀ g L tL a w, Jn C E D ops X R t h L tL a w → ∀ i ∈ readyL ops.toList L, ¬ Ls X i → cnt L ≤ g + 1 → wpOp P ops Q i (wpAny P .any ops Q g (L.set i true).toArray) a w)
    (hend : ∀ L tL a w, Jn C E D ops X R t h L tL a w → readyL ops.toList L = [] → Q .normal a w) :
    ∀ g L tL a w, Jn C E D ops X R t h L tL a w → cnt L ≤ g → wpAny P .any ops Q g L.toArray a w := by
  intro g
  induction g with
  | zero =>
    intro L tL a w j hc
    have hr : readyL ops.toList L = [] := by
      rw [List.eq_nil_iff_forall_not_mem]
      intro i hi
      exact ready_ls hi (cnt_zero (by omega) i (by rw [j.ll]; simpa using (mem_readyL.1 hi).1))
    simp only [wpAny, readyL_eq]
    exact ⟨hr, hend _ _ _ _ j hr⟩
  | succ g ih =>
    intro L tL a w j hc
    simp only [wpAny, readyL_eq]
    refine ⟨fun hr => hend _ _ _ _ j hr, fun i hi => ?_⟩
    have hset : L.toArray.setIfInBounds i true = (L.set i true).toArray := by simp
    rw [hset]
    by_cases hx : Ls X i
    · obtain ⟨r1, r2, o', ho', r3⟩ := mem_readyL.1 hi
      have hil : i < L.length := by rw [j.ll]; simpa using r1
      have hLi : L[i]? = some false := by
        rw [List.getElem?_eq_getElem hil]
        rw [List.getD_eq_getElem?_getD, List.getElem?_eq_getElem hil] at r2
        simpa using r2
      have hA : Av C ops i t h := (j.av i hx (ready_ls hi)).elim (fun h1 => h1 h) (fun h1 => h1.2)
      obtain ⟨o, x, ho, h1, h2⟩ := hA
      refine opG_sound hC hpan ho (opG_congr (j.agr hw hi ho) h1) j.rel fun t' h' a' w' hk hr => ?_
      obtain ⟨rfl, rfl⟩ := hk
      refine ih _ (putF tL o.dst x) _ _ ⟨j.lx, by simpa using j.ll, j.cl, fun m om hm hom e he hb => ?_, fun m hm => ?_, fun m hm hnl => j.av m hm fun hl => hnl ((ls_set hil m).2 (.inl hl)), hr, fun d hd => ?_, by rw [putF_length]; exact j.len⟩ (by have := cnt_set hLi; omega)
      · rw [ls_set hil] at hm ⊢
        rcases hm with hm | rfl
        · exact .inl (j.cL m om hm hom e he hb)
        · have hot : ops.toList[m]? = some om := by rw [Array.getElem?_toList]; exact hom
          rw [hot] at ho'; cases ho'
          exact .inl (r3 e he hb)
      · rcases (ls_set hil m).1 hm with hm | rfl
        · exact j.sub m hm
        · exact hx
      · by_cases hod : o.dst = some d
        · by_cases hlt : d < t.length
          · rw [hod, putF_eq (by rw [j.len]; exact hlt)]
            rw [hod] at h2
            exact (putF_at h2 hlt).symm
          · rw [List.getD_eq_getElem?_getD, List.getElem?_eq_none (by rw [putF_length, j.len]; exact Nat.le_of_not_lt hlt), List.getD_eq_getElem?_getD, List.getElem?_eq_none (Nat.le_of_not_lt hlt)]
        · rw [putF_ne hod]
          refine j.eq d fun m om hm hnl hom => ?_
          by_cases hmi : m = i
          · subst hmi; rw [ho] at hom; cases hom; exact hod
          · exact hd m om hm (fun hl => by rcases (ls_set hil m).1 hl with hl | hl; exact hnl hl; exact hmi hl) hom
    · exact hex g L tL a w j i hi hx hc

theorem pickFl_spec {t : TS} {h : HP} : ∀ {rs : List Nat} {i n : Nat}, pickFl C ops t h rs = some (i, n) → i ∈ rs ∧ ∃ o, ops[i]? = some o ∧ flK C ops.toList t h o = n + 1
  | [], i, n, hp => by cases hp
  | r :: rs, i, n, hp => by
    unfold pickFl at hp
    split at hp
    · rename_i o ho
      split at hp
      · obtain ⟨h1, h2⟩ := pickFl_spec hp; exact ⟨List.mem_cons_of_mem _ h1, h2⟩
      · rename_i m hm
        cases hp
        exact ⟨List.mem_cons_self, o, ho, hm⟩
    · obtain ⟨h1, h2⟩ := pickFl_spec hp; exact ⟨List.mem_cons_of_mem _ h1, h2⟩
theorem reevL_spec {t : TS} {h : HP} {p : Prop} : ∀ {R : List Nat}, reevL C ops R t h p → p ∧ ∀ i ∈ R, ∃ o, ops[i]? = some o ∧ opP C o t h fun t' h' => t' = t ∧ h' = h
  | [], hp => ⟨hp, by simp⟩
  | i :: R, hp => by
    obtain ⟨h1, h2⟩ := hp
    obtain ⟨h3, h4⟩ := reevL_spec h2
    obtain ⟨o, ho, h5⟩ := on_spec h1
    refine ⟨h3, fun m hm => ?_⟩
    rcases List.mem_cons.1 hm with rfl | hm
    · exact ⟨o, ho, h5⟩
    · exact h4 m hm

theorem allL_memH {α : Type} {k : α → Prop} : ∀ {l : List α}, allL l k → ∀ a ∈ l, k a
  | [], _, a, ha => by cases ha
  | [x], h, a, ha => by rcases List.mem_cons.1 ha with rfl | ha; exact h; cases ha
  | x :: y :: l, h, a, ha => by
    rcases List.mem_cons.1 ha with rfl | ha
    · exact h.1
    · exact allL_memH (l := y :: l) h.2 a ha

theorem heldW_sound (hC : CtxOk P C) (hpan : PanOk E D C Q) (hw : wfB ops.toList = true) (hQ : ∀ t h a w, k t h → Rel E D t h a w → Q .normal a w) : ∀ (f : Nat) (X : List Bool) (R : List Nat) (t : TS) (h : HP), heldW C ops f X R t h k →
    ∀ g L tL a w, Jn C E D ops X R t h L tL a w → cnt L ≤ g → wpAny P .any ops Q g L.toArray a w := by
  have fin : ∀ X R t h, readyL ops.toList X = [] → k t h → ∀ g L tL a w, Jn C E D ops X R t h L tL a w → cnt L ≤ g → wpAny P .any ops Q g L.toArray a w := by
    intro X R t h hX hk
    refine held_stay hC hpan hw (fun g L tL a w j i hi hx _ => ?_) (fun L tL a w j hr => ?_)
    · have := j.ready hi hx
      rw [hX] at this
      cases this
    · have hd := j.done hw hr
      have : tL = t := by
        apply List.ext_getElem?
        intro d
        have h1 := j.eq d (fun i o h1 h2 => absurd (hd i h1) h2)
        rw [List.getD_eq_getElem?_getD, List.getD_eq_getElem?_getD] at h1
        have hl := j.len
        by_cases hlt : d < t.length
        · rw [List.getElem?_eq_getElem (by omega), List.getElem?_eq_getElem hlt] at h1 ⊢
          simpa using h1
        · rw [List.getElem?_eq_none (by omega), List.getElem?_eq_none (by omega)]
      exact hQ _ _ _ _ (this ▸ hk) (by have := j.rel; subst tL; exact this)
  intro f
  induction f with
  | zero => exact fun X R t h hp => fin X R t h hp.1 hp.2
  | succ f ih =>
    intro X R t h hp
    simp only [heldW] at hp
    split at hp
    · rename_i hX
      exact fin X R t h hX hp
    · rename_i rs hne
      split at hp
      · rename_i i hpk
        obtain ⟨hi, o, ho, hf⟩ := pickFl_spec hpk
        rw [ho] at hp
        obtain ⟨x, h1, h2, h3⟩ := flG_spec hf (.inl rfl) hp
        intro g L tL a w j hc
        exact ih _ _ _ _ h1 g L tL a w (j.later hw hi ho (fun _ h => h) (.inl (h3 rfl))) hc
      · rename_i i hpk
        obtain ⟨hi, o, ho, hf⟩ := pickFl_spec hpk
        rw [ho] at hp
        obtain ⟨x, h1, h2, h3⟩ := flG_spec hf (.inr rfl) hp
        intro g L tL a w j hc
        exact ih _ _ _ _ h1 g L tL a w (j.later hw hi ho (fun _ h => List.mem_cons_of_mem _ h) (.inr ⟨List.mem_cons_self, h2⟩)) hc
      · rename_i i m _ _ hpk
        obtain ⟨hi, o, ho, hf⟩ := pickFl_spec hpk
        rw [ho] at hp
        simp only [on] at hp
        split at hp
        · rename_i hon
          obtain ⟨x, h1, h2⟩ := hp
          rw [putK_eq, splitG_iff] at h2
          intro g L tL a w j hc
          exact ih _ _ _ _ h2 g L tL a w (j.later hw hi ho (fun _ h => List.mem_cons_of_mem _ h) (.inr ⟨List.mem_cons_self, opG_on hon h1⟩)) hc
        · exact hp.elim
      · rename_i hnone
        have hall := fun i (hi : i ∈ readyL ops.toList X) => allL_memH hp i hi
        obtain ⟨i0, hi0⟩ : ∃ i, i ∈ readyL ops.toList X := by
          cases hq : readyL ops.toList X with
          | nil => exact absurd hq hne
          | cons a l => exact ⟨a, List.mem_cons_self⟩
        clear hp
        refine held_stay hC hpan hw (fun g L tL a w j m hm hx hc => ?_) (fun L tL a w j hr => ?_)
        · have hmi := j.ready hm hx
          obtain ⟨o, ho, hp⟩ := on_spec (hall m hmi)
          split at hp
          · rename_i hon
            obtain ⟨Res, h1, hp⟩ : ∃ Res : AV → HP → Prop, (∀ s : TS, Agr ops.toList o t s → opP C o s h (kr o Res s)) ∧ ∀ x h2, Res x h2 → (putK t o.dst x fun t => splitG ops.toList o.dst t fun t => reevL C ops (nonAnc ops m o R) t h2 (heldW C ops f (X.set m true) (nonAnc ops m o R) t h2 k)) := by
              rcases hp with ⟨x, h2, h1, hp⟩ | ⟨Res, h1, hp⟩
              · refine ⟨fun y h' => y = x ∧ h' = h2, fun s hag => ?_, fun y h' hy => by obtain ⟨rfl, rfl⟩ := hy; exact hp⟩
                have h1 : opP C o t h (kx o x h2 t) := h1
                rw [opP_congrK (k2 := kr o (fun y h' => y = x ∧ h' = h2) s) hag.op (fun z h' => by
                  rw [putK_eq, putK_eq, kx_congr hag.1]
                  unfold kx kr
                  exact propext ⟨fun ⟨a1, a2⟩ => ⟨x, h2, ⟨rfl, rfl⟩, a1, a2⟩, fun ⟨_, _, ⟨a0, a0'⟩, a1, a2⟩ => ⟨a0 ▸ a1, a2.trans a0'⟩⟩)] at h1
                exact h1
              · refine ⟨Res, fun s hag => ?_, hp⟩
                have h1 : opP C o t h (kr o Res t) := h1
                rwa [opP_congrR hag.1 hag.op] at h1
            obtain ⟨r1, r2, o', ho', r3⟩ := mem_readyL.1 hmi
            have hot : ops.toList[m]? = some o := by simpa using ho
            rw [hot] at ho'; cases ho'
            have hil : m < L.length := by rw [j.ll]; simpa using r1
            have hix : m < X.length := by rw [j.lx]; simpa using r1
            have hLi : L[m]? = some false := by
              have := (mem_readyL.1 hm).2.1
              rw [List.getElem?_eq_getElem hil]
              rw [List.getD_eq_getElem?_getD, List.getElem?_eq_getElem hil] at this
              simpa using this
            have hL3 : ∀ e ∈ o.after, Region.binds .any e = true → Ls L e.on := by
              obtain ⟨_, _, o', ho', q3⟩ := mem_readyL.1 hm
              rw [hot] at ho'; cases ho'
              exact q3
            refine opG_sound hC hpan ho (opG_on ((j.agr hw hm ho).gOn ▸ hon) (h1 tL (j.agr hw hm ho))) j.rel fun t' h' a' w' hk hr => ?_
            obtain ⟨x, h2, hres, rfl, rfl⟩ := hk
            have hp := hp x _ hres
            rw [putK_eq, splitG_iff] at hp
            obtain ⟨hp, hre⟩ := reevL_spec hp
            refine ih _ _ _ _ hp g _ (putF tL o.dst x) _ _ ⟨by simpa using j.lx, by simpa using j.ll, fun q oq hq hoq e he hb => ?_, fun q oq hq hoq e he hb => ?_, fun q hq => ?_, fun q hq hnl => ?_, hr, fun d hd => ?_, by rw [putF_length, putF_length]; exact j.len⟩ (by have := cnt_set hLi; omega)
            · rw [ls_set hix] at hq ⊢
              rcases hq with hq | rfl
              · exact .inl (j.cl q oq hq hoq e he hb)
              · rw [ho] at hoq; cases hoq; exact .inl (r3 e he hb)
            · rw [ls_set hil] at hq ⊢
              rcases hq with hq | rfl
              · exact .inl (j.cL q oq hq hoq e he hb)
              · rw [ho] at hoq; cases hoq; exact .inl (hL3 e he hb)
            · rw [ls_set hil] at hq
              rw [ls_set hix]
              exact hq.imp (j.sub q) id
            · rw [ls_set hix] at hq
              rw [ls_set hil] at hnl
              have hqm : q ≠ m := fun he => hnl (.inr he)
              have hq : Ls X q := hq.resolve_right hqm
              have hql : q < ops.size := by
                have := (List.getElem?_eq_some_iff.1 hq).1
                rw [j.lx] at this
                exact this
              have hoq : ops[q]? = some ops[q] := Array.getElem?_eq_getElem hql
              have hno : ∀ e ∈ (ops[q]).after, Region.binds .any e = true → e.on ≠ m := fun e he hb hon => ready_ls hmi (hon ▸ j.cl q _ hq hoq e he hb)
              rcases j.av q hq (fun h => hnl (.inl h)) with h3 | ⟨h3, h4⟩
              · exact .inl fun h' => (h3 h').put hw ho hoq hno hqm
              · have h3 : q ∈ nonAnc ops m o R := nonAnc_mem hL3 j.cL h3 (fun h => hnl (.inl h))
                refine .inr ⟨h3, ?_⟩
                obtain ⟨oq, hoq', h5⟩ := hre q h3
                obtain ⟨oq', y, hoq'', h6, h7⟩ := h4.put (x := x) hw ho hoq hno hqm
                rw [hoq'] at hoq''; cases hoq''
                refine ⟨oq, y, hoq', ?_, h7⟩
                have e5 : ∀ h2, (kx oq y h2 (putF t o.dst x)) = (fun t' h' => t' = putF t o.dst x ∧ h' = h2) := fun h2 => by funext t' h'; unfold kx; rw [h7]
                rcases opG_cases h6 with ⟨h8, _, _⟩ | ⟨h8, h9⟩
                · exact opG_on h8 (by rw [e5]; exact h5)
                · exact opG_off h8 (by rw [e5] at h9 ⊢; exact ⟨h9.1, rfl⟩)
            · by_cases hod : o.dst = some d
              · rw [hod]
                by_cases hlt : d < t.length
                · rw [putF_eq hlt, putF_eq (by rw [j.len]; exact hlt)]
                · rw [List.getD_eq_getElem?_getD, List.getElem?_eq_none (by rw [putF_length, j.len]; exact Nat.le_of_not_lt hlt), List.getD_eq_getElem?_getD, List.getElem?_eq_none (by rw [putF_length]; exact Nat.le_of_not_lt hlt)]
              · rw [putF_ne hod, putF_ne hod]
                refine j.eq d fun q oq hq hnl hoq => hd q oq ((ls_set hix q).2 (.inl hq)) (fun hl => ?_) hoq
                rcases (ls_set hil q).1 hl with hl | rfl
                · exact hnl hl
                · exact hx hq
          · exact hp.elim
        · obtain ⟨r1, r2, o, hot, r3⟩ := mem_readyL.1 hi0
          have hd := j.done hw hr
          have hil : i0 ∈ readyL ops.toList L := by
            refine mem_readyL.2 ⟨r1, ?_, o, hot, fun e he hb => hd _ (r3 e he hb)⟩
            have hlt : i0 < L.length := by rw [j.ll]; simpa using r1
            rw [List.getD_eq_getElem?_getD, List.getElem?_eq_getElem hlt]
            have : ¬ Ls L i0 := fun h => ready_ls hi0 (j.sub i0 h)
            unfold Ls at this
            rw [List.getElem?_eq_getElem hlt] at this
            simpa using this
          rw [hr] at hil
          cases hil

theorem openH_spec : ∀ (rs : List Nat) {t : TS} {h : HP} {a : Act} {w : World} {k : HP → Prop}, Rel E D t h a w → openH rs h k → ∃ h', k h' ∧ Rel E D t h' a w
  | [], t, h, a, w, k, hr, hp => ⟨h, hp, hr⟩
  | r :: rs, t, h, a, w, k, hr, hp => by
    unfold openH at hp
    split at hp
    · rename_i cells hroot
      split at hp
      · rename_i hany
        obtain ⟨x, rts, hp, hO⟩ := outK_spec _ _ _ hp
        rw [setK_eq] at hp
        obtain ⟨G, S, F, hg, ht, hd⟩ := hr
        have hrl := (List.getElem?_eq_some_iff.1 hroot).1
        have hrG : r < G.length := by rw [hg.len]; exact hrl
        have hgr : G[r]? = some G[r] := List.getElem?_eq_getElem hrG
        have hpos : 0 < cells.length := by cases cells <;> simp at hany ⊢
        obtain ⟨G', F', b, ca, T, a1, a2, _⟩ := hg.outSeg (pre := []) (post := []) (rt' := .box x) hO rfl hroot hgr (by simp [Flat]) (by simpa using hpos) trivial (by simp [Flat])
        exact openH_spec rs ⟨G', S, F', a1, ht.ext (hg.ext_none (Chg.refl w _) a2), hd⟩ hp
      · exact openH_spec rs hr hp
    · exact openH_spec rs hr hp

theorem heldP_sound (hC : CtxOk P C) (hpan : PanOk E D C Q) (hQ : ∀ t h a w, k t h → Rel E D t h a w → Q .normal a w) {t : TS} {h : HP} {a : Act} {w : World} (hp : heldP C ops t h k) (hr : Rel E D t h a w) :
    wpAny P .any ops Q ops.toList.length (List.replicate ops.toList.length false).toArray a w := by
  obtain ⟨hw, hp⟩ := hp
  obtain ⟨h', hp, hr⟩ := openH_spec _ hr hp
  refine heldW_sound hC hpan hw hQ _ _ _ _ _ hp _ _ t a w ⟨by simp, by simp, fun i o hi => ?_, fun i o hi => ?_, fun i hi => hi, fun i hi => ?_, hr, fun d _ => rfl, rfl⟩ (by rw [cnt_rep]; exact Nat.le_refl _)
  · exact absurd hi (by unfold Ls; rw [List.getElem?_replicate]; split <;> simp)
  · exact absurd hi (by unfold Ls; rw [List.getElem?_replicate]; split <;> simp)
  · exact absurd hi (by unfold Ls; rw [List.getElem?_replicate]; split <;> simp)
end
end Go.Proofs.Ytegcfogbdgmajaa.Ab
