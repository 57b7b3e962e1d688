/- The abstract machine is sound: what it asks of a piece of code makes the model's code run so. No condition. -/
import Derived.Test.YtegcfogbdgmajaaAbCan
namespace Go.Proofs.Ytegcfogbdgmajaa.Ab
set_option linter.unusedVariables false
set_option linter.unusedSimpArgs false

section
variable {P : Program} {C : Ctx} {E : Env} {D : List Deferred × Nat} {t : TS} {h : HP} {a : Act} {w : World} {Q : Exit → Act → World → Prop}

theorem s_call {o : Oper} {c : Call} (hC : CtxOk P C) (ho : o.op = .call c) : OpS P C o := by
  intro E D t h a w k next Q hp hr hpan hc
  have hp0 := hp
  unfold opP at hp
  simp only [ho, mapK_ev] at hp
  split at hp
  · rename_i f hcal; exact s_callv hC ho hcal E D t h a w k next Q hp0 hr hpan hc
  · rename_i hcal; exact (q_len hC ho hcal).toS E D t h a w k next Q hp0 hr hpan hc
  · rename_i hcal; exact s_append hC ho hcal E D t h a w k next Q hp0 hr hpan hc
  · rename_i hcal; exact s_copy hC ho hcal E D t h a w k next Q hp0 hr hpan hc
  · rename_i hcal; exact s_clear hC ho hcal E D t h a w k next Q hp0 hr hpan hc
  · rename_i hcal; exact (q_minmax ho (.inl hcal)).toS E D t h a w k next Q hp0 hr hpan hc
  · rename_i hcal; exact (q_minmax ho (.inr hcal)).toS E D t h a w k next Q hp0 hr hpan hc
  · exact hp.elim

theorem opP_sound (hC : CtxOk P C) (o : Oper) : OpS P C o := by
  have no : (∀ t h k, ¬ opP C o t h k) → OpS P C o := fun hn E D t h a w k next Q hp _ _ _ => (hn _ _ _ hp).elim
  cases ho : o.op with
  | move x => exact (q_move ho).toS
  | assign x => exact (q_assign hC ho).toS
  | pick c x y => exact (q_pick ho).toS
  | alloc ty => exact s_alloc hC ho
  | box ty x => exact s_box hC ho
  | load ty x => exact (q_load hC ho).toS
  | store ty x y => exact s_store hC ho
  | nilCheck x => exact (q_nilCheck ho).toS
  | fieldAddr ty x n => exact (q_fieldAddr hC ho).toS
  | indexAddr ty x y => exact (q_indexAddr hC ho).toS
  | binOp op ty x y ty' => exact (q_binOp hC ho).toS
  | unOp op ty x => exact (q_unOp ho).toS
  | convert s d x =>
    cases hd : C.tab d with
    | none => exact no (fun t h k hp => by unfold opP at hp; simp only [ho] at hp; obtain ⟨_, _, hp⟩ := on_spec hp; rw [hd] at hp; exact hp)
    | some i =>
      by_cases hk : ∃ e es, i.kind = .slice e es
      · obtain ⟨e, es, hk⟩ := hk; exact s_convertS hC ho hd hk
      · exact (q_convert hC ho (fun i' e es hi' hk' => by rw [hd] at hi'; cases hi'; exact hk ⟨e, es, hk'⟩)).toS
  | extract x n => exact (q_extract ho).toS
  | build ty ps => exact (q_build hC ho).toS
  | buildSlice ty n ps => exact s_buildSlice hC ho
  | makeSlice ty x y => exact s_makeSlice hC ho
  | makeFunc f x y => exact (q_makeFunc ho).toS
  | makeMap ty r => exact s_makeMap hC ho
  | slice ty x lo hi mx => exact (q_slice hC ho).toS
  | sliceToArrayPointer ty x => exact (q_s2ap hC ho).toS
  | index ty x y => exact (q_index hC ho).toS
  | lookup ty x y b => exact (q_lookup hC ho).toS
  | mapUpdate ty x y z => exact s_mapUpd hC (.inl ho)
  | insert ty x y z => exact s_mapUpd hC (.inr ho)
  | makeInterface ty x => exact s_makeInterface hC ho
  | panic x => exact s_panic ho
  | call c => exact s_call hC ho
  | _ => exact no (fun t h k hp => by unfold opP at hp; simp only [ho] at hp)

/-- What follows a panic is as it is asked for. -/
def PanOk (E : Env) (D : List Deferred × Nat) (C : Ctx) (Q : Exit → Act → World → Prop) : Prop := ∀ v t h a w, C.pan v h → Rel E D t h a w → Q (.panic [{ v, recovered := false }]) a w

theorem TR.set {G w Ro S} (ht : TR G w Ro S t a) {i : Nat} {x : AV} (hx : VR G w Ro S x (a.tmps.getD i undef)) : TR G w Ro S (t.set i x) a := by
  refine ⟨by simpa using ht.1, fun j => ?_⟩
  rw [List.getD_eq_getElem?_getD, List.getElem?_set]
  split
  · rename_i hij
    subst hij
    split
    · exact hx
    · exact .top _
  · have := ht.2 j
    rwa [List.getD_eq_getElem?_getD] at this

theorem splitG_spec {all : List Oper} {d : Option Tmp} {k : TS → Prop} (hr : Rel E D t h a w) (hp : splitG all d t k) : ∃ t', k t' ∧ Rel E D t' h a w := by
  unfold splitG at hp
  split at hp
  · rename_i i
    split at hp
    · simp only [getK_eq] at hp
      split at hp
      · rename_i b hb
        obtain ⟨G, S, F, hg, ht, hd⟩ := hr
        have hv := ht.2 i
        rw [hb] at hv
        cases b with
        | true =>
          have := hp.1 rfl
          rw [setK_eq] at this
          exact ⟨_, this, G, S, F, hg, ht.set hv, hd⟩
        | false =>
          have := hp.2 rfl
          rw [setK_eq] at this
          exact ⟨_, this, G, S, F, hg, ht.set hv, hd⟩
      · exact ⟨t, hp, hr⟩
    · exact ⟨t, hp, hr⟩
  · exact ⟨t, hp, hr⟩

theorem opG_sound (hC : CtxOk P C) (hpan : PanOk E D C Q) {ops : Array Oper} {i : Nat} {o : Oper} (ho : ops[i]? = some o) {k : TS → HP → Prop} {K : Act → World → Prop} (hp : opG C ops.toList o t h k) (hr : Rel E D t h a w)
    (hK : ∀ t h a w, k t h → Rel E D t h a w → K a w) : wpOp P ops Q i K a w := by
  have go : ∀ {t a}, Rel E D t h a w → (opP C o t h fun t h => splitG ops.toList o.dst t fun t => k t h) → o.wp P a w K Q := fun hr hp =>
    opP_sound hC o _ _ _ _ _ _ _ _ _ hp hr hpan (fun t' h' a' w' hs hr' => by
      obtain ⟨t'', h1, h2⟩ := splitG_spec hr' hs
      exact hK _ _ _ _ h1 h2)
  unfold wpOp
  simp only [ho]
  unfold opG at hp
  split at hp
  · rename_i hgd
    rw [if_pos (by simp [Region.wanted, hgd])]
    exact .inl (go hr hp)
  · rename_i j want hgd
    obtain ⟨d, hd, hp⟩ := on_spec hp
    simp only [getK_eq] at hp
    split at hp
    · rename_i b hb
      obtain ⟨G, S, F, hg, ht, hdf⟩ := hr
      have hv := ht.2 d
      rw [hb] at hv
      have hv := hv.v_inv.1
      have hy : yielded ops a.tmps j = some b := by
        unfold yielded
        rw [← Array.getElem?_toList, hd]
        rw [Array.getD_eq_getD_getElem?] at hv
        cases hq : a.tmps[d]? with
        | none => rw [hq] at hv; simp [undef] at hv
        | some q => rw [hq] at hv; simp at hv; subst hv; simp [hq]
      split at hp
      · rename_i hbw
        have hbw : b = want := by simpa using hbw
        rw [if_pos (by simp [Region.wanted, hgd, hy, hbw])]
        exact .inl (go ⟨G, S, F, hg, ht, hdf⟩ hp)
      · rename_i hbw
        have hbw : ¬ b = want := by simpa using hbw
        rw [if_neg (by simp [Region.wanted, hgd, hy, hbw])]
        obtain ⟨t', h1, h2⟩ := putK_spec ht (VR.tup [] [] rfl (by simp)) hp
        exact hK _ _ _ _ h1 ⟨G, S, F, hg, h2, hdf.put _ _⟩
    · rename_i l hb
      obtain ⟨G, S, F, hg, ht, hdf⟩ := hr
      have hv := ht.2 d
      rw [hb] at hv
      obtain ⟨vs, hv, _⟩ := hv.tup_inv
      have hy : yielded ops a.tmps j = none := by
        unfold yielded
        rw [← Array.getElem?_toList, hd]
        rw [Array.getD_eq_getD_getElem?] at hv
        cases hq : a.tmps[d]? with
        | none => simp [hq]
        | some q => rw [hq] at hv; simp at hv; subst hv; simp [hq]
      rw [if_neg (by simp [Region.wanted, hgd, hy])]
      obtain ⟨t', h1, h2⟩ := putK_spec ht (VR.tup [] [] rfl (by simp)) hp
      exact hK _ _ _ _ h1 ⟨G, S, F, hg, h2, hdf.put _ _⟩
    · exact hp.elim

theorem opsP_sound (hC : CtxOk P C) (hpan : PanOk E D C Q) {ops : Array Oper} {k : TS → HP → Prop} (hQ : ∀ t h a w, k t h → Rel E D t h a w → Q .normal a w) : ∀ (r : List Oper) (i : Nat) (t : TS) (h : HP) (a : Act) (w : World), ops.toList.drop i = r →
    opsP C ops.toList r t h k → Rel E D t h a w → wpOps P ops Q (List.range' i r.length) a w
  | [], i, t, h, a, w, _, hp, hr => by simpa [wpOps] using hQ _ _ _ _ hp hr
  | o :: r, i, t, h, a, w, hd, hp, hr => by
    have ho : ops[i]? = some o := by
      have : ops.toList[i]? = some o := by
        have h1 := List.getElem?_drop (xs := ops.toList) (i := i) (j := 0)
        rw [hd] at h1
        simpa using h1.symm
      simpa using this
    have hd' : ops.toList.drop (i + 1) = r := by
      rw [← List.drop_drop, hd]; rfl
    rw [List.length_cons, List.range'_succ, wpOps_cons]
    exact opG_sound hC hpan ho hp hr (fun t h a w hk hr => opsP_sound hC hpan hQ r (i + 1) t h a w hd' hk hr)

theorem readyL_eq (ops : Array Oper) (listed : List Bool) : Region.ready .any ops listed.toArray = readyL ops.toList listed := by
  unfold Region.ready readyL
  simp only [Array.length_toList]
  refine List.filter_congr fun i _ => ?_
  simp only [Array.getElem?_toList, Array.getD_eq_getD_getElem?, List.getD_eq_getElem?_getD, List.getElem?_toArray, ← Array.all_toList]
end

end Go.Proofs.Ytegcfogbdgmajaa.Ab
