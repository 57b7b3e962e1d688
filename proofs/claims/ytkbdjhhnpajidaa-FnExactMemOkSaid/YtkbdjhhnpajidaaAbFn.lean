/- Calls: a function whose arguments hold no memory of the caller's own runs in a memory of its own; what it gives is taken over. No condition. -/
import Derived.Test.YtkbdjhhnpajidaaAbSound
namespace Go.Proofs.Ytkbdjhhnpajidaa.Ab
set_option linter.unusedVariables false
set_option linter.unusedSimpArgs false

/-! ### Results -/

def resL (C : Ctx) (t : TS) : List ResultVar → HP → (List AV → HP → Prop) → Prop
  | [], h, k => k [] h
  | .tmp i :: r, h, k => getK t i fun a => resL C t r h fun l h => k (a :: l) h
  | .cell a ty :: r, h, k => getK t a fun p => loadP C ty p h fun x h => resL C t r h fun l h => k (x :: l) h
def oneK (l : List AV) (k : AV → Prop) : Prop := match l with | [x] => k x | l => k (.tup l)
def retP (C : Ctx) (rs : List ResultVar) (K : AV → HP → Prop) : Post
  | .normal, t, h => resL C t rs h fun l h => oneK l fun x => K x h
  | .ret, t, h => resL C t rs h fun l h => oneK l fun x => K x h
  | _, _, _ => False

section
variable {P : Program} {C : Ctx} {E : Env} {D : List Deferred × Nat} {t : TS} {h : HP} {a : Act} {w : World}

theorem resL_spec (hC : CtxOk P C) (f : ResultVar → Sem Value) (hf : ∀ u, f (.tmp u) = pure (a.tmps.getD u undef)) (hc : ∀ p ty, f (.cell p ty) = (do loadVar ty (← asAddr (a.tmps.getD p undef)))) :
    ∀ (rs : List ResultVar) (h : HP) (G : List Gh) (S : BS) (F : Nat → BS) (k : List AV → HP → Prop), Good E G h w S F → TR G w E.Ro S t a → resL C t rs h k →
    ∃ l h' G' F' us, k l h' ∧ Good E G' h' w S F' ∧ (∀ (i : Nat) (g : Gh), G[i]? = some g → G'[i]? = some g) ∧ (rs.mapM f).run P w = .ok us w ∧ l.length = us.length ∧ ∀ (j : Nat) x, l[j]? = some x → VR G' w E.Ro S x (us.getD j undef)
  | [], h, G, S, F, k, hg, ht, hp => ⟨[], h, G, F, [], hp, hg, fun _ _ h => h, by simp, rfl, by simp⟩
  | .tmp i :: r, h, G, S, F, k, hg, ht, hp => by
    simp only [resL, getK_eq] at hp
    obtain ⟨l, h', G', F', us, h1, h2, h3, h4, h5, h6⟩ := resL_spec hC f hf hc r h G S F _ hg ht hp
    refine ⟨_, h', G', F', a.tmps.getD i undef :: us, h1, h2, h3, by simp [List.mapM_cons, hf, h4], by simp [h5], fun j x hj => ?_⟩
    cases j with
    | zero => simp at hj; subst hj; simpa [List.getD_eq_getElem?_getD] using (ht.2 i).pre h3
    | succ j => simpa using h6 j x (by simpa using hj)
  | .cell p ty :: r, h, G, S, F, k, hg, ht, hp => by
    simp only [resL, getK_eq] at hp
    obtain ⟨y, h1, G1, F1, v, ad, b1, b2, b3, b4, b5, b6⟩ := loadP_spec hC hg (ht.2 p) hp
    obtain ⟨l, h', G', F', us, c1, c2, c3, c4, c5, c6⟩ := resL_spec hC f hf hc r h1 G1 S F1 _ b2 (ht.ext (hg.ext_none (Chg.refl w _) b3)) b1
    refine ⟨_, h', G', F', v :: us, c1, c2, fun i g hi => c3 i g (b3 i g hi), by simp [List.mapM_cons, hc, b4, asAddr, b5 w (Chg.refl w _), c4], by simp [c5], fun j x hj => ?_⟩
    cases j with
    | zero => simp at hj; subst hj; simpa using b6.pre c3
    | succ j => simpa using c6 j x (by simpa using hj)

theorem results_spec (hC : CtxOk P C) {fn : Func} {rs : List ResultVar} (hrs : fn.results.toList = rs) {G : List Gh} {S : BS} {F : Nat → BS} {K : AV → HP → Prop} (hg : Good E G h w S F) (ht : TR G w E.Ro S t a)
    (hp : resL C t rs h fun l h => oneK l fun x => K x h) :
    ∃ x h' G' F' v, K x h' ∧ Good E G' h' w S F' ∧ (∀ (i : Nat) (g : Gh), G[i]? = some g → G'[i]? = some g) ∧ (results fn a.tmps).run P w = .ok v w ∧ VR G' w E.Ro S x v := by
  have hr : fn.results = rs.toArray := by rw [← hrs]
  obtain ⟨l, h', G', F', us, h1, h2, h3, h4, h5, h6⟩ := resL_spec (P := P) hC (fun x => match x with | .tmp t => pure (a.tmps.getD t undef) | .cell p t => do loadVar t (← asAddr (a.tmps.getD p undef))) (fun _ => rfl) (fun _ _ => rfl) rs h G S F _ hg ht hp
  unfold oneK at h1
  have hrun : ∀ v, (if h : us.toArray.size = 1 then us.toArray[0] else .tuple us.toArray) = v → (results fn a.tmps).run P w = .ok v w := by
    intro v hv
    unfold results
    rw [hr, List.mapM_toArray]
    simp only [Sem.run_bind, Sem.run_map]
    erw [h4]
    simp [← hv]
  rcases l with _ | ⟨x, _ | ⟨y, r⟩⟩
  · cases us with
    | nil => exact ⟨.tup [], h', G', F', .tuple #[], h1, h2, h3, hrun _ (by simp), .tup [] [] rfl (by simp)⟩
    | cons u us => simp at h5
  · cases us with
    | nil => simp at h5
    | cons u us =>
      cases us with
      | nil => exact ⟨x, h', G', F', u, h1, h2, h3, hrun u (by simp), by simpa using h6 0 x rfl⟩
      | cons _ _ => simp at h5
  · refine ⟨.tup (x :: y :: r), h', G', F', .tuple us.toArray, h1, h2, h3, hrun _ ?_, .tup _ us h5 h6⟩
    rw [dif_neg]
    intro hs
    simp at h5 hs
    omega
end

/-! ### What goes from one call to another -/

/-- A cell that asks no root. -/
def AV.shut : AV → Bool
  | .top => true | .v _ => true | .nils => true | .imm true _ _ _ => true | .iptr true _ => true | .sl _ _ => true | .fn _ [] => true
  | _ => false
/-- An argument's leaf that asks no root. -/
def AV.pure1 : AV → Bool
  | .top => true | .v _ => true | .nils => true | .imm _ _ _ _ => true | .iptr _ _ => true | .fn _ [] => true
  | _ => false
def AV.pureA : AV → Bool
  | .agg l => l.all AV.pure1
  | x => x.pure1

theorem IR.ro {w : World} {Ro Ro2 S : BS} (hr : ∀ k, Ro k → Ro2 k) {t a x} (h : IR w Ro S t a x) : IR w Ro2 S t a x := by
  have hsel : ∀ {t : Bool} {b : Nat}, sel Ro S t b → sel Ro2 S t b := fun {t b} q => by
    cases t
    · exact q.imp (hr b) id
    · exact q
  induction h with
  | top t x h => exact .top t x h
  | v t x h => exact .v t x h
  | sl0 t s a c => exact .sl0 t s a c
  | sl t s l b off c cs T fz cv h1 h2 h3 h4 _ ih => exact .sl t s l b off c cs T fz cv (hsel h1) h2 h3 h4 ih
  | imm t t' z s l a n c h1 _ h3 ih => exact .imm t t' z s l a n c h1 ih h3
  | iptr t t' l b off cs T fz cv h0 h1 h2 h4 _ ih => exact .iptr t t' l b off cs T fz cv h0 (hsel h1) h2 h4 ih
  | fn t f caps vs h1 h2 _ ih => exact .fn t f caps vs h1 h2 ih

theorem IR.true_ro {w : World} {Ro Ro2 S : BS} {t a x} (h : IR w Ro S t a x) : t = true → IR w Ro2 S t a x := by
  induction h with
  | top t x h => exact fun _ => .top t x h
  | v t x h => exact fun _ => .v t x h
  | sl0 t s a c => exact fun _ => .sl0 t s a c
  | sl t s l b off c cs T fz cv h1 h2 h3 h4 _ ih => exact fun ht => .sl t s l b off c cs T fz cv (by subst ht; exact h1) h2 h3 h4 (fun j x hj => ih j x hj ht)
  | imm t t' z s l a n c h1 _ h3 ih => exact fun ht => .imm t t' z s l a n c h1 (ih (h1 ht)) h3
  | iptr t t' l b off cs T fz cv h0 h1 h2 h4 _ ih => exact fun ht => .iptr t t' l b off cs T fz cv h0 (by have := h0 ht; subst this; exact h1) h2 h4 (fun j x hj => ih j x hj (h0 ht))
  | fn t f caps vs h1 h2 _ ih => exact fun ht => .fn t f caps vs h1 h2 (fun j x hj => ih j x hj ht)

theorem OR.ro {w : World} {Ro Ro2 S : BS} {a x F} (h : OR w Ro S a x F) : OR w Ro2 S a x F := by
  induction h with
  | leaf a x h1 h2 => exact .leaf a x h1 (h2.true_ro rfl)
  | sl0 s a => exact .sl0 s a
  | sl s l b c cs T cv Fc h1 h2 h3 h4 h5 _ h7 h8 ih => exact .sl s l b c cs T cv Fc h1 h2 h3 h4 h5 ih h7 h8

theorem VR.shut {G G2 : List Gh} {w : World} {Ro Ro2 S : BS} {a x} (h : VR G w Ro S a x) (hs : a.shut = true) : VR G2 w Ro2 S a x := by
  cases h with
  | top x => exact .top x
  | nils => exact .nils
  | ptr => simp [AV.shut] at hs
  | slc => simp [AV.shut] at hs
  | agg => simp [AV.shut] at hs
  | tup => simp [AV.shut] at hs
  | fn f caps vs h1 h2 =>
    cases caps with
    | nil => exact .fn f [] vs h1 (by simp)
    | cons _ _ => simp [AV.shut] at hs
  | ir _ _ h1 h2 =>
    refine .ir _ _ h1 ?_
    cases h2 with
    | top _ _ h => exact .top _ _ h
    | v _ _ h => exact .v _ _ h
    | sl0 => simp [AV.isSl] at h1
    | sl => simp [AV.isSl] at h1
    | imm _ t' z s l a n c q1 q2 q3 =>
      cases t' with
      | true => exact .imm _ _ _ _ _ _ _ _ q1 (q2.true_ro rfl) q3
      | false => simp [AV.shut] at hs
    | iptr _ t' l b off cs T fz cv q0 q1 q2 q4 q5 =>
      cases t' with
      | true => exact .iptr _ _ l b off cs T fz cv q0 q1 q2 q4 (fun j x hj => (q5 j x hj).true_ro rfl)
      | false => simp [AV.shut] at hs
    | fn _ f caps vs q1 q2 q3 =>
      cases caps with
      | nil => exact .fn _ f [] vs q1 q2 (by simp)
      | cons _ _ => simp [AV.shut] at hs

theorem VR.pure1 {G G2 : List Gh} {w : World} {Ro Ro2 S : BS} (hr : ∀ k, Ro k → Ro2 k) {a x} (h : VR G w Ro S a x) (hs : a.pure1 = true) : VR G2 w Ro2 S a x := by
  cases h with
  | top x => exact .top x
  | nils => exact .nils
  | ptr => simp [AV.pure1] at hs
  | slc => simp [AV.pure1] at hs
  | agg => simp [AV.pure1] at hs
  | tup => simp [AV.pure1] at hs
  | fn f caps vs h1 h2 =>
    cases caps with
    | nil => exact .fn f [] vs h1 (by simp)
    | cons _ _ => simp [AV.pure1] at hs
  | ir _ _ h1 h2 => exact .ir _ _ h1 (h2.ro hr)

theorem VR.pureA {G G2 : List Gh} {w : World} {Ro Ro2 S : BS} (hr : ∀ k, Ro k → Ro2 k) {a x} (h : VR G w Ro S a x) (hs : a.pureA = true) : VR G2 w Ro2 S a x := by
  cases a with
  | agg l =>
    obtain ⟨vs, rfl, h1, h2, h3⟩ := h.agg_inv
    simp only [AV.pureA, List.all_eq_true] at hs
    exact .agg l vs h1 h2 (fun j x hj => (h3 j x hj).pure1 hr (hs x (List.mem_of_getElem? hj)))
  | _ => exact h.pure1 hr hs

theorem BlkR.shut {G G2 : List Gh} {w : World} {Ro Ro2 S : BS} {fl b cs F} (h : BlkR G w Ro S fl b cs F) (hs : ∀ x ∈ fl, x.shut = true) : BlkR G2 w Ro2 S fl b cs F := by
  obtain ⟨cv, Fc, h1, h2, h3, h4, h5⟩ := h
  refine ⟨cv, Fc, h1, fun j a hj => ?_, h3, h4, h5⟩
  rcases h2 j a hj with ⟨q1, q2, q3⟩ | q
  · exact .inl ⟨q1, q2.shut (hs a (List.mem_of_getElem? hj)), q3⟩
  · exact .inr q.ro

/-- The caller's memory and the callee's, which is about to be given up. -/
structure Two (E E' : Env) (G G' : List Gh) (h hc : HP) (w : World) (S : BS) (F F' : Nat → BS) : Prop where
  g1 : Good E G h w S F
  g2 : Good E' G' hc w S F'
  dis : ∀ r r' k, F r k → ¬ F' r' k
  ho : ∀ k, ¬ E'.O k
  sz : E.w0.heap.size ≤ E'.w0.heap.size

def out1 (x : AV) (hc h : HP) (k : AV → HP → HP → Prop) : Prop := match x with
  | .slc r 0 n z => rootK hc r fun rt => match rt with
    | .lst s l => (∀ e ∈ l, ∀ x ∈ e, x.shut = true) ∧ setK hc r .dead fun hc => newK h nums (.lst s l) fun m h => k (.slc m 0 n z) hc h
    | _ => False
  | .ptr r 0 0 n => rootK hc r fun rt => match rt with
    | .box l => (∀ x ∈ l, x.shut = true) ∧ setK hc r .dead fun hc => newK h nums (.box l) fun m h => k (.ptr m 0 0 n) hc h
    | _ => False
  | x => if x.shut && !x.isSl then k x hc h else False
def outL : List AV → HP → HP → (List AV → HP → HP → Prop) → Prop
  | [], hc, h, k => k [] hc h
  | x :: l, hc, h, k => out1 x hc h fun y hc h => outL l hc h fun l hc h => k (y :: l) hc h
def out2 (x : AV) (hc h : HP) (k : AV → HP → HP → Prop) : Prop := match x with
  | .agg l => outL l hc h fun l hc h => k (.agg l) hc h
  | x => out1 x hc h k
def outM : List AV → HP → HP → (List AV → HP → HP → Prop) → Prop
  | [], hc, h, k => k [] hc h
  | x :: l, hc, h, k => out2 x hc h fun y hc h => outM l hc h fun l hc h => k (y :: l) hc h
def out3 (x : AV) (hc h : HP) (k : AV → HP → HP → Prop) : Prop := match x with
  | .tup l => outM l hc h fun l hc h => k (.tup l) hc h
  | x => out2 x hc h k

section
variable {E E' : Env} {w : World} {S : BS}

theorem two_take {G G' h hc F F'} (T : Two E E' G G' h hc w S F F') {r : Nat} {rt : Root} {g : Gh} (hr : hc[r]? = some rt) (hgr : G'[r]? = some g) (hrt : ∀ G2, RootR G2 w E.Ro S rt g (F' r)) :
    ∃ F2 F2', Two E E' (G ++ [g]) G' (h ++ [rt]) (hc.set r .dead) w S F2 F2' ∧ (G ++ [g])[h.length]? = some g := by
  have hrl : r < hc.length := (List.getElem?_eq_some_iff.1 hr).1
  have a1 := T.g2.setRoot hrl hgr (Chg.refl w _) (rt' := .dead) (F' := fun _ => False) (fun _ h => h) (fun _ h => h.elim)
  have a2 := T.g1.addRoot g rt (F' r) (hrt _) (fun i k hk => T.dis i r k hk) (fun k hk => by
    have := T.g2.own r k hk
    refine ⟨this.1, .inr ?_, this.2.2⟩
    rcases this.2.1 with q | q
    · exact (T.ho k q).elim
    · exact Nat.le_trans T.sz q)
  refine ⟨_, _, ⟨a2, a1, ?_, T.ho, T.sz⟩, ?_⟩
  · intro i j k hi hj
    by_cases hj2 : j = r
    · simp [hj2] at hj
    · simp only [hj2, if_false] at hj
      by_cases hi2 : i = h.length
      · simp only [hi2, if_true] at hi
        exact hj2 (T.g2.dis j r k hj hi)
      · simp only [hi2, if_false] at hi
        exact T.dis i j k hi hj
  · rw [List.getElem?_append_right (by rw [T.g1.len]; exact Nat.le_refl _)]; simp [T.g1.len]

theorem out1_spec {G G' h hc F F'} (T : Two E E' G G' h hc w S F F') {x : AV} {v : Value} (hv : VR G' w E'.Ro S x v) {k : AV → HP → HP → Prop} (hp : out1 x hc h k) :
    ∃ y hc' h' G2 F2 F2', k y hc' h' ∧ Two E E' G2 G' h' hc' w S F2 F2' ∧ (∀ (i : Nat) (g : Gh), G[i]? = some g → G2[i]? = some g) ∧ VR G2 w E.Ro S y v := by
  unfold out1 at hp
  split at hp
  · rename_i r n z
    obtain ⟨g, ad, c, p1, p2, p3, p4, p5⟩ := hv.slc_inv
    obtain ⟨rt, hr, hp2⟩ := rootK_spec hp
    cases rt with
    | lst s l =>
      obtain ⟨hs, hp3⟩ := hp2
      rw [setK_eq] at hp3
      have hp4 := newK_spec hp3
      have hroot := T.g2.root r _ g hr p1
      obtain ⟨F2, F2', hT, hgl⟩ := two_take T hr p1 (fun G2 => by
        obtain ⟨q1, q2, q3⟩ := hroot
        refine ⟨q1, q2, q3.imp id ?_⟩
        rintro ⟨b, cs, T, u1, u2, u3, u4, u5⟩
        exact ⟨b, cs, T, u1, u2, u3, u4, u5.shut (fun x hx => by
          obtain ⟨e, he, hx⟩ := List.mem_flatten.1 hx
          exact hs e he x hx)⟩)
      subst p2
      exact ⟨_, _, _, _, F2, F2', hp4, hT, pre_append G g, .slc _ _ _ _ g ad c hgl p3 p4 p5⟩
    | _ => exact hp2.elim
  · rename_i r n
    obtain ⟨b, g, p1, p2, p3⟩ := hv.ptr_inv
    obtain ⟨rt, hr, hp2⟩ := rootK_spec hp
    cases rt with
    | box l =>
      obtain ⟨hs, hp3⟩ := hp2
      rw [setK_eq] at hp3
      have hp4 := newK_spec hp3
      have hroot := T.g2.root r _ g hr p1
      obtain ⟨F2, F2', hT, hgl⟩ := two_take T hr p1 (fun G2 => by
        obtain ⟨b, cs, T, u1, u2, u3, u5⟩ := hroot
        exact ⟨b, cs, T, u1, u2, u3, u5.shut hs⟩)
      subst p3
      exact ⟨_, _, _, _, F2, F2', hp4, hT, pre_append G g, .ptr _ _ _ _ b g hgl p2⟩
    | _ => exact hp2.elim
  · split at hp
    · rename_i hs
      simp only [Bool.and_eq_true] at hs
      exact ⟨x, hc, h, G, F, F', hp, T, fun _ _ h => h, hv.shut hs.1⟩
    · exact hp.elim

theorem outL_spec : ∀ (l : List AV) {G G' h hc F F'} (T : Two E E' G G' h hc w S F F') (vs : List Value) (hv : ∀ (j : Nat) x, l[j]? = some x → VR G' w E'.Ro S x (vs.getD j undef)) {k : List AV → HP → HP → Prop} (hp : outL l hc h k),
    ∃ y hc' h' G2 F2 F2', k y hc' h' ∧ Two E E' G2 G' h' hc' w S F2 F2' ∧ (∀ (i : Nat) (g : Gh), G[i]? = some g → G2[i]? = some g) ∧ y.length = l.length ∧ ∀ (j : Nat) x, y[j]? = some x → VR G2 w E.Ro S x (vs.getD j undef)
  | [], G, G', h, hc, F, F', T, vs, hv, k, hp => ⟨[], hc, h, G, F, F', hp, T, fun _ _ h => h, rfl, by simp⟩
  | x :: l, G, G', h, hc, F, F', T, vs, hv, k, hp => by
    obtain ⟨y, hc1, h1, G1, F1, F1', b1, b2, b3, b4⟩ := out1_spec T (hv 0 x rfl) hp
    obtain ⟨ys, hc2, h2, G2, F2, F2', c1, c2, c3, c4, c5⟩ := outL_spec l b2 vs.tail (fun j x hj => by
      have := hv (j + 1) x (by simpa using hj)
      cases vs <;> simpa using this) b1
    refine ⟨_, hc2, h2, G2, F2, F2', c1, c2, fun i g hi => c3 i g (b3 i g hi), by simp [c4], fun j x hj => ?_⟩
    cases j with
    | zero => simp at hj; subst hj; exact b4.pre c3
    | succ j =>
      have := c5 j x (by simpa using hj)
      cases vs <;> simpa using this

theorem out2_spec {G G' h hc F F'} (T : Two E E' G G' h hc w S F F') {x : AV} {v : Value} (hv : VR G' w E'.Ro S x v) {k : AV → HP → HP → Prop} (hp : out2 x hc h k) :
    ∃ y hc' h' G2 F2 F2', k y hc' h' ∧ Two E E' G2 G' h' hc' w S F2 F2' ∧ (∀ (i : Nat) (g : Gh), G[i]? = some g → G2[i]? = some g) ∧ VR G2 w E.Ro S y v := by
  unfold out2 at hp
  split at hp
  · rename_i l
    obtain ⟨vs, rfl, h1, h2, h3⟩ := hv.agg_inv
    obtain ⟨ys, hc2, h2', G2, F2, F2', c1, c2, c3, c4, c5⟩ := outL_spec l T vs h3 hp
    exact ⟨_, hc2, h2', G2, F2, F2', c1, c2, c3, .agg ys vs (c4.trans h1) h2 c5⟩
  · exact out1_spec T hv hp

theorem outM_spec : ∀ (l : List AV) {G G' h hc F F'} (T : Two E E' G G' h hc w S F F') (vs : List Value) (hv : ∀ (j : Nat) x, l[j]? = some x → VR G' w E'.Ro S x (vs.getD j undef)) {k : List AV → HP → HP → Prop} (hp : outM l hc h k),
    ∃ y hc' h' G2 F2 F2', k y hc' h' ∧ Two E E' G2 G' h' hc' w S F2 F2' ∧ (∀ (i : Nat) (g : Gh), G[i]? = some g → G2[i]? = some g) ∧ y.length = l.length ∧ ∀ (j : Nat) x, y[j]? = some x → VR G2 w E.Ro S x (vs.getD j undef)
  | [], G, G', h, hc, F, F', T, vs, hv, k, hp => ⟨[], hc, h, G, F, F', hp, T, fun _ _ h => h, rfl, by simp⟩
  | x :: l, G, G', h, hc, F, F', T, vs, hv, k, hp => by
    obtain ⟨y, hc1, h1, G1, F1, F1', b1, b2, b3, b4⟩ := out2_spec T (hv 0 x rfl) hp
    obtain ⟨ys, hc2, h2, G2, F2, F2', c1, c2, c3, c4, c5⟩ := outM_spec l b2 vs.tail (fun j x hj => by
      have := hv (j + 1) x (by simpa using hj)
      cases vs <;> simpa using this) b1
    refine ⟨_, hc2, h2, G2, F2, F2', c1, c2, fun i g hi => c3 i g (b3 i g hi), by simp [c4], fun j x hj => ?_⟩
    cases j with
    | zero => simp at hj; subst hj; exact b4.pre c3
    | succ j =>
      have := c5 j x (by simpa using hj)
      cases vs <;> simpa using this

theorem out3_spec {G G' h hc F F'} (T : Two E E' G G' h hc w S F F') {x : AV} {v : Value} (hv : VR G' w E'.Ro S x v) {k : AV → HP → HP → Prop} (hp : out3 x hc h k) :
    ∃ y hc' h' G2 F2 F2', k y hc' h' ∧ Two E E' G2 G' h' hc' w S F2 F2' ∧ (∀ (i : Nat) (g : Gh), G[i]? = some g → G2[i]? = some g) ∧ VR G2 w E.Ro S y v := by
  unfold out3 at hp
  split at hp
  · rename_i l
    obtain ⟨vs, rfl, h1, h3⟩ := hv.tup_inv
    obtain ⟨ys, hc2, h2', G2, F2, F2', c1, c2, c3, c4, c5⟩ := outM_spec l T vs h3 hp
    exact ⟨_, hc2, h2', G2, F2, F2', c1, c2, c3, .tup ys vs (c4.trans h1) c5⟩
  · exact out2_spec T hv hp
end

/-! ### A call in a memory of its own -/

def appK : List AV → TS → (TS → Prop) → Prop
  | [], t, k => k t
  | a :: l, t, k => appK l t fun t => k (a :: t)
theorem appK_eq (l : List AV) (t : TS) (k : TS → Prop) : appK l t k = k (l ++ t) := by
  induction l generalizing k with
  | nil => rfl
  | cons a l ih => simp only [appK, List.cons_append]; exact ih _

/-- A call whose arguments ask no root: 'n' temporaries, its results, its body. -/
def isoH (C : Ctx) (n : Nat) (rs : List ResultVar) (c : Code) : Handler := fun args h K =>
  args.all AV.pureA = true ∧ topsK (n - args.length) fun ts => appK args ts fun t => AWP C c (retP C rs fun x hc => out3 x hc h fun y _ h => K y h) t []

theorem HSound.mono {P : Program} {f : FuncId} {H H' : Handler} (h : HSound P f H) (hh : ∀ args h K, H' args h K → H args h K) : HSound P f H' :=
  fun E G S F hp w args vs K h1 h2 h3 h4 => h E G S F hp w args vs K h1 h2 h3 (hh _ _ _ h4)

theorem isoH_sound {P : Program} {C : Ctx} (hC : CtxOk P C) (hm : P.follows .mixedOrders = true) {f : FuncId} {fn : Func} {c : Code} {n : Nat} {rs : List ResultVar} (hf : P.funcs[f]? = some fn) (hb : fn.body = some c) (hn : fn.ntmps = n)
    (hrs : fn.results.toList = rs) : HSound P f (isoH C n rs c) := by
  intro E G S F h w args vs K hg hl hv ⟨hpure, hp⟩
  rw [topsK_eq, appK_eq] at hp
  refine calls_of_wp hf hb ?_
  have hro : ∀ k, E.Ro k → (Env.mk w (fun _ => False) S).Ro k := fun k hk => ⟨hg.ro_lt hk, fun h => h⟩
  have g0 : Good ⟨w, fun _ => False, S⟩ [] [] w S (fun _ _ => False) :=
    ⟨rfl, by simp, by simp, by simp, by simp, hg.sb, fun _ h => h, fun _ h => .inl h, Nat.le_refl _, rfl, rfl, rfl, fun _ _ => rfl⟩
  refine awp_sound (D := ([], (vs.toArray ++ Array.replicate (fn.ntmps - vs.toArray.size) undef).size)) hC hm c _ _ [] _ w _ hp ⟨[], S, fun _ _ => False, g0, ⟨?_, fun i => ?_⟩, rfl, rfl⟩ ?_
  · simp [hl, hn]
  · rw [List.getD_eq_getElem?_getD, List.getElem?_append]
    split
    · rename_i hi
      have hiv : i < vs.length := by omega
      have := hv i args[i] (List.getElem?_eq_getElem hi)
      rw [List.getElem?_eq_getElem hi]
      have hp := List.all_eq_true.1 hpure args[i] (List.getElem_mem _)
      have := this.pureA (G2 := []) hro hp
      simpa [Array.getD_eq_getD_getElem?, List.getD_eq_getElem?_getD, Array.getElem?_append, hiv] using this
    · rw [List.getElem?_replicate]
      split <;> exact .top _
  · intro e t' hc a' w' hk ⟨G', S', F', hg', ht', hd'⟩
    have fin : (resL C t' rs hc fun l h_1 => oneK l fun x => out3 x h_1 h fun y _ h => K y h) → ∃ v, (results fn a'.tmps).run P w' = .ok v w' ∧ ∃ x h' v' G' S' F', Ending.returned v = .returned v' ∧ K x h' ∧ Good E G' h' w' S' F' ∧ Ext E G w S G' w' S' ∧ VR G' w' E.Ro S' x v' := by
      intro hk
      obtain ⟨x, hc1, G1, F1, v, b1, b2, b3, b4, b5⟩ := results_spec (K := fun x h_1 => out3 x h_1 h fun y _ h => K y h) hC hrs hg' ht' hk
      have hsame : ∀ k, k < w.heap.size → w'.heap[k]? = w.heap[k]? := fun k hk => b2.fr k ⟨hk, fun h => h⟩
      have e0 : Ext E G w S G w' S' := ⟨fun _ _ h => h, b2.s0, fun k hk => hsame k (hg.sb k hk), fun k hk => hsame k (hg.ro_lt hk)⟩
      have gc : Good E G h w' S' F := by
        constructor
        · exact hg.len
        · exact fun i rt g h1 h2 => (hg.root i rt g h1 h2).ext e0 (fun k hk => hsame k (hg.own i k hk).1)
        · exact hg.dis
        · exact hg.out
        · intro r k hk
          have := hg.own r k hk
          refine ⟨Nat.lt_of_lt_of_le this.1 b2.size, this.2.1, fun hs => ?_⟩
          rcases b2.sn k hs with q | q | q
          · exact this.2.2 q
          · exact q
          · simp only at q; omega
        · exact b2.sb
        · exact fun k hk => b2.s0 k (hg.s0 k hk)
        · intro k hk
          rcases b2.sn k hk with q | q | q
          · exact hg.sn k q
          · exact q.elim
          · exact .inr (.inr (Nat.le_trans hg.size q))
        · exact Nat.le_trans hg.size b2.size
        · exact b2.os.trans hg.os
        · exact b2.tape.trans hg.tape
        · exact b2.output.trans hg.output
        · exact fun k hk => (hsame k (hg.ro_lt hk)).trans (hg.fr k hk)
      have T : Two E ⟨w, fun _ => False, S⟩ G G1 h hc1 w' S' F F1 := ⟨gc, b2, fun r r' k h1 h2 => by
        have q1 := (hg.own r k h1).1
        rcases (b2.own r' k h2).2.1 with q | q
        · exact q
        · simp only at q; omega, fun _ h => h, hg.size⟩
      obtain ⟨y, hc2, h2, G2, F2, F2', c1, c2, c3, c4⟩ := out3_spec T b5 b1
      exact ⟨v, b4, y, h2, v, G2, S', F2, rfl, c1, c2.g1, ⟨c3, e0.s, e0.ss, e0.ro⟩, c4⟩
    cases e <;> simp only [retP] at hk
    · obtain ⟨v, q1, q2⟩ := fin hk
      exact ⟨hd'.1, v, q1, q2⟩
    all_goals first
      | exact hk.elim
      | (obtain ⟨v, q1, q2⟩ := fin hk; exact ⟨hd'.1, v, q1, q2⟩)

end Go.Proofs.Ytkbdjhhnpajidaa.Ab
